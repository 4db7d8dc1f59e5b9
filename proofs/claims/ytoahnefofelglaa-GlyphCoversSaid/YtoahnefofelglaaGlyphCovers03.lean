/- A part of the proof of GlyphCovers; no condition. -/
import Derived.Test.YtoahnefofelglaaGlyphCovers02
import Derived.Lib.ConvBytes
import Derived.Laws.AppendOwn
set_option linter.unusedVariables false
set_option linter.unusedSimpArgs false
set_option linter.unusedSectionVars false
noncomputable section
section
namespace Go.AM
def Mq (S:Hp) (d:AV) (n:Nat) (new:List AV):Option (AV × Hp):=
 match n with
 | 0=>(match new with|[]=>some (.int .i64 0,S)|_=>none)
 | m+1=>(match d with
   | .sl b o _ _=>(match oM S b o new with|some S'=>some (.int .i64 (Int.ofNat (m+1)),S')|none=>none)
   | .su b o _ _=>(match oM S b o new with|some S'=>some (.int .i64 (Int.ofNat (m+1)),S')|none=>none)
   | _=>none)
def GV (x:AV):Bool:=match x with|.str _=>true|_=>false
def PU (x:AV):Bool:=match x with|.nils=>true|.sl _ _ _ _=>true|.su _ _ _ _=>true|_=>false
def Mr (E:i3) (S:Hp) (dT:Nat) (d s:AV):Option (AV × Hp):=
 match A4 E dT with
 | some (.slice e)=>(match q7 E e,U1 s,U1 d,PU d,GV s with
   | some z,some ls,some ld,true,false=>(match y6 S z (Nat.min ls ld) s with
     | some new=>Mq S d (Nat.min ls ld) new
     | none=>none)
   | _,_,_,_,_=>none)
 | _=>none
section
variable {E:i3} (hE:E.Ok) {γ:Gm} {S:Hp}
include hE
theorem Ms {dT:Nat} {d s r:AV} {S':Hp} (h:Mr E S dT d s=some (r,S')) {d' s':Value} (hd:VR γ d d') (hs:VR γ s s') {ts:Array TypeId} {args:Array Value} (ht:ts[0]? = some dT) (ty:TypeId)
 (h0:args[0]? = some d') (h1:args[1]? = some s') {ng:Nat}:yA E.P γ ng S (Builtin.copy_ ts ty args) r S':=by
 intro w hH
 unfold Mr at h
 split at h
 ·rename_i e hu
  split at h
  ·rename_i z ls ld hz hls hld hsl hst
   split at h
   ·rename_i new hnew
    obtain ⟨new',g1,g2⟩:=gO (P:=E.P) hH hnew hs (.inr (fun b e=>by rw [e] at hst;cases hst))
    have hlen:=Dp (P:=E.P) hls hs w
    have hrun:∀ base len cap,d'=.slice base len cap→len=ld→(Builtin.copy_ ts ty args).run E.P w=((match base with|some a=>Go.storeCells a new'|none=>pure ()).run E.P w).andThen fun _ w=>.ok (goInt (Nat.min ls ld)) w:=by
     intro base len cap hb hl
     subst hb hl
     unfold Builtin.copy_
     simp only [ht,h0,h1,Sem.run_bind,i5 hE hu,q6 hE hz,Result.andThen_ok,hlen,g1]
     cases base with
     | none=>rfl
     | some a =>
       show ((do Go.storeCells a new';pure (goInt (Nat.min ls len)):Sem Value)).run E.P w=_
       simp only [Sem.run_bind,Sem.run_pure]
    unfold Mq at h
    split at h
    ·rename_i hn
     split at h
     ·cases h
      have hn0:new' = []:=by cases g2;rfl
      refine ⟨γ,goInt 0,w,?_,.int .i64 0,hH,j6.refl _ _ _⟩
      cases hd with
      | nils=>cases hld;rw [hrun _ _ _ rfl rfl];rw [hn];rfl
      | sl o l c hL=>cases hld;rw [hrun _ _ _ rfl rfl,hn,hn0];rfl
      | su o l c z hL _ _ _=>cases hld;rw [hrun _ _ _ rfl rfl,hn,hn0];rfl
      | _=>cases hsl
     ·cases h
    ·rename_i m hn
     split at h
     ·rename_i b o l c
      split at h
      ·rename_i S1 hp
       cases h
       cases hd with
       | sl _ _ _ hL =>
         cases hld
         obtain ⟨γ',w',k1,k2,k3⟩:=eK hp hL g2 (P:=E.P) w hH
         refine ⟨γ',goInt (Int.ofNat (m+1)),w',?_,.int .i64 _,k2,k3⟩
         rw [hrun _ _ _ rfl rfl,hn]
         simp only [k1,Result.andThen_ok]
         rfl
      ·cases h
     ·rename_i b o l zz
      split at h
      ·rename_i S1 hp
       cases h
       cases hd with
       | su _ _ _ _ hL _ _ _ =>
         cases hld
         obtain ⟨γ',w',k1,k2,k3⟩:=eK hp hL g2 (P:=E.P) w hH
         refine ⟨γ',goInt (Int.ofNat (m+1)),w',?_,.int .i64 _,k2,k3⟩
         rw [hrun _ _ _ rfl rfl,hn]
         simp only [k1,Result.andThen_ok]
         rfl
      ·cases h
     ·cases h
   ·cases h
  ·cases h
 ·cases h
end
inductive AD where
 | mark (b:Ps)
 | call (f:Nat) (args cap:List AV)
inductive DR (γ:Gm):AD→Deferred→Prop where
 | mark {b:Ps} {L:Loc} (h:γ b=some L):DR γ (.mark b) { target:=.collected L.blk,args:=#[] }
 | call {a c:List AV} {a' c':List Value} (f:Nat) (h:LR γ a a') (hc:LR γ c c'):DR γ (.call f a c) { target:=.fn (.func f) ⟨c'⟩,args:=⟨a'⟩ }
theorem DR.mono {γ γ':Gm} (hg:Gm.le γ γ') {d:AD} {d':Deferred} (h:DR γ d d'):DR γ' d d':=by
 cases h with
 | mark h=>exact .mark (hg _ _ h)
 | call f h hc=>exact .call f (h.mono hg) (hc.mono hg)
inductive RO where
 | v (x:AV) (S:Hp)
 | call (f:Nat) (args:List AV)
 | yld (l:Ps) (args:List AV)
 | dfr (d:AD)
 | pan (x:AV)
 | rcv
def vS (S:Hp) (o:Option AV):Option RO:=Option.rec none (fun x=>some (.v x S)) o
def vP (o:Option (AV × Hp)):Option RO:=Option.rec none (fun p=>some (.v p.1 p.2)) o
def vU (o:Option Hp):Option RO:=Option.rec none (fun S=>some (.v (.tup []) S)) o
def b1 {α:Type} (o:Option AV) (f:AV→Option α):Option α:=Option.rec none f o
abbrev W6:=i3→Tm→Hp→Nat→Option RO
def Mt (x:Operand):W6:=fun E tm S _=>vS S (n6 E.ng tm x)
def CT (c a b:Operand):W6:=fun E tm S _=>b1 (n6 E.ng tm c) fun c=>match c with|.bool true=>vS S (n6 E.ng tm a)|.bool false=>vS S (n6 E.ng tm b)|_=>none
def GW (t:Nat):W6:=fun E _ S _=>vP (sF E S t)
def PV (t:Nat) (x:Operand):W6:=fun E tm S _=>b1 (n6 E.ng tm x) fun v=>Bool.rec none (some (.v (.ptr S.nx 0) (S.alloc (.cells (j1 v) t true false 0 0)))) (D6 v)
def gW (ng:Nat) (tm:Tm) (l:List (Nat × Operand)):Option (List (Nat × AV)):=
 List.rec (some []) (fun p _ ih=>Prod.rec (fun i x=>Option.rec none (fun y=>Bool.rec none (Option.rec none (fun t=>some ((i,y)::t)) ih) (D6 y)) (n6 ng tm x)) p) l
def Mu (t:Nat) (ps:Array (Nat × Operand)):W6:=fun E tm S _=>Option.rec none (fun l=>vS S (yO E t l)) (gW E.ng tm ps.toList)
def Ds (t len:Nat) (ps:Array (Nat × Operand)):W6:=fun E tm S _=>Option.rec none (fun l=>vP (sG E S t len l)) (gW E.ng tm ps.toList)
def CU (t:Nat) (a:Operand):W6:=fun E tm S _=>b1 (n6 E.ng tm a) fun a=>vS S (uN E S t a)
def Mv (t:Nat) (a x:Operand):W6:=fun E tm S _=>b1 (n6 E.ng tm a) fun a=>b1 (n6 E.ng tm x) fun v=>vU (lM E S t a v)
def GX (v:AV):Bool:=match v with|.nilp=>false|.nili=>false|.nilf=>false|.any=>false|_=>true
def PW (x:Operand):W6:=fun E tm S _=>b1 (n6 E.ng tm x) fun v=>Bool.rec none (some (.v v S)) (GX v)
def PX (op:BinOp) (t:Nat) (x y:Operand) (_:Nat):W6:=fun E tm S _=>b1 (n6 E.ng tm x) fun a=>b1 (n6 E.ng tm y) fun b=>vS S (CQ E op t x y a b)
def YK (op:UnOp) (_:Nat) (x:Operand):W6:=fun E tm S _=>b1 (n6 E.ng tm x) fun a=>vS S (un op a)
def CV (s d:Nat) (x:Operand):W6:=fun E tm S _=>b1 (n6 E.ng tm x) fun a=>vS S (pT E S s d a)
def Mw (d:TypeDesc):Bool:=match d with|.interface _=>false|_=>true
def GY (E:i3) (t:Nat) (x:AV):Option AV:=match A4 E t with|some d=>Bool.rec none (some (.ifc t x)) (Mw d)|none=>none
def PY (t:Nat) (x:Operand):W6:=fun E tm S _=>b1 (n6 E.ng tm x) fun a=>vS S (GY E t a)
def Mx (fn:Fn) (first cap:Array Operand):W6:=fun E tm S _ =>
 match fn with
 | .func f=>Option.rec none (fun a=>Option.rec none (fun c=>some (.v (.fn f a c) S)) (F4 E.ng tm cap.toList)) (F4 E.ng tm first.toList)
 | _=>none
def WM (_:Nat) (r:Option Operand):W6:=fun _ _ S _=>match r with|none=>some (.v (.mp S.nx) (S.alloc (.map [] 0)))|some _=>none
def My (t:Nat) (l c:Operand):W6:=fun E tm S _=>b1 (n6 E.ng tm l) fun l=>b1 (n6 E.ng tm c) fun c=>vP (lN E S t l c)
def kD (ng:Nat) (tm:Tm) (x:Option Operand):Option (Option AV):=Option.rec (some none) (fun x=>Option.rec none (fun v=>some (some v)) (n6 ng tm x)) x
def Mz (t:Nat) (x:Operand) (lo hi mx:Option Operand):W6:=fun E tm S _=>b1 (n6 E.ng tm x) fun a =>
 match kD E.ng tm lo,kD E.ng tm hi,kD E.ng tm mx with
 | some lo,some hi,some mx=>vS S (rY E S t a lo hi mx)
 | _,_,_=>none
def Na (t:Nat) (x:Operand) (f:Nat):W6:=fun E tm S _=>b1 (n6 E.ng tm x) fun a=>vS S (rR E t a f)
def Nb (t:Nat) (x:Operand) (f:Nat):W6:=fun E tm S _=>b1 (n6 E.ng tm x) fun a=>vS S (yM E t a f)
def Nc (t:Nat) (x i:Operand):W6:=fun E tm S _=>b1 (n6 E.ng tm x) fun a=>b1 (n6 E.ng tm i) fun i=>vS S (gK E t a i)
def Nd (t:Nat) (x i:Operand):W6:=fun E tm S _=>b1 (n6 E.ng tm x) fun a=>b1 (n6 E.ng tm i) fun i=>vS S (rT E t a i)
def CW (t:Nat) (x k:Operand) (ok:Bool):W6:=fun E tm S _=>b1 (n6 E.ng tm x) fun a=>b1 (n6 E.ng tm k) fun k=>vS S (bV E S t a k ok)
def Ne (t:Nat) (m k x:Operand):W6:=fun E tm S _=>b1 (n6 E.ng tm m) fun m=>b1 (n6 E.ng tm k) fun k=>b1 (n6 E.ng tm x) fun x=>vU (dH E S t m k x)
def PZ (x:Operand) (i:Nat):W6:=fun E tm S _=>b1 (n6 E.ng tm x) fun a=>match a with|.tup l=>vS S (nth l i)|_=>none
def QA (E:i3) (x:AV) (a:Nat) (ok:Bool):Option AV:=
 match x with
 | .ifc t v=>(match Nat.beq t a,ok with
  | true,true=>some (.tup [v,.bool true])
  | true,false=>some v
  | false,true=>(match G3 E a with|some z=>some (.tup [z,.bool false])|none=>none)
  | false,false=>none)
 | .nili=>(match ok with|true=>(match G3 E a with|some z=>some (.tup [z,.bool false])|none=>none)|false=>none)
 | _=>none
def GZ (E:i3) (x:AV) (a:Nat) (ok:Bool):Option AV:=match A4 E a with|some d=>Bool.rec none (QA E x a ok) (Mw d)|none=>none
def QD (x:Operand) (_ a:Nat) (ok:Bool):W6:=fun E tm S _=>b1 (n6 E.ng tm x) fun v=>vS S (GZ E v a ok)
def Hc (c:Nat) (l:List Nat):Nat→Option Nat:=List.rec (motive:=fun _=>Nat→Option Nat) (fun _=>none) (fun x _ ih i=>Bool.rec (ih (Nat.succ i)) (some i) (Nat.beq x c)) l
def QI (r:Option Nat):Int:=Option.rec (Int.negSucc 0) (fun i=>Int.ofNat i) r
def Nf (x:Un) (args:List AV):Option AV:=
 match x with
 | .sqrt=>(match args with
   | [.flt .f64 b]=>(match FloatKind.f64.format.sqrt b with|some r=>some (.flt .f64 r)|none=>none)
   | _=>none)
 | .noEscape=>(match args with|[x]=>some x|_=>none)
 | .idxByte=>(match args with|[.str s,.int .u8 z]=>some (.int .i64 (QI (Hc (Nat.mod z.toNat 256) s 0)))|_=>none)
def QJ (E:i3) (S:Hp) (f:Nat) (args:List AV):Option RO:=
 match T.get (Ps.of f) E.ext with
 | some (some x)=>vS S (Nf x args)
 | _=>none
def Ng (E:i3) (S:Hp) (f:AV) (args:List AV):Option RO:=
 match f with
 | .fn f first cap=>(match T.get (Ps.of f) E.funcs with|some (some _)=>some (.call f (lapp (lapp first args) cap))|_=>QJ E S f (lapp (lapp first args) cap))
 | .yl l=>some (.yld l args)
 | _=>none
def mm (g:AV→AV→Option AV) (l:List AV) (x:AV):Option AV:=List.rec (motive:=fun _=>AV→Option AV) (fun x=>some x) (fun y _ ih x=>Option.rec none ih (g x y)) l x
def sL (E:i3) (S:Hp) (b:Builtin) (ts:List Nat) (args:List AV):Option RO:=
 match b with
 | .len=>(match ts,args with|t::_,x::_=>vS S (Vd E S t x)|_,_=>none)
 | .append=>(match ts,args with|s::t::_,x::y::_=>vP (eN E S s t x y)|_,_=>none)
 | .max=>(match args with|x::l=>vS S (mm Ls l x)|[]=>none)
 | .min=>(match args with|x::l=>vS S (mm Lt l x)|[]=>none)
 | .unsafeSliceData=>(match args with|[x]=>vS S (zC x)|_=>none)
 | .unsafeString=>(match ts,args with|[t,_],[p,n]=>vP (Dr E S t p n)|_,_=>none)
 | .copy=>(match ts,args with|t::_,x::y::_=>vP (Mr E S t x y)|_,_=>none)
 | .recover=>some .rcv
 | _=>none
def CX (c:Call):W6:=fun E tm S _ =>
 Option.rec none (fun args=>match c.callee with
  | .value f=>b1 (n6 E.ng tm f) fun f=>Ng E S f args
  | .builtin b=>sL E S b c.argTypes.toList args
  | .invoke _ _=>none) (F4 E.ng tm c.args.toList)
def Nh (c:Call):W6:=fun E tm _ _ =>
 Option.rec none (fun args=>match c.callee with
  | .value f=>b1 (n6 E.ng tm f) fun f=>match f with
    | .fn f first cap=>some (.dfr (.call f (List.append first args) cap))
    | _=>none
  | _=>none) (F4 E.ng tm c.args.toList)
def Ni (x:Operand):W6:=fun E tm _ _=>b1 (n6 E.ng tm x) fun v=>match v with|.ifc t v=>some (.pan (.ifc t v))|_=>none
def Vh {α:Type} (_:α):W6:=fun _ _ _ _=>none
def Hd {α β:Type} (_:α) (_:β):W6:=fun _ _ _ _=>none
def QK {α β δ:Type} (_:α) (_:β) (_:δ):W6:=fun _ _ _ _=>none
def WN {α β δ ε:Type} (_:α) (_:β) (_:δ) (_:ε):W6:=fun _ _ _ _=>none
def O6 (o:Op):W6:=
 Op.rec (motive:=fun _=>W6) Mt Mt CT GW PV Mu Ds Ne CU Mv Vh Vh PW PX YK CV Hd PY Mx WM Hd My Mz Na Nb Nc Nd CW Ne QK WN
  Hd Hd Vh QD PZ CX Vh Nh Ni Hd QK Hd o
def O7 (E:i3) (γ:Gm) (S:Hp) (w:World) (s:Sem Next):RO→Prop
 | .v x S'=>∃ γ' v w',(s.run E.P w=.ok (.value v) w'∨(s.run E.P w=.ok .skip w'∧v=undef))∧VR γ' x v∧HR γ' E.ng S' w'∧j6 S γ w S' γ' w'
 | .call f args=>∃ vs,s.run E.P w=.ok (.enter f ⟨vs⟩) w∧LR γ args vs∧∃ i,T.get (Ps.of f) E.funcs=some (some i)
 | .yld l args=>∃ L vs,γ l=some L∧LR γ args vs∧∀ w,(s.run E.P w=(Instr.yield L.blk ⟨vs⟩).run E.P w)
 | .dfr d=>∃ d',s.run E.P w=.ok (.defer d') w∧DR γ d d'
 | .pan x=>∃ v,s.run E.P w=.halt (.panic v) w∧VR γ x v
 | .rcv=>s.run E.P w=.ok .recover w
theorem zD {α β:Type} (f:α→β) (a:Array α):a.map f=⟨a.toList.map f⟩:=by rw [← Array.toList_map]
section
variable {E:i3} (hE:E.Ok) {γ:Gm} {S:Hp} {w:World}
theorem O7.val {s:Sem Value} {x:AV} {S':Hp} (h:∃ γ' v w',s.run E.P w=.ok v w'∧VR γ' x v∧HR γ' E.ng S' w'∧j6 S γ w S' γ' w'):O7 E γ S w (do pure (.value (← s))) (.v x S'):=by
 obtain ⟨γ',v,w',h1,h2⟩:=h
 exact ⟨γ',v,w',.inl (by simp only [Sem.run_bind,h1,Result.andThen_ok,Sem.run_pure]),h2⟩
theorem O7.unit {s:Sem Unit} {S':Hp} (h:∃ γ' w',s.run E.P w=.ok () w'∧HR γ' E.ng S' w'∧j6 S γ w S' γ' w'):O7 E γ S w (do s;pure .skip) (.v (.tup []) S'):=by
 obtain ⟨γ',w',h1,h2⟩:=h
 exact ⟨γ',undef,w',.inr ⟨by simp only [Sem.run_bind,h1,Result.andThen_ok,Sem.run_pure],rfl⟩,.undef,h2⟩
theorem j4 {α:Type} {o:Option AV} {f:AV→Option α} {r:α} (h:b1 o f=some r):∃ x,o=some x∧f x=some r:=by
 cases o with
 | none=>cases h
 | some x=>exact ⟨x,rfl,h⟩
theorem l9 {S:Hp} {o:Option AV} {r:RO} (h:vS S o=some r):∃ x,o=some x∧r=.v x S:=by
 cases o with
 | none=>cases h
 | some x=>cases h;exact ⟨x,rfl,rfl⟩
theorem cT {o:Option (AV × Hp)} {r:RO} (h:vP o=some r):∃ x S,o=some (x,S)∧r=.v x S:=by
 cases o with
 | none=>cases h
 | some p=>obtain ⟨x,S⟩:=p;cases h;exact ⟨x,S,rfl,rfl⟩
theorem Du {o:Option Hp} {r:RO} (h:vU o=some r):∃ S,o=some S∧r=.v (.tup []) S:=by
 cases o with
 | none=>cases h
 | some S=>cases h;exact ⟨S,rfl,rfl⟩
theorem m9 {α β:Type} {o:Option α} {f:α→Option β} {r:β} (h:(Option.rec none f o:Option β)=some r):∃ x,o=some x∧f x=some r:=by
 cases o with
 | none=>cases h
 | some x=>exact ⟨x,rfl,h⟩
theorem u0.opr {s:Sem Value} {x:AV} (h:u0 E.P γ s x) (hH:HR γ E.ng S w):O7 E γ S w (do pure (.value (← s))) (.v x S):=
 O7.val (let ⟨v,h1,h2⟩:=h w;⟨γ,v,w,h1,h2,hH,j6.refl _ _ _⟩)
theorem O7.here {s:Sem Value} {x:AV} (hH:HR γ E.ng S w) (h:∃ v,s.run E.P w=.ok v w∧VR γ x v):O7 E γ S w (do pure (.value (← s))) (.v x S):=
 O7.val (let ⟨v,h1,h2⟩:=h;⟨γ,v,w,h1,h2,hH,j6.refl _ _ _⟩)
theorem yA.opr {s:Sem Value} {x:AV} {S':Hp} (h:yA E.P γ E.ng S s x S') (hH:HR γ E.ng S w):O7 E γ S w (do pure (.value (← s))) (.v x S'):=O7.val (h w hH)
theorem Gx.opr {s:Sem Unit} {S':Hp} (h:Gx E.P γ E.ng S s S') (hH:HR γ E.ng S w):O7 E γ S w (do s;pure .skip) (.v (.tup []) S'):=O7.unit (h w hH)
variable {tm:Tm} {fr:Frame} (hT:TR γ tm fr.tmps) (hH:HR γ E.ng S w)
include hT hH
theorem uW {x:Operand} {v:AV} (h:n6 E.ng tm x=some v):VR γ v (fr.eval x):=rN hT hH.glob h
theorem lS {l:List Operand} {r:List AV} (h:F4 E.ng tm l=some r):LR γ r (l.map fr.eval):=Vb hT hH.glob h
theorem Dv {l:List (Nat × Operand)} {r:List (Nat × AV)} (h:gW E.ng tm l=some r):PR γ r (l.map fun (i,x)=>(i,fr.eval x)):=by
 induction l generalizing r with
 | nil=>cases h;exact .nil
 | cons p l ih =>
   have h':(Option.rec none (fun y=>Bool.rec none (Option.rec none (fun t=>some ((p.1,y)::t)) (gW E.ng tm l)) (D6 y)) (n6 E.ng tm p.2):Option (List (Nat × AV)))=some r:=h
   obtain ⟨y,h1,h2⟩:=m9 h'
   obtain ⟨hn,h2⟩:=d5 h2
   obtain ⟨t,h3,h4⟩:=m9 h2
   cases h4
   exact .cons _ (uW hT hH h1) hn (ih h3)
theorem gX {x:Option Operand} {v:Option AV} (h:kD E.ng tm x=some v):xZ γ v (x.map fr.eval):=by
 cases x with
 | none=>cases h;trivial
 | some x =>
   obtain ⟨y,h1,h2⟩:=m9 (o:=n6 E.ng tm x) h
   cases h2
   exact uW hT hH h1
include hE
omit hT hH in
theorem Vi {x r:AV} {a:Nat} {ok:Bool} (h:GZ E x a ok=some r) {x':Value} (hx:VR γ x x') (xT:Nat):u0 E.P γ (Instr.typeAssert x' xT a ok) r:=by
 unfold GZ at h
 cases hu:A4 E a with
 | none=>rw [hu] at h;cases h
 | some D =>
   rw [hu] at h
   obtain ⟨hn,h2⟩:=d5 h
   have hni:∀ ms,D≠.interface ms:=by intro ms e;subst e;cases hn
   clear h
   unfold QA at h2
   have fails:∀ z,G3 E a=some z→r=.tup [z,.bool false]→(∀ w,(Instr.typeAssert x' xT a true).run E.P w=((Go.zeroValue a).run E.P w).andThen fun v w=>.ok (.tuple #[v,.bool false]) w)→u0 E.P γ (Instr.typeAssert x' xT a true) r:=by
    intro z hz hr hrun
    subst hr
    obtain ⟨v,hv,hvr⟩:=N4 hE hz γ
    exact .mk (v:=.tuple #[v,.bool false]) (fun w=>by rw [hrun,hv];rfl) (.tup (.cons hvr (.cons (.bool false) .nil)))
   split at h2
   ·rename_i t v
    cases hx with
    | ifc _ hv =>
      split at h2
      ·rename_i hb
       cases h2
       have:=Nat.eq_of_beq_eq_true hb
       subst this
       refine .mk (fun w=>?_) (.tup (.cons hv (.cons (.bool true) .nil)))
       simp only [Instr.typeAssert,Sem.run_bind,i5 hE hu,Result.andThen_ok]
       cases D <;> first|rfl|(simp;done)|exact (hni _ rfl).elim
      ·rename_i hb
       cases h2
       have:=Nat.eq_of_beq_eq_true hb
       subst this
       refine .mk (fun w=>?_) hv
       simp only [Instr.typeAssert,Sem.run_bind,i5 hE hu,Result.andThen_ok]
       cases D <;> first|rfl|(simp;done)|exact (hni _ rfl).elim
      ·rename_i hb
       split at h2
       ·rename_i z hz
        cases h2
        have hne:t≠a:=fun e=>by rw [e,i9] at hb;simp at hb
        refine fails z hz rfl (fun w=>?_)
        simp only [Instr.typeAssert,Sem.run_bind,i5 hE hu,Result.andThen_ok]
        cases D <;> first|exact (hni _ rfl).elim|(simp [hne];done)
       ·cases h2
      ·cases h2
   ·cases hx
    split at h2
    ·split at h2
     ·rename_i z hz
      cases h2
      refine fails z hz rfl (fun w=>?_)
      simp only [Instr.typeAssert,Sem.run_bind,i5 hE hu,Result.andThen_ok]
      cases D <;> first|exact (hni _ rfl).elim|(simp;done)
     ·cases h2
    ·cases h2
   ·cases h2
omit hT hH in
theorem Vj {x r:AV} {t:Nat} (h:GY E t x=some r) {x':Value} (hx:VR γ x x'):u0 E.P γ (Instr.makeInterface t x') r:=by
 unfold GY at h
 split at h
 ·rename_i D hu
  obtain ⟨hn,h2⟩:=d5 h
  cases h2
  refine .mk (fun w=>?_) (.ifc t hx)
  simp only [Instr.makeInterface,Sem.run_bind,i5 hE hu,Result.andThen_ok]
  cases D <;> first|rfl|cases hn
 ·cases h
omit hT hH hE in
theorem CY {g:AV→AV→Option AV} {g':Value→Value→Sem Value} (hg:∀ {a b r:AV} {a' b':Value},g a b=some r→VR γ a a'→VR γ b b'→u0 E.P γ (g' a' b') r) {l:List AV} {l':List Value} (hl:LR γ l l') :
 ∀ {x r:AV} {x':Value},VR γ x x'→mm g l x=some r→u0 E.P γ (l'.foldlM g' x') r:=by
 induction l generalizing l' with
 | nil=>intro x r x' hx h;cases hl;cases h;exact .mk (fun w=>rfl) hx
 | cons y l ih =>
   intro x r x' hx h
   cases hl with
   | @cons _ y' _ l' hy ht =>
     have h':(Option.rec none (mm g l) (g x y):Option AV)=some r:=h
     obtain ⟨z,h1,h2⟩:=m9 h'
     intro w
     obtain ⟨v,hv1,hv2⟩:=hg h1 hx hy w
     obtain ⟨u,hu1,hu2⟩:=ih ht hv2 h2 w
     exact ⟨u,by simp only [List.foldlM_cons,Sem.run_bind,hv1,Result.andThen_ok,hu1],hu2⟩
omit hE hT hH in
theorem Dw (b:ByteArray) (c:UInt8):∀ (l:List UInt8) (k:Nat),b.data.toList.drop k=l→(List.range' k l.length).find? (fun i=>b[i]! == c)=Hc c.toNat (l.map UInt8.toNat) k
 | [],k,_=>rfl
 | x :: t,k,h=>by
   have hk:b.data.toList[k]? = some x:=by
    have:(b.data.toList.drop k)[0]? = some x:=by rw [h];rfl
    rwa [List.getElem?_drop,Nat.add_zero] at this
   have hlt:k < b.data.toList.length:=(List.getElem?_eq_some_iff.1 hk).1
   have hsz:k < b.size:=by rw [Array.length_toList] at hlt;exact hlt
   have hx:b[k]! = x:=by
    rw [getElem!_pos b k hsz]
    have e:b[k]=b.data[k]'hsz:=rfl
    rw [e]
    have:=List.getElem?_eq_some_iff.1 hk
    obtain ⟨h1,h2⟩:=this
    rw [← h2]
    exact (Array.getElem_toList ..).symm
   have hd:b.data.toList.drop (k+1)=t:=by
    have:(b.data.toList.drop k).drop 1=t:=by rw [h];rfl
    rwa [List.drop_drop] at this
   have ih:=Dw b c t (k+1) hd
   rw [List.length_cons,List.range'_succ,List.find?_cons,hx]
   show _=(Bool.rec (Hc c.toNat (t.map UInt8.toNat) (k+1)) (some k) (Nat.beq x.toNat c.toNat):Option Nat)
   have e2:(x == c)=Nat.beq x.toNat c.toNat:=by
    rw [i9,Bool.eq_iff_iff,beq_iff_eq,decide_eq_true_iff]
    exact UInt8.toNat_inj.symm
   rw [← e2]
   cases (x == c) with
   | true=>rfl
   | false=>exact ih
omit hE hT hH in
theorem Vk {x:Un} {args:List AV} {r:AV} (h:Nf x args=some r) {args':List Value} (ha:LR γ args args'):∃ v,(x.sem ⟨args'⟩).run E.P w=.ok v w∧VR γ r v:=by
 cases x with
 | sqrt =>
   unfold Nf at h
   simp only at h
   split at h
   ·rename_i b
    split at h
    ·rename_i r' hr
     cases h
     cases ha with
     | cons hx hn =>
       cases hx
       cases hn
       refine ⟨.float .f64 r',?_,.flt _ _⟩
       have e:Extern.MathSqrt.sqrt #[.float .f64 b]=(match FloatKind.f64.format.sqrt b with|some r=>pure (.float .f64 r)|none=>do pure (.float .f64 (← choose (.nanBits .f64 b b)))):=rfl
       show (Extern.MathSqrt.sqrt #[.float .f64 b]).run E.P w=_
       rw [e,hr]
       rfl
    ·cases h
   ·cases h
 | noEscape =>
   unfold Nf at h
   simp only at h
   split at h
   ·cases h
    cases ha with
    | cons hx hn =>
      cases hn
      exact ⟨_,rfl,hx⟩
   ·cases h
 | idxByte =>
   unfold Nf at h
   simp only at h
   split at h
   ·rename_i s z
    cases h
    cases ha with
    | @cons _ b' _ l' hx hn =>
      cases hn with
      | @cons _ c' _ l2 hy hn =>
        cases hn
        cases hy
        cases hx with
        | str sb =>
          refine ⟨.int .i64 (QI (Hc (Nat.mod z.toNat 256) (j5 sb) 0)),?_,.int _ _⟩
          have hr:(List.range sb.size).find? (fun i=>sb[i]! == z.toNat.toUInt8)=Hc (Nat.mod z.toNat 256) (j5 sb) 0:=by
           have:=Dw sb z.toNat.toUInt8 sb.data.toList 0 (by simp)
           rw [Array.length_toList] at this
           rw [List.range_eq_range']
           rw [show (z.toNat.toUInt8).toNat=Nat.mod z.toNat 256 from by simp;rfl] at this
           exact this
          have e:Extern.BytealgIndexByte.indexByte #[.string sb,.int .u8 z]=(match (List.range sb.size).find? (fun i=>sb[i]! == z.toNat.toUInt8) with|some i=>pure (goInt i)|none=>pure (goInt (-1))):=rfl
          show (Extern.BytealgIndexByte.indexByte #[.string sb,.int .u8 z]).run E.P w=_
          rw [e,hr]
          cases Hc (Nat.mod z.toNat 256) (j5 sb) 0 <;> rfl
   ·cases h
omit hT in
theorem Nj {f:AV} {args:List AV} {r:RO} (h:Ng E S f args=some r) {f':Value} {args':List Value} (hf:VR γ f f') (ha:LR γ args args') :
 O7 E γ S w (do let d ← Deferred.ofValue f' ⟨args'⟩;invoke d.target d.args) r:=by
 unfold Ng at h
 split at h
 ·rename_i f first cap
  split at h
  ·rename_i i hi
   cases h
   cases hf with
   | @fn _ _ first' cap' _ h1 h2 =>
     obtain ⟨fn,g1,g2,g3,g4,g5⟩:=hE.funcs f i hi
     refine ⟨first'++args'++cap',?_,?_,i,hi⟩
     ·simp only [Deferred.ofValue,Sem.run_bind,Sem.run_pure,Result.andThen_ok,invoke,callFunc,Go.program,Sem.run,g1]
      simp [g5,g2]
     ·exact (h1.lapp ha).lapp h2
  ·unfold QJ at h
   split at h
   ·rename_i x hx
    obtain ⟨v,h3,rfl⟩:=l9 h
    cases hf with
    | @fn _ _ first' cap' _ h1 h2 =>
      obtain ⟨fn,g1,g2,g3,g4,g5⟩:=hE.ext f x hx
      obtain ⟨v',e1,e2⟩:=Vk (E:=E) (w:=w) h3 ((h1.lapp ha).lapp h2)
      refine ⟨γ,v',w,.inl ?_,e2,hH,j6.refl _ _ _⟩
      have e1':(x.sem (first'++(args'++cap')).toArray).run E.P w=.ok v' w:=by rw [List.append_assoc] at e1;exact e1
      simp only [Deferred.ofValue,Sem.run_bind,Sem.run_pure,Result.andThen_ok,invoke,callFunc,Go.program,Sem.run,g1]
      simp [g2,g3,g4,g5,e1',Go.mark,Sem.run]
   ·cases h
 ·cases h
  cases hf with
  | @yl _ L hL =>
    exact ⟨L,args',hL,ha,fun w=>by simp [Deferred.ofValue,invoke]⟩
 ·cases h
omit hT in
theorem He {b:Builtin} {ts:Array TypeId} {ty:TypeId} {consts:Array Bool} {args:List AV} {r:RO} (h:sL E S b ts.toList args=some r) {args':List Value} (ha:LR γ args args') :
 O7 E γ S w (builtin b ts ty consts ⟨args'⟩) r:=by
 have hts:∀ {t:Nat} {l:List Nat},ts.toList=t::l→ts[0]? = some t:=by
  intro t l e;rw [← Array.getElem?_toList,e];rfl
 have hts1:∀ {t u:Nat} {l:List Nat},ts.toList=t::u::l→ts[1]? = some u:=by
  intro t u l e;rw [← Array.getElem?_toList,e];rfl
 unfold sL at h
 split at h
 ·split at h
  ·rename_i t tl x xl e1
   obtain ⟨y,h1,rfl⟩:=l9 h
   cases ha with
   | cons hx _=>exact O7.here hH (Dn hE h1 hx hH (hts e1) rfl)
  ·cases h
 ·split at h
  ·rename_i t u tl x y xl e1
   obtain ⟨z,S',h1,rfl⟩:=cT h
   cases ha with
   | cons hx hl=>cases hl with
     | cons hy _=>exact (bU hE h1 hx hy (hts e1) (hts1 e1) ty rfl rfl).opr hH
  ·cases h
 ·split at h
  ·obtain ⟨z,h1,rfl⟩:=l9 h
   cases ha with
   | cons hx hl=>exact (CY (fun h ha hb=>Lu h ha hb) hl hx h1).opr hH
  ·cases h
 ·split at h
  ·obtain ⟨z,h1,rfl⟩:=l9 h
   cases ha with
   | cons hx hl=>exact (CY (fun h ha hb=>Lv h ha hb) hl hx h1).opr hH
  ·cases h
 ·split at h
  ·obtain ⟨z,h1,rfl⟩:=l9 h
   cases ha with
   | cons hx hl =>
     cases hl
     exact (pU h1 hx ts ty).opr hH
  ·cases h
 ·split at h
  ·rename_i t it p n e1
   obtain ⟨z,S',h1,rfl⟩:=cT h
   cases ha with
   | cons hx hl=>cases hl with
     | cons hy hn =>
       cases hn
       have e2:ts = #[t,it]:=by rw [← Array.toArray_toList (xs:=ts),e1]
       subst e2
       exact (uV hE h1 hx hy ty).opr hH
  ·cases h
 ·split at h
  ·rename_i t tl x y xl e1
   obtain ⟨z,S',h1,rfl⟩:=cT h
   cases ha with
   | cons hx hl=>cases hl with
     | cons hy _=>exact (Ms hE h1 hx hy (hts e1) ty rfl rfl).opr hH
  ·cases h
 ·cases h;rfl
 ·cases h
set_option maxHeartbeats 4000000 in
theorem Nk {o:Oper} {r:RO} (h:O6 o.op E tm S o.type=some r):O7 E γ S w (execOp fr.eval o) r:=by
 obtain ⟨dst,op,type,pos,after,guard⟩:=o
 have ev:=fun {x v} h=>uW (E:=E) hT hH (x:=x) (v:=v) h
 cases op with
 | move x =>
   obtain ⟨v,h1,rfl⟩:=l9 (o:=n6 E.ng tm x) h
   exact ⟨γ,fr.eval x,w,.inl rfl,ev h1,hH,j6.refl _ _ _⟩
 | assign x =>
   obtain ⟨v,h1,rfl⟩:=l9 (o:=n6 E.ng tm x) h
   exact ⟨γ,fr.eval x,w,.inl rfl,ev h1,hH,j6.refl _ _ _⟩
 | pick c a b =>
   obtain ⟨cv,h1,h2⟩:=j4 (o:=n6 E.ng tm c) h
   have hc:=ev h1
   split at h2
   ·obtain ⟨v,h3,rfl⟩:=l9 h2
    generalize hcv:fr.eval c=cv' at hc
    cases hc
    exact ⟨γ,fr.eval a,w,.inl (by simp [execOp,hcv,asBool]),ev h3,hH,j6.refl _ _ _⟩
   ·obtain ⟨v,h3,rfl⟩:=l9 h2
    generalize hcv:fr.eval c=cv' at hc
    cases hc
    exact ⟨γ,fr.eval b,w,.inl (by simp [execOp,hcv,asBool]),ev h3,hH,j6.refl _ _ _⟩
   ·cases h2
 | alloc t =>
   obtain ⟨v,S',h1,rfl⟩:=cT (o:=sF E S t) h
   exact (Ha hE h1).opr hH
 | box t x =>
   obtain ⟨v,h1,h2⟩:=j4 (o:=n6 E.ng tm x) h
   obtain ⟨hn,h2⟩:=d5 h2
   cases h2
   exact (GQ (ev h1) hn).opr hH
 | build t ps =>
   obtain ⟨l,h1,h2⟩:=m9 (o:=gW E.ng tm ps.toList) h
   obtain ⟨v,h3,rfl⟩:=l9 h2
   have:=(Gw hE h3 (Dv hT hH h1)).opr hH
   show O7 E γ S w (do pure (.value (← Instr.build t (ps.map fun (i,x)=>(i,fr.eval x))))) _
   rw [zD];exact this
 | buildSlice t len ps =>
   obtain ⟨l,h1,h2⟩:=m9 (o:=gW E.ng tm ps.toList) h
   obtain ⟨v,S',h3,rfl⟩:=cT h2
   have:=(yS hE h3 (Dv hT hH h1)).opr hH
   show O7 E γ S w (do pure (.value (← Instr.buildSlice t len (ps.map fun (i,x)=>(i,fr.eval x))))) _
   rw [zD];exact this
 | insert t m k x =>
   obtain ⟨m',h1,h2⟩:=j4 (o:=n6 E.ng tm m) h
   obtain ⟨k',h3,h4⟩:=j4 h2
   obtain ⟨x',h5,h6⟩:=j4 h4
   obtain ⟨S',h7,rfl⟩:=Du h6
   exact (cS hE h7 (ev h1) (ev h3) (ev h5)).opr hH
 | load t a =>
   obtain ⟨a',h1,h2⟩:=j4 (o:=n6 E.ng tm a) h
   obtain ⟨v,h3,rfl⟩:=l9 h2
   exact O7.here hH (eI hE hH h3 (ev h1))
 | store t a x =>
   obtain ⟨a',h1,h2⟩:=j4 (o:=n6 E.ng tm a) h
   obtain ⟨x',h3,h4⟩:=j4 h2
   obtain ⟨S',h5,rfl⟩:=Du h4
   exact (pO hE h5 (ev h1) (ev h3)).opr hH
 | ready g=>cases h
 | waits g=>cases h
 | nilCheck x =>
   obtain ⟨v,h1,h2⟩:=j4 (o:=n6 E.ng tm x) h
   obtain ⟨h3,h4⟩:=d5 h2
   cases h4
   have hv:=ev h1
   refine ⟨γ,fr.eval x,w,.inl ?_,hv,hH,j6.refl _ _ _⟩
   show (match fr.eval x with
    | .pointer none|.nilIface|.nilFunc=>runtimePanic .nilDeref
    | .func (.method name) first captured =>
      match (first[0]? : Option Value) with
      | some .nilIface=>runtimePanic .nilDeref
      | some (.iface t w)=>do
        if (← nilAhead ((← program).types.size+Made.depth) t w name) != some false then
         unsupported (.noEntry "op/nilCheck.the method's receiver behind this interface value is a nil pointer, or cannot be seen to be none, and the arguments act or may panic (ledger 612)")
        pure (.value (.func (.method name) first captured))
      | _=>pure (.value (.func (.method name) first captured))
    | x=>pure (.value x):Sem Next).run E.P w=_
   generalize fr.eval x=u at hv ⊢
   cases hv <;> first|rfl|cases h3
 | binOp op t x y yt =>
   obtain ⟨a,h1,h2⟩:=j4 (o:=n6 E.ng tm x) h
   obtain ⟨b,h3,h4⟩:=j4 h2
   obtain ⟨v,h5,rfl⟩:=l9 h4
   exact (yL hE h5 (ev h1) (ev h3)).opr hH
 | unOp op t x =>
   obtain ⟨a,h1,h2⟩:=j4 (o:=n6 E.ng tm x) h
   obtain ⟨v,h5,rfl⟩:=l9 h2
   exact (PN h5 (ev h1)).opr hH
 | convert s d x =>
   obtain ⟨a,h1,h2⟩:=j4 (o:=n6 E.ng tm x) h
   obtain ⟨v,h5,rfl⟩:=l9 h2
   exact O7.here hH (Mo hE hH h5 (ev h1))
 | sliceToArrayPointer a x=>cases h
 | makeInterface t x =>
   obtain ⟨a,h1,h2⟩:=j4 (o:=n6 E.ng tm x) h
   obtain ⟨v,h5,rfl⟩:=l9 h2
   exact (Vj hE h5 (ev h1)).opr hH
 | makeFunc fn first cap =>
   cases fn with
   | func f =>
     obtain ⟨a,h1,h2⟩:=m9 (o:=F4 E.ng tm first.toList) h
     obtain ⟨c,h3,h4⟩:=m9 h2
     cases h4
     refine ⟨γ,.func (.func f) (first.map fr.eval) (cap.map fr.eval),w,.inl (by simp [execOp,Instr.makeFunc]),?_,hH,j6.refl _ _ _⟩
     have e1:first.map fr.eval=⟨first.toList.map fr.eval⟩:=zD _ _
     have e2:cap.map fr.eval=⟨cap.toList.map fr.eval⟩:=zD _ _
     rw [e1,e2]
     exact .fn f (lS hT hH h1) (lS hT hH h3)
   | _=>cases h
 | makeMap t r =>
   cases r with
   | none=>cases h;exact yX.opr hH
   | some x=>cases h
 | makeChan t s=>cases h
 | makeSlice t l c =>
   obtain ⟨a,h1,h2⟩:=j4 (o:=n6 E.ng tm l) h
   obtain ⟨b,h3,h4⟩:=j4 h2
   obtain ⟨v,S',h5,rfl⟩:=cT h4
   exact (gN hE h5 (ev h1) (ev h3)).opr hH
 | slice t x lo hi mx =>
   obtain ⟨a,h1,h2⟩:=j4 (o:=n6 E.ng tm x) h
   split at h2
   ·rename_i lo' hi' mx' g1 g2 g3
    obtain ⟨v,h5,rfl⟩:=l9 h2
    exact O7.here hH (pN hE hH h5 (ev h1) (gX hT hH g1) (gX hT hH g2) (gX hT hH g3))
   ·cases h2
 | fieldAddr t x f =>
   obtain ⟨a,h1,h2⟩:=j4 (o:=n6 E.ng tm x) h
   obtain ⟨v,h5,rfl⟩:=l9 h2
   exact (pJ hE h5 (ev h1)).opr hH
 | field t x f =>
   obtain ⟨a,h1,h2⟩:=j4 (o:=n6 E.ng tm x) h
   obtain ⟨v,h5,rfl⟩:=l9 h2
   exact (Gs hE h5 (ev h1)).opr hH
 | indexAddr t x i =>
   obtain ⟨a,h1,h2⟩:=j4 (o:=n6 E.ng tm x) h
   obtain ⟨b,h3,h4⟩:=j4 h2
   obtain ⟨v,h5,rfl⟩:=l9 h4
   exact (bT hE h5 (ev h1) (ev h3)).opr hH
 | index t x i =>
   obtain ⟨a,h1,h2⟩:=j4 (o:=n6 E.ng tm x) h
   obtain ⟨b,h3,h4⟩:=j4 h2
   obtain ⟨v,h5,rfl⟩:=l9 h4
   exact (pK hE h5 (ev h1) (ev h3)).opr hH
 | lookup t x k ok =>
   obtain ⟨a,h1,h2⟩:=j4 (o:=n6 E.ng tm x) h
   obtain ⟨b,h3,h4⟩:=j4 h2
   obtain ⟨v,h5,rfl⟩:=l9 h4
   exact O7.here hH (yW hE hH h5 (ev h1) (ev h3))
 | mapUpdate t m k x =>
   obtain ⟨m',h1,h2⟩:=j4 (o:=n6 E.ng tm m) h
   obtain ⟨k',h3,h4⟩:=j4 h2
   obtain ⟨x',h5,h6⟩:=j4 h4
   obtain ⟨S',h7,rfl⟩:=Du h6
   exact (cS hE h7 (ev h1) (ev h3) (ev h5)).opr hH
 | mapEntry t m k=>cases h
 | entryStore t m s x=>cases h
 | range t x=>cases h
 | next i s=>cases h
 | entry i=>cases h
 | typeAssert x xt a ok =>
   obtain ⟨v,h1,h2⟩:=j4 (o:=n6 E.ng tm x) h
   obtain ⟨u,h5,rfl⟩:=l9 h2
   exact (Vi hE h5 (ev h1) xt).opr hH
 | extract x i =>
   obtain ⟨a,h1,h2⟩:=j4 (o:=n6 E.ng tm x) h
   have ha:=ev h1
   split at h2
   ·rename_i l
    obtain ⟨v,h5,rfl⟩:=l9 h2
    rw [H8] at h5
    refine O7.here hH ?_
    generalize fr.eval x=u at ha ⊢
    cases ha with
    | tup hl =>
      obtain ⟨y,h6,h7⟩:=hl.nth i h5
      exact ⟨y,by simp [Instr.extract,h6],h7⟩
   ·cases h2
 | call c =>
   obtain ⟨args,h1,h2⟩:=m9 (o:=F4 E.ng tm c.args.toList) h
   have ha:=lS hT hH h1
   have e1:c.args.map fr.eval=⟨c.args.toList.map fr.eval⟩:=zD _ _
   obtain ⟨callee,cargs,ats⟩:=c
   cases callee with
   | value f =>
     obtain ⟨fv,h3,h4⟩:=j4 h2
     have:=Nj hE hH h4 (ev h3) ha
     show O7 E γ S w (do let d ← resolve fr.eval _ type;invoke d.target d.args) r
     simp only [resolve]
     rw [e1]
     exact this
   | invoke a n=>cases h2
   | builtin b =>
     show O7 E γ S w (do let d ← resolve fr.eval _ type;invoke d.target d.args) r
     simp only [resolve]
     rw [e1]
     simp only [pure_bind,invoke]
     exact He hE hH h2 ha
 | go c=>cases h
 | defer c =>
   obtain ⟨args,h1,h2⟩:=m9 (o:=F4 E.ng tm c.args.toList) h
   have ha:=lS hT hH h1
   have e1:c.args.map fr.eval=⟨c.args.toList.map fr.eval⟩:=zD _ _
   obtain ⟨callee,cargs,ats⟩:=c
   cases callee with
   | value f =>
     obtain ⟨fv,h3,h4⟩:=j4 h2
     have hf:=ev h3
     split at h4
     ·rename_i f2 first cap
      cases h4
      generalize hfe:fr.eval f=fe at hf
      cases hf with
      | @fn _ _ first' cap' _ g1 g2 =>
        refine ⟨{ target:=.fn (.func f2) ⟨cap'⟩,args:=⟨first'++cargs.toList.map fr.eval⟩ },?_,.call f2 (g1.append ha) g2⟩
        show (do let d ← resolve fr.eval _ type;pure (Next.defer d):Sem Next).run E.P w=_
        simp only [resolve]
        rw [e1,hfe]
        simp [Deferred.ofValue]
     ·cases h4
   | invoke a n=>cases h2
   | builtin b=>cases h2
 | panic x =>
   obtain ⟨v,h1,h2⟩:=j4 (o:=n6 E.ng tm x) h
   have hv:=ev h1
   split at h2
   ·cases h2
    generalize hfe:fr.eval x=fe at hv
    have hv':=hv
    cases hv with
    | ifc t hv2 =>
      refine ⟨_,?_,hv'⟩
      show (do pure (Next.value (← Instr.panic (fr.eval x))):Sem Next).run E.P w=_
      rw [hfe]
      simp [Instr.panic,goPanic,Sem.run]
   ·cases h2
 | send c x=>cases h
 | recv t c ok=>cases h
 | select cs b=>cases h
end
def Dx (E:i3) (S:Hp) (s d:Nat) (x:AV):Option (AV × Hp):=
 match x with
 | .str b=>(match A4 E s,A4 E d with
   | some _,some (.slice e)=>(match A4 E e with
     | some (.int .u8)=>some (.su S.nx 0 b.length 1,S.alloc (.cells (OD b) e false true 0 0))
     | _=>none)
   | _,_=>none)
 | _=>none
def OF (o:Op):W6:=fun E tm S _ =>
 match o with
 | .convert s d x=>b1 (n6 E.ng tm x) fun v=>vP (Dx E S s d v)
 | _=>none
section
variable {E:i3} (hE:E.Ok) {γ:Gm} {tm:Tm} {S:Hp} {fr:Frame} {w:World} (hT:TR γ tm fr.tmps) (hH:HR γ E.ng S w)
include hE hH in
theorem Nl {s d:Nat} {x r:AV} {S':Hp} (h:Dx E S s d x=some (r,S')) {x':Value} (hx:VR γ x x'):∃ γ' v w',(convert s d x').run E.P w=.ok v w'∧VR γ' r v∧HR γ' E.ng S' w'∧j6 S γ w S' γ' w':=by
 unfold Dx at h
 split at h
 ·rename_i b
  split at h
  ·rename_i u e h1 h2
   split at h
   ·rename_i h3
    cases h
    cases hx with
    | str sb =>
      have hcap:=grownCap_ge w sb.size 0 e
      have hrun:=Lib.run_convert_string_bytes w s d e sb (L6 hE h1) (L6 hE h2) (L6 hE h3)
      have hsz:(Lib.bytesCells w e sb).size=grownCap w sb.size 0 e:=by
       unfold Lib.bytesCells
       simp only [Array.size_append,Array.size_map,Array.size_replicate]
       show sb.size+_=_
       omega
      have hw:(Lib.bytesWorld w e sb).heap=w.heap.push (.cells (Lib.bytesCells w e sb) e ((Lib.bytesCells w e sb).size,(Lib.bytesCells w e sb).size+1)):=by
       apply Array.ext_getElem?
       intro i
       rcases Nat.lt_trichotomy i w.heap.size with hlt|heq|hgt
       ·rw [Lib.bytesWorld_at_old w e sb i hlt,Array.getElem?_push_lt hlt,Array.getElem?_eq_getElem hlt]
       ·subst heq
        rw [Lib.bytesWorld_at_new];simp
       ·rw [Array.getElem?_eq_none (by rw [Lib.bytesWorld_size];omega),Array.getElem?_eq_none (by simp;omega)]
      obtain ⟨h4,h5⟩:=hH.alloc (w':=Lib.bytesWorld w e sb) (ob:=.cells (Lib.bytesCells w e sb) e ((Lib.bytesCells w e sb).size,(Lib.bytesCells w e sb).size+1)) (siz:=grownCap w sb.size 0 e)
       (o:=.cells (OD (j5 sb)) e false true 0 0) hw rfl rfl
       ⟨[],sb.data.toList.map fun b=>Value.int .u8 b.toNat,List.replicate (grownCap w sb.size 0 e - sb.size) (.int .u8 0),_,by
         congr 1
         apply Array.ext'
         simp [Lib.bytesCells],rfl,uG.of_eq (by
         simp only [List.nil_append,List.length_append,List.length_map,Array.length_toList,List.length_replicate]
         show sb.size+_=_
         omega),Me _,⟨fun p _ h6 _=>.inl (by show grownCap w sb.size 0 e≤p;rw [← hsz];exact h6),fun e=>(by cases e)⟩,Nat.zero_le _,fun e=>(by cases e)⟩
      refine ⟨_,_,_,hrun,?_,h4,h5⟩
      rw [y4]
      exact .su (L:=⟨w.heap.size,0,grownCap w sb.size 0 e⟩) 0 sb.size (grownCap w sb.size 0 e) 1 (Gm.with_same _ _ _) hcap (by decide) (by simp)
   ·cases h
  ·cases h
 ·cases h
include hE hT hH in
theorem HA {o:Oper} {r:RO} (h:OF o.op E tm S o.type=some r):O7 E γ S w (execOp fr.eval o) r:=by
 obtain ⟨dst,op,type,pos,after,guard⟩:=o
 cases op with
 | convert s d x =>
   obtain ⟨v,h1,h2⟩:=j4 (o:=n6 E.ng tm x) h
   obtain ⟨r',S',h3,rfl⟩:=cT (o:=Dx E S s d v) h2
   obtain ⟨γ',v',w',g1,g2,g3,g4⟩:=Nl hE hH h3 (uW (E:=E) hT hH h1)
   exact ⟨γ',v',w',.inl (by show (do pure (.value (← convert s d (fr.eval x))):Sem Next).run E.P w=_;rw [Sem.run_bind,g1];rfl),g2,g3,g4⟩
 | _=>cases h
theorem uX {o:Oper} {E:i3} {tm:Tm} {S:Hp} {r:RO} (h:OF o.op E tm S o.type=some r):∀ c,o.op≠.defer c:=by
 intro c e
 rw [e] at h
 cases h
end
theorem X8 {f g:Nat→List AV}:∀ {n:Nat},(∀ i,i < n→f i=g i)→i7 f n=i7 g n
 | 0,_=>rfl
 | n+1,h=>by show i7 f n++f n=i7 g n++g n;rw [X8 (fun i hi=>h i (by omega)),h n (by omega)]
section
variable {z:Nat} {f:Nat→List AV}
theorem o5:∀ {n:Nat},(∀ i,i < n→(f i).length=z)→(i7 f n).length=n * z
 | 0,_=>by show ([]:List AV).length=0 * z;simp
 | n+1,h=>by
   show (i7 f n++f n).length=(n+1) * z
   rw [List.length_append,o5 (fun i hi=>h i (by omega)),h n (by omega),Nat.succ_mul]
theorem kE:∀ {n:Nat},(∀ i,i < n→(f i).length=z)→∀ {i:Nat},i < n→i7 f n=i7 f i++(f i++(i7 f n).drop ((i+1) * z))
 | 0,_,i,hi=>by omega
 | n + 1,h,i,hi=>by
   have hl:(i7 f n).length=n * z:=o5 (fun i hi=>h i (by omega))
   by_cases e:i=n
   ·subst e
    have hd:(i7 f (i+1)).drop ((i+1) * z) = []:=List.drop_eq_nil_of_le (by rw [o5 h];exact Nat.le_refl _)
    rw [hd,List.append_nil];rfl
   ·have ih:=kE (n:=n) (fun i hi=>h i (by omega)) (i:=i) (by omega)
    have hle:(i+1) * z≤n * z:=Nat.mul_le_mul_right z (by omega)
    have e1:i7 f (n+1)=i7 f n++f n:=rfl
    rw [e1,List.drop_append_of_le_length (by rw [hl];exact hle)]
    conv=>lhs;rw [ih]
    simp
theorem pV {n:Nat} (h:∀ i,i < n→(f i).length=z) {i k:Nat} (hi:i < n) (hk:k≤z):∃ r,(i7 f n).drop (i * z+k)=(f i).drop k++r:=by
 refine ⟨(i7 f n).drop ((i+1) * z),?_⟩
 conv=>lhs;rw [kE h hi]
 have hl:(i7 f i).length=i * z:=o5 (fun j hj=>h j (by omega))
 rw [← hl,← List.drop_drop,List.drop_left,List.drop_append_of_le_length (by rw [h i hi];exact hk)]
theorem Hf {α:Type}:∀ (m:Nat) (l r l':List α),t9 m l=some l'→t9 m (l++r)=some l':=by
 intro m l r l' h
 obtain ⟨e,hle⟩:=E7 h
 have h1 : t9 m (l++r)=some ((l++r).take m):=by
  have key:∀ (m:Nat) (l:List α),m≤l.length→t9 m l=some (l.take m):=by
   intro m
   induction m with
   | zero=>intro l _;cases l <;> rfl
   | succ m ih =>
     intro l hl
     cases l with
     | nil=>simp at hl
     | cons x l =>
       show (Option.rec none (fun r=>some (x::r)) (t9 m l):Option (List α))=_
       rw [ih l (by simpa using hl)];rfl
  exact key m _ (by rw [List.length_append];omega)
 rw [h1,e,List.take_append_of_le_length hle]
theorem zE {E:i3} {n:Nat} (h:∀ i,i < n→(f i).length=z) {t i k:Nat} {v:AV} (hi:i < n) (hl:aQ E t (f i) k=some v):aQ E t (i7 f n) (Nat.add (Nat.mul i z) k)=some v:=by
 show aQ E t (i7 f n) (i * z+k)=some v
 rw [lJ] at hl ⊢
 unfold sB at hl ⊢
 split at hl
 ·rename_i m h1 h2
  split at hl
  ·rename_i l h3
   cases hl
   obtain ⟨e,hle⟩:=E7 h3
   rw [E6] at h3 hle
   by_cases hk:k≤z
   ·obtain ⟨r,hr⟩:=pV h hi hk
    rw [E6,hr,Hf _ _ r _ h3]
   ·have:m=0:=by rw [List.length_drop,h i hi] at hle;omega
    subst this
    have e0:∀ x:List AV,t9 0 x=some []:=fun x=>by cases x <;> rfl
    rw [e0] at h3 ⊢
    cases h3;rfl
  ·cases hl
 ·rw [H8] at hl ⊢
  have hk:k < z:=by
   have:=(List.getElem?_eq_some_iff.1 hl).1
   rw [h i hi] at this;exact this
  obtain ⟨r,hr⟩:=pV h hi (Nat.le_of_lt hk)
  have e1:(i7 f n)[i * z+k]? = ((i7 f n).drop (i * z+k))[0]?:=by rw [List.getElem?_drop,Nat.add_zero]
  have e2:(f i)[k]? = ((f i).drop k)[0]?:=by rw [List.getElem?_drop,Nat.add_zero]
  rw [e1,hr,List.getElem?_append_left (by rw [List.length_drop,h i hi];omega),← e2];exact hl
 ·cases hl
theorem pW {α:Type} (vs:List α):∀ (o:Nat) (a b:List α),m7 vs (a.length+o) (a++b)=a++m7 vs o b
 | o,[],b=>by simp
 | o,x::a,b=>by
   rw [List.length_cons,show a.length+1+o=(a.length+o)+1 from by omega,List.cons_append,dF,pW vs o a b];rfl
theorem zG {α:Type} (vs:List α):∀ (o:Nat) (a b:List α),o+vs.length≤a.length→m7 vs o (a++b)=m7 vs o a++b:=by
 induction vs with
 | nil=>intro o a b _;rfl
 | cons v vs ih =>
   intro o a b h
   show m7 vs (o+1) (X2 v (a++b) o)=m7 vs (o+1) (X2 v a o)++b
   rw [G7,G7,List.set_append_left _ _ (by rw [List.length_cons] at h;omega)]
   exact ih (o+1) (a.set o v) b (by rw [List.length_set];rw [List.length_cons] at h;omega)
theorem zH {n:Nat} (h:∀ i,i < n→(f i).length=z) {i k:Nat} {vs:List AV} (hi:i < n) (hk:k+vs.length≤z) :
 m7 vs (Nat.add (Nat.mul i z) k) (i7 f n)=i7 (fun j=>if j=i then m7 vs k (f i) else f j) n:=by
 show m7 vs (i * z+k) (i7 f n)=_
 have hl:(i7 f i).length=i * z:=o5 (fun j hj=>h j (by omega))
 have hg:∀ j,j < n→((fun j=>if j=i then m7 vs k (f i) else f j) j).length=z:=fun j hj=>by
  show (if j=i then m7 vs k (f i) else f j).length=z
  by_cases e:j=i
  ·rw [if_pos e,H9];exact h i hi
  ·rw [if_neg e];exact h j hj
 rw [kE hg hi]
 conv=>lhs;rw [kE h hi]
 rw [← hl,pW,zG _ _ _ _ (by rw [h i hi];exact hk)]
 have e1:i7 (fun j=>if j=i then m7 vs k (f i) else f j) i=i7 f i:=X8 (fun j hj=>if_neg (by omega))
 have e2 : (i7 (fun j=>if j=i then m7 vs k (f i) else f j) n).drop ((i+1) * z)=(i7 f n).drop ((i+1) * z):=by
  have key:∀ m,m≤n→(i7 (fun j=>if j=i then m7 vs k (f i) else f j) m).drop ((i+1) * z)=(i7 f m).drop ((i+1) * z):=by
   intro m
   induction m with
   | zero=>intro _;rfl
   | succ m ih =>
     intro hm
     show (i7 _ m++(if m=i then m7 vs k (f i) else f m)).drop _=(i7 f m++f m).drop _
     have l1:(i7 (fun j=>if j=i then m7 vs k (f i) else f j) m).length=m * z:=o5 (fun j hj=>hg j (by omega))
     have l2:(i7 f m).length=m * z:=o5 (fun j hj=>h j (by omega))
     by_cases e:m≤i
     ·have hz:m * z+z≤(i+1) * z:=by rw [← Nat.succ_mul];exact Nat.mul_le_mul_right z (by omega)
      have hm':=hg m (by omega)
      have hm'':(if m=i then m7 vs k (f i) else f m).length=z:=hm'
      rw [List.drop_eq_nil_of_le (by rw [List.length_append,l1,hm''];exact hz),List.drop_eq_nil_of_le (by rw [List.length_append,l2,h m (by omega)];exact hz)]
     ·have hz:(i+1) * z≤m * z:=Nat.mul_le_mul_right z (by omega)
      rw [if_neg (by omega),List.drop_append_of_le_length (by rw [l1];exact hz),List.drop_append_of_le_length (by rw [l2];exact hz),ih (by omega)]
  exact key n (Nat.le_refl _)
 rw [e1,e2]
 show i7 f i++(m7 vs k (f i)++_)=i7 f i++((if i=i then m7 vs k (f i) else f i)++_)
 rw [if_pos rfl]
theorem gY (n:Nat) (l:List AV):i7 f n++l=i7 (fun j=>if j=n then l else f j) (n+1):=by
 show _=i7 (fun j=>if j=n then l else f j) n++(if n=n then l else f n)
 rw [if_pos rfl,X8 (f:=fun j=>if j=n then l else f j) (g:=f) (fun j hj=>if_neg (by omega))]
theorem Hg {n m:Nat} (h:∀ i,i < n→(f i).length=z) (hm:m≤n):(i7 f n).take (m * z)=i7 f m:=by
 induction n with
 | zero =>
   have:m=0:=by omega
   subst this;simp [i7]
 | succ n ih =>
   have hl:(i7 f n).length=n * z:=o5 (fun j hj=>h j (by omega))
   by_cases e:m=n+1
   ·subst e
    rw [List.take_of_length_le (by rw [o5 h];exact Nat.le_refl _)]
   ·show (i7 f n++f n).take (m * z)=_
    have:m * z≤n * z:=Nat.mul_le_mul_right z (by omega)
    rw [List.take_append_of_le_length (by rw [hl];exact this)]
    exact ih (fun j hj=>h j (by omega)) (by omega)
end
section
variable {z n:Nat} {f:Nat→List AV}
theorem Hh {S:Hp} {b:Ps} {i k q m el lo hi:Nat} {vs:List AV} {ex sty:Bool} (hb:T.get b S.hp=some (.cells (i7 f n) el ex sty lo hi)) (hfl:Nat.ble S.fl b.idx=true) (h:∀ i,i < n→(f i).length=z) (hi':i < n) (hq:q=i * z+k)
 (hk:k+vs.length≤z) (ht:lo=hi) (hsc:K5 vs=true) (hm:vs.length=m):dG S b q m vs=some (S.put b (.cells (i7 (fun j=>if j=i then m7 vs k (f i) else f j) n) el ex sty lo hi)):=by
 subst hq hm ht
 unfold dG
 rw [x4,show Nat.beq vs.length vs.length=true from Nat.beq_refl _]
 show oM S b (i * z+k) vs=_
 rw [sD]
 unfold uP
 rw [hb]
 simp only
 have hle:i * z+k+vs.length≤(i7 f n).length:=by
  rw [o5 h]
  have:(i+1) * z≤n * z:=Nat.mul_le_mul_right z (by omega)
  rw [Nat.succ_mul] at this
  omega
 have hth:eJ lo lo (i * z+k) vs.length=true:=by unfold eJ;rw [show Nat.beq lo lo=true from Nat.beq_refl _];rfl
 rw [hfl,show Nat.ble (Nat.add (i * z+k) vs.length) (i7 f n).length=true from Nat.ble_eq_true_of_le hle,hth,hsc]
 simp only
 rw [show m7 vs (i * z+k) (i7 f n)=_ from zH h hi' hk]
theorem zI {α:Type}:∀ (m:Nat) (l:List α),m≤l.length→t9 m l=some (l.take m):=by
 intro m
 induction m with
 | zero=>intro l _;cases l <;> rfl
 | succ m ih =>
   intro l hl
   cases l with
   | nil=>simp at hl
   | cons x l =>
     show (Option.rec none (fun r=>some (x::r)) (t9 m l):Option (List α))=_
     rw [ih l (by simpa using hl)];rfl
theorem gZ {S:Hp} {b:Ps} {len m z' el lo hi:Nat} {ex sty:Bool} (hb:T.get b S.hp=some (.cells (i7 f n) el ex sty lo hi)) (h:∀ i,i < n→(f i).length=z) (hm:m≤n):y6 S z m (.su b 0 len z')=some (i7 f m):=by
 unfold y6
 simp only
 rw [hb]
 show t9 (m * z) (w7 0 (i7 f n))=_
 rw [show w7 0 (i7 f n)=i7 f n from rfl,zI _ _ (by rw [o5 h];exact Nat.mul_le_mul_right z hm),Hg h hm]
theorem Vl {E:i3} {S:Hp} {b:Ps} {sT xT e z':Nat} {xd:TypeDesc} {i:TypeInfo} {zero x:AV} {new:List AV} {ex sty:Bool} (h1:A4 E sT=some (.slice e)) (h2:A4 E xT=some xd) (h3:gR xd=true) (h4:info E e=some i) (h5:G3 E e=some zero)
 (h6:U1 x=some 1) (h7:y6 S i.size 1 x=some new) (h8:aS (Nat.add n 1) i.bytes=true) (h9:Bool.and (Nat.blt 0 i.size) (iZ x i.size)=true) (h10:Nat.beq (j1 zero).length i.size=true) (hz:i.size=z) (hz':z'=z) (h0:0 < z)
 (hb:T.get b S.hp=some (.cells (i7 f n) e ex sty 0 0)) (h:∀ i,i < n→(f i).length=z) (hfl:Nat.ble S.fl b.idx=true) (hsc:K5 new=true) :
 eN E S sT xT (.su b 0 n z') x=some (.su S.nx 0 (Nat.add n 1) z,S.move b (.cells (i7 (fun j=>if j=n then new else f j) (n+1)) e false sty 0 0)):=by
 subst hz' hz
 unfold eN
 rw [h1,h2]
 simp only
 rw [h3]
 show jQ E S e (.su b 0 n i.size) x=_
 unfold jQ
 rw [h4,h5,h6,show U1 (.su b 0 n i.size)=some n from rfl]
 simp only
 unfold yV
 rw [h7,h8,h9,h10]
 simp only
 unfold Hb
 simp only
 rw [show Nat.beq i.size i.size=true from Nat.beq_refl _]
 simp only
 have hl:(i7 f n).length=n * i.size:=o5 h
 have hsure:sure S b 0 i.size n=n:=by
  unfold AM.sure
  rw [hb]
  show Nat.max n (((i7 f n).length - 0) / i.size)=n
  rw [hl,Nat.sub_zero,Nat.mul_div_cancel _ h0]
  exact Nat.max_self n
 rw [hsure,show Nat.ble (Nat.add n 1) n=false from by rw [l8];exact decide_eq_false (by show ¬ n+1≤n;omega)]
 simp only
 rw [gZ hb h (Nat.le_refl n)]
 simp only
 rw [gP]
 unfold eM
 rw [hb]
 simp only
 rw [hfl,show Nat.ble 0 (i7 f n).length=true from Nat.ble_eq_true_of_le (Nat.zero_le _),show Nat.beq e e=true from Nat.beq_refl _,show eJ 0 0 (Nat.add 0 (i7 f n).length) new.length=true from rfl,show Bool.or (Nat.beq 0 0) (Nat.beq 0 0)=true from rfl,hsc,
  show Nat.ble (i7 f n).length (Nat.add 0 (Nat.add (i7 f n).length new.length))=true from Nat.ble_eq_true_of_le (by show (i7 f n).length≤0+((i7 f n).length+new.length);omega)]
 show some (AV.su S.nx 0 (n+1) i.size,S.move b (.cells (List.append (i7 f n) new) e false sty (0 - 0) (0 - 0)))=_
 rw [show List.append (i7 f n) new=_ from gY n new]
end
theorem aU (f:Nat→List AV) (i:Nat) (l:List AV):upd f i l i=l:=if_pos rfl
theorem zJ {f:Nat→List AV} {i j:Nat} {l:List AV} (h:j≠i):upd f i l j=f j:=if_neg h
theorem Vm (f:Nat→List AV) (i:Nat) (l l':List AV):upd (upd f i l) i l'=upd f i l':=by
 funext j
 unfold upd
 by_cases h:j=i
 ·rw [if_pos h,if_pos h]
 ·rw [if_neg h,if_neg h,if_neg h]
theorem zK {f:Nat→List AV} {n z i:Nat} {l:List AV} (h:∀ j,j < n→(f j).length=z) (hl:l.length=z):∀ j,j < n→(upd f i l j).length=z:=fun j hj=>by
 unfold upd
 by_cases e:j=i
 ·rw [if_pos e];exact hl
 ·rw [if_neg e];exact h j hj
section
variable {z n:Nat} {f:Nat→List AV}
theorem zM {S:Hp} {b:Ps} {i k q m el lo hi:Nat} {vs l:List AV} {ex sty:Bool} (hb:T.get b S.hp=some (.cells (i7 f n) el ex sty lo hi)) (hfl:Nat.ble S.fl b.idx=true) (h:∀ i,i < n→(f i).length=z) (hi':i < n) (hq:q=i * z+k)
 (hk:k+vs.length≤z) (ht:lo=hi) (hsc:K5 vs=true) (hm:vs.length=m) (hl:m7 vs k (f i)=l):dG S b q m vs=some (S.put b (.cells (i7 (upd f i l) n) el ex sty lo hi)):=by
 subst hl
 exact Hh hb hfl h hi' hq hk ht hsc hm
theorem Nm {E:i3} {S:Hp} {b:Ps} {sT xT e:Nat} {xd:TypeDesc} {i:TypeInfo} {zero x:AV} {new:List AV} {ex sty:Bool} (h1:A4 E sT=some (.slice e)) (h2:A4 E xT=some xd) (h3:gR xd=true) (h4:info E e=some i) (h5:G3 E e=some zero)
 (h6:U1 x=some 1) (h7:y6 S i.size 1 x=some new) (h8:aS (Nat.add n 1) i.bytes=true) (h9:Bool.and (Nat.blt 0 i.size) (iZ x i.size)=true) (h10:Nat.beq (j1 zero).length i.size=true) (hz:i.size=z) (h0:0 < z)
 (hb:T.get b S.hp=some (.cells (i7 f n) e ex sty 0 0)) (h:∀ i,i < n→(f i).length=z) (hfl:Nat.ble S.fl b.idx=true) (hsc:K5 new=true) :
 eN E S sT xT (.su b 0 n z) x=some (.su S.nx 0 (Nat.add n 1) z,S.move b (.cells (i7 (upd f n new) (n+1)) e false sty 0 0)):=
 Vl h1 h2 h3 h4 h5 h6 h7 h8 h9 h10 hz rfl h0 hb h hfl hsc
end
theorem QL {a b:Nat} (h:a≤b):Nat.ble a b=true:=Nat.ble_eq_true_of_le h
theorem kH (a b:Nat):Nat.ble a b=true↔a≤b:=⟨Nat.le_of_ble_eq_true,QL⟩
theorem Dy (a b:Nat):Nat.beq a b=true↔a=b:=⟨Nat.eq_of_beq_eq_true,fun h=>by subst h;exact Nat.beq_refl a⟩
def a6 (a b:Bool):Bool:=Bool.rec false b a
theorem a9 {a b:Bool}:a6 a b=true↔a=true∧b=true:=by cases a <;> cases b <;> simp [a6]
def sM {α:Type} (opt b:Bool) (x:Option α):Option α:=Bool.rec (Bool.rec none x b) x opt
theorem O8 {α:Type} {b:Bool} {x:Option α} {r:α} (h:sM false b x=some r):b=true∧x=some r:=d5 h
theorem O9 {α:Type} {b:Bool} {x:Option α} (h:b=true):sM false b x=sM true b x:=by subst h;rfl
theorem u0.to {P:Program} {γ:Gm} {s:Sem Value} {x y:AV} (h:u0 P γ s x) (hv:∀ v,VR γ x v→VR γ y v):u0 P γ s y:=fun w=>let ⟨v,h1,h2⟩:=h w;⟨v,h1,hv v h2⟩
theorem HR.same {γ:Gm} {ng:Nat} {S S':Hp} {w:World} (h:HR γ ng S w) (hs:∀ a o',S'.hp.get a=some o'→∃ o,S.hp.get a=some o∧∀ L ob,OR γ L o ob→OR γ L o' ob) (hn:S'.nx=S.nx) (hf:S'.fl=S.fl:=by rfl):HR γ ng S' w where
 obj:=fun a o ho=>by
  obtain ⟨o1,h1,h2⟩:=hs a o ho
  obtain ⟨L,ob,g1,g2,g3⟩:=h.obj a o1 h1
  exact ⟨L,ob,g1,g2,h2 L ob g3⟩
 inj:=fun a a' o o' L L' ho ho'=>by
  obtain ⟨o1,h1,_⟩:=hs a o ho
  obtain ⟨o2,h2,_⟩:=hs a' o' ho'
  rw [hf];exact h.inj a a' o1 o2 L L' h1 h2
 fresh:=fun a L e=>by rw [hn];exact h.fresh a L e
 glob:=h.glob
theorem G8 {S:Hp} {a b:Ps} {o x:AO} (h:(S.put a o).hp.get b=some x):(b=a∧x=o)∨(b≠a∧S.hp.get b=some x):=by
 by_cases e:b=a
 ·left;subst e;rw [show (S.put b o).hp.get b=some o from T.get_set_same _ _ _] at h;cases h;exact ⟨rfl,rfl⟩
 ·right;rw [show (S.put a o).hp.get b=S.hp.get b from T.get_set_ne (fun e'=>e e'.symm) _ _] at h;exact ⟨e,h⟩
theorem I1 {S:Hp} {a:Ps} {o:AO}:(S.put a o).hp.get a=some o:=T.get_set_same _ _ _
theorem n5 {S:Hp} {a b:Ps} {o:AO} (h:b≠a):(S.put a o).hp.get b=S.hp.get b:=T.get_set_ne (fun e'=>h e'.symm) _ _
theorem HR.dress {γ:Gm} {ng:Nat} {S:Hp} {w:World} (h:HR γ ng S w) {b:Ps} {o o':AO} (hb:S.hp.get b=some o) (ho:∀ L ob,OR γ L o ob→OR γ L o' ob):HR γ ng (S.put b o') w:=
 h.same (fun a x hx=>by
  rcases G8 hx with ⟨rfl,rfl⟩|⟨_,h2⟩
  ·exact ⟨o,hb,ho⟩
  ·exact ⟨x,h2,fun _ _ h=>h⟩) rfl
theorem j6.dress {S S' T T':Hp} {γ γ':Gm} {w w':World} (h:j6 T γ w T' γ' w') (k:∀ a o,T.hp.get a=some o→∃ o',S.hp.get a=some o') (k':∀ a o,S'.hp.get a=some o→∃ o',T'.hp.get a=some o') (hf:S.fl=T.fl) (hf':S'.fl=T'.fl) (hn:S.nx=T.nx) (hn':S'.nx=T'.nx)
 (old:∀ a o,S.hp.get a=some o→a.idx < S.fl→S'.hp.get a=some o) (back:∀ a o,S'.hp.get a=some o→a.idx < S.fl→a.idx < S.nx.idx→S.hp.get a=some o):j6 S γ w S' γ' w' where
 ext:=h.ext
 size:=h.size
 keep:=fun r hr hno=>h.keep r hr (fun a o L ha hfl hL=>by
  obtain ⟨o',ho'⟩:=k a o ha
  exact hno a o' L ho' (by rw [hf];exact hfl) hL)
 desc:=fun a o L ha hfl hL=>by
  obtain ⟨o',ho'⟩:=k' a o ha
  rcases h.desc a o' L ho' (by rw [← hf'];exact hfl) hL with h1|⟨a₀,o₀,L₀,g1,g2,g3,g4⟩
  ·exact .inl h1
  ·obtain ⟨o₁,ho₁⟩:=k a₀ o₀ g1
   exact .inr ⟨a₀,o₁,L₀,ho₁,by rw [hf];exact g2,g3,g4⟩
 old:=old
 fl:=by rw [hf',hf];exact h.fl
 nx:=by rw [hn,hn'];exact h.nx
 new:=fun a L hL hlt=>h.new a L hL (by rw [← hn];exact hlt)
 os:=h.os
 out:=h.out
 back:=back
section
variable {E:i3} (hE:E.Ok) {γ:Gm}
def Nn (e m:Nat):Nat:=Bool.rec (Nat.add e m) m (Nat.beq e 0)
theorem sN (e m:Nat):Nn e m=e+m:=by
 unfold Nn
 cases h:Nat.beq e 0 with
 | false=>rfl
 | true=>have:=Nat.eq_of_beq_eq_true h;subst this;show m=0+m;omega
def HB (m:Int) (len:Nat):Bool:=a6 (f9 0 m) (Nat.blt (Int.toNat m) len)
theorem zN {m:Int} {len:Nat} (h:HB m len=true):m=Int.ofNat m.toNat∧m.toNat < len:=by
 obtain ⟨h1,h2⟩:=a9.1 h
 rw [X5] at h1
 have h1:=of_decide_eq_true h1
 rw [f6] at h2
 exact ⟨by show m=(m.toNat:Int);omega,of_decide_eq_true h2⟩
def hU (opt:Bool) (E:i3) (t:Nat) (x i:AV):Option AV:=
 match x with
 | .pte b j z k=>(match A4 E t with
   | some (.array n e)=>(match Uo i n,q7 E e with|some m,some q=>some (.pte b j z (Nat.add k (Nat.mul m q)))|_,_=>none)
   | _=>none)
 | .sa b e0 len z=>(match A4 E t,i with
   | some (.slice e),.int _ m=>(match q7 E e with|some q=>Bool.rec none (sM opt (HB m len) (some (.pte b (Nn e0 (Int.toNat m)) z 0))) (Nat.beq q z)|none=>none)
   | _,_=>none)
 | .sl b o len _=>(match A4 E t,i with
   | some (.slice e),.int _ m=>Bool.rec none (match q7 E e with|some q=>Bool.rec none (sM opt (HB m len) (some (.pte b (Nn o (Int.toNat m)) 1 0))) (Nat.beq q 1)|none=>none) (E.am e)
   | _,_=>none)
 | _=>none
def zO (E:i3) (t:Nat) (x i:AV):Bool:=match x with
 | .sa _ _ len _=>(match i with|.int _ m=>HB m len|_=>true)
 | .sl _ _ len _=>(match A4 E t,i with|some (.slice e),.int _ m=>Bool.rec true (HB m len) (E.am e)|_,_=>true)
 | _=>true
theorem Vn {t:Nat} {x i:AV} (h:zO E t x i=true):hU false E t x i=hU true E t x i:=by
 unfold hU
 cases x <;> try rfl
 ·unfold zO at h
  simp only at h ⊢
  cases hu:A4 E t with
  | none=>rfl
  | some d =>
    rw [hu] at h
    cases d <;> try rfl
    cases i <;> try rfl
    rename_i e _ _
    simp only at h ⊢
    cases ha:E.am e with
    | false=>rfl
    | true =>
      rw [ha] at h
      simp only [O9 (show HB _ _=true from h)]
 ·simp only
  cases A4 E t with
  | none=>rfl
  | some d =>
    cases d <;> try rfl
    cases i <;> try rfl
    simp only [O9 (show HB _ _=true from h)]
include hE in
theorem Hi {t:Nat} {x i r:AV} (h:hU false E t x i=some r) {x' i':Value} (hx:VR γ x x') (hi:VR γ i i'):u0 E.P γ (Instr.indexAt t x' i') r:=by
 unfold hU at h
 split at h
 ·rename_i b j z k
  split at h
  ·rename_i n e hu
   split at h
   ·rename_i m q hm hs
    cases h
    refine (bT hE (t:=t) (x:=.ptr b (j * z+k)) (i:=i) (r:=.ptr b (Nat.add (j * z+k) (Nat.mul m q))) ?_ hx.pte_ptr hi).to (fun v hv=>?_)
    ·unfold gK;rw [hu];simp only [hm,hs]
    ·refine VR.ptr_pte ?_
     show VR γ (.ptr b (j * z+(k+m * q))) v
     rw [← Nat.add_assoc];exact hv
   ·cases h
  ·cases h
 ·rename_i b e0 len z
  split at h
  ·rename_i e kk m hu
   split at h
   ·rename_i q hs
    obtain ⟨hq,h⟩:=d5 h
    obtain ⟨hin,h⟩:=O8 h
    cases h
    have hq':=Nat.eq_of_beq_eq_true hq
    subst hq'
    obtain ⟨h1,h2⟩:=zN hin
    refine (bT hE (t:=t) (x:=.su b (e0 * q) len q) (i:=.int kk m) (r:=.ptr b (Nat.add (e0 * q) (Nat.mul m.toNat q))) ?_ hx.sa_su hi).to (fun v hv=>?_)
    ·unfold gK
     rw [hu]
     simp only [hs]
     have:Uo (.int kk m) len=some m.toNat:=by
      rw [h1]
      show (Bool.rec none (some m.toNat) (Nat.blt m.toNat len):Option Nat)=some m.toNat
      rw [f6,decide_eq_true h2]
     rw [this]
    ·refine VR.ptr_pte ?_
     rw [sN]
     have:(e0+m.toNat) * q+0=Nat.add (e0 * q) (Nat.mul m.toNat q):=by rw [Nat.add_zero,Nat.add_mul];rfl
     rw [this];exact hv
   ·cases h
  ·cases h
 ·rename_i b o len cap
  split at h
  ·rename_i e kk m hu
   obtain ⟨_,h⟩:=d5 h
   split at h
   ·rename_i q hs
    obtain ⟨hq,h⟩:=d5 h
    obtain ⟨hin,h⟩:=O8 h
    cases h
    have hq':=Nat.eq_of_beq_eq_true hq
    subst hq'
    obtain ⟨h1,h2⟩:=zN hin
    refine (bT hE (t:=t) (x:=.sl b o len cap) (i:=.int kk m) (r:=.ptr b (Nat.add o (Nat.mul m.toNat 1))) ?_ hx hi).to (fun v hv=>?_)
    ·unfold gK
     rw [hu]
     simp only [hs]
     have:Uo (.int kk m) len=some m.toNat:=by
      rw [h1]
      show (Bool.rec none (some m.toNat) (Nat.blt m.toNat len):Option Nat)=some m.toNat
      rw [f6,decide_eq_true h2]
     rw [this]
    ·refine VR.ptr_pte ?_
     rw [sN]
     have:(o+m.toNat) * 1+0=Nat.add o (Nat.mul m.toNat 1):=by rw [Nat.add_zero,Nat.mul_one];show o+m.toNat=o+m.toNat * 1;rw [Nat.mul_one]
     rw [this];exact hv
   ·cases h
  ·cases h
 ·cases h
def zP (E:i3) (t:Nat) (x:AV) (f:Nat):Option AV:=match x with|.pte b i z k=>(match Dl E t f with|some n=>some (.pte b i z (Nat.add k n))|none=>none)|_=>none
include hE in
theorem Hj {t f:Nat} {x r:AV} (h:zP E t x f=some r) {x':Value} (hx:VR γ x x'):u0 E.P γ (Instr.fieldAt t x' f) r:=by
 unfold zP at h
 split at h
 ·rename_i b i z k
  split at h
  ·rename_i n hn
   cases h
   refine (pJ hE (t:=t) (x:=.ptr b (i * z+k)) (f:=f) (r:=.ptr b (Nat.add (i * z+k) n)) ?_ hx.pte_ptr).to (fun v hv=>?_)
   ·show (Option.rec none (fun n=>some (AV.ptr b (Nat.add (i * z+k) n))) (Dl E t f):Option AV)=_
    rw [hn]
   ·refine VR.ptr_pte ?_
    show VR γ (.ptr b (i * z+(k+n))) v
    rw [← Nat.add_assoc];exact hv
  ·cases h
 ·cases h
theorem Q7 {b:Ps} {n z el:Nat} {f:Nat→List AV} {ov:Option (Nat × List AV)} {ex sty:Bool} {S:Hp} {ng:Nat} {w:World} (h:HR γ ng S w) (hb:T.get b S.hp=some (.arr n z f ov el ex sty)) :
 HR γ ng (S.put b (.cells (i7 (E8 f ov) n) el ex sty 0 0)) w∧0 < z∧∀ i,i < n→(E8 f ov i).length=z:=by
 obtain ⟨L,ob,_,_,h3⟩:=h.obj b _ hb
 exact ⟨h.dress hb (fun L ob h=>h.cells_of),h3.2.1,h3.2.2⟩
def VA (opt:Bool) (E:i3) (t k i:Nat) (f:Nat→List AV) (ov:Option (Nat × List AV)):Option AV:=match ov with|none=>aQ E t (f i) k|some (j,l)=>sM opt (Nat.beq i j) (aQ E t l k)
def WO (x:AV):Option Int:=match x with|.int .i64 n=>some n|_=>none
def HC (i:Nat) (c:List AV):Nat→Option Int:=List.rec (motive:=fun _=>Nat→Option Int) (fun _=>some 0) (fun x _ ih p=>match WO x,ih (Nat.succ p) with|some a,some r=>some (d7 (Nat.beq i p) a r)|_,_=>none) c
theorem Dz {i:Nat}:∀ {c:List AV} {p:Nat} {r:Int},HC i c p=some r→p≤i→i - p < c.length→nth c (i - p)=some (.int .i64 r)
 | [],_,_,_,_,h=>by simp at h
 | x :: c,p,r,h,hp,hl=>by
   have h:(match WO x,HC i c (Nat.succ p) with|some a,some r=>some (d7 (Nat.beq i p) a r)|_,_=>none)=some r:=h
   split at h
   ·rename_i a r' h1 h2
    cases h
    have hx:x=.int .i64 a:=by
     unfold WO at h1
     split at h1
     ·cases h1;rfl
     ·cases h1
    cases e:Nat.beq i p with
    | true =>
      have e':=Nat.eq_of_beq_eq_true e
      subst e'
      rw [Nat.sub_self]
      show some x=some (AV.int .i64 a)
      rw [hx]
    | false =>
      have hne:i≠p:=fun e'=>by subst e';rw [show Nat.beq i i=true from Nat.beq_refl i] at e;cases e
      have e2:i - p=(i - (p+1))+1:=by omega
      rw [e2]
      show nth c (i - (p+1))=some (AV.int .i64 r')
      exact Dz h2 (by omega) (by simp at hl;omega)
   ·cases h
def pX (opt:Bool) (E:i3) (S:Hp) (t:Nat) (x:AV):Option AV:=
 match x with
 | .pte b i z k=>(match T.get b S.hp with|some (.arr n z' f ov _ _ _)=>Bool.rec none (sM opt (Nat.blt i n) (VA opt E t k i f ov)) (Nat.beq z z')|some (.cells c _ _ _ _ _)=>Bool.rec none (match HC i c 0,aN E t with|some r,some false=>sM opt (Nat.blt i (y8 c)) (some (.int .i64 r))|_,_=>none) (a6 (Nat.beq z 1) (Nat.beq k 0))|_=>none)
 | _=>none
def VB (i:Nat) (ov:Option (Nat × List AV)):Bool:=match ov with|none=>true|some (j,_)=>Nat.beq i j
def pY (S:Hp) (x:AV):Bool:=match x with|.pte b i _ _=>(match T.get b S.hp with|some (.arr n _ _ ov _ _ _)=>a6 (Nat.blt i n) (VB i ov)|some (.cells c _ _ _ _ _)=>Nat.blt i (y8 c)|_=>true)|_=>true
theorem WP {t k i:Nat} {f:Nat→List AV} {ov:Option (Nat × List AV)} (h:VB i ov=true):VA false E t k i f ov=VA true E t k i f ov:=by
 cases ov with
 | none=>rfl
 | some p=>exact O9 h
theorem HD {S:Hp} {t:Nat} {x:AV} (h:pY S x=true):pX false E S t x=pX true E S t x:=by
 unfold pX
 cases x <;> try rfl
 rename_i b i z k
 unfold pY at h
 simp only at h ⊢
 cases hb:T.get b S.hp with
 | none=>rfl
 | some o =>
   rw [hb] at h
   cases o <;> try rfl
   ·simp only at h ⊢
    split
    ·rw [O9 h]
    ·rfl
   ·obtain ⟨h1,h2⟩:=a9.1 h
    simp only [O9 h1,WP h2]
theorem HE {t k i:Nat} {f:Nat→List AV} {ov:Option (Nat × List AV)} {r:AV} (h:VA false E t k i f ov=some r):aQ E t (E8 f ov i) k=some r:=by
 cases ov with
 | none=>exact h
 | some p =>
   obtain ⟨j,l⟩:=p
   obtain ⟨h1,h2⟩:=O8 h
   have:=Nat.eq_of_beq_eq_true h1
   subst this
   show aQ E t (upd f i l i) k=some r
   rw [aU];exact h2
include hE in
theorem Np {S:Hp} {ng:Nat} {w:World} (hH:HR γ ng S w) {t:Nat} {x r:AV} (h:pX false E S t x=some r) {x':Value} (hx:VR γ x x'):∃ v,(Instr.loadAt t x').run E.P w=.ok v w∧VR γ r v:=by
 unfold pX at h
 split at h
 ·rename_i b i z k
  split at h
  ·rename_i n z' f ov el ex sty hb
   obtain ⟨hz,hA⟩:=d5 h
   obtain ⟨hin,hB⟩:=O8 hA
   have hz':=Nat.eq_of_beq_eq_true hz
   subst hz'
   rw [f6] at hin
   obtain ⟨h1,h2,h3⟩:=Q7 hH hb
   refine eI hE h1 (t:=t) (x:=.ptr b (i * z+k)) ?_ hx.pte_ptr
   rw [lL]
   unfold lK
   simp only
   rw [show T.get b (S.put b _).hp=some _ from I1]
   exact zE h3 (of_decide_eq_true hin) (HE hB)
  ·rename_i c el ex sty lo hi hb
   obtain ⟨hzk,hA⟩:=d5 h
   split at hA
   ·rename_i r' hs ha
    obtain ⟨hin,hB⟩:=O8 hA
    cases hB
    obtain ⟨hz,hk⟩:=a9.1 hzk
    have hz':=Nat.eq_of_beq_eq_true hz
    have hk':=Nat.eq_of_beq_eq_true hk
    subst hz' hk'
    rw [f6] at hin
    have hin:=of_decide_eq_true hin
    rw [x4] at hin
    refine eI hE hH (t:=t) (x:=.ptr b (i * 1+0)) ?_ hx.pte_ptr
    rw [lL]
    unfold lK
    simp only
    rw [hb]
    simp only
    rw [lJ]
    unfold sB
    rw [ha]
    simp only
    rw [Nat.mul_one,Nat.add_zero]
    have:=Dz hs (Nat.zero_le _) (by omega)
    rw [Nat.sub_zero] at this
    exact this
   ·cases hA
  ·cases h
 ·cases h
def QN (i:Nat) (f:Nat→List AV) (ov:Option (Nat × List AV)):List AV:=match ov with|none=>f i|some (_,l)=>l
def iA (opt:Bool) (E:i3) (S:Hp) (t:Nat) (a v:AV):Option Hp:=
 match a with
 | .pte b i z k=>(match q7 E t,T.get b S.hp with
   | some m,some (.arr n z' f ov el ex sty)=>Bool.rec none (Bool.rec none (Bool.rec none (Bool.rec none (Bool.rec none
    (sM opt (Nat.blt i n) (sM opt (VB i ov) (some (S.put b (.arr n z f (some (i,m7 (j1 v) k (QN i f ov))) el ex sty)))))
    (K5 (j1 v))) (Nat.ble (Nat.add k m) z)) (Nat.ble S.fl b.idx)) (Nat.beq (y8 (j1 v)) m)) (Nat.beq z z')
   | _,_=>none)
 | _=>none
theorem Vo {S:Hp} {t:Nat} {a v:AV} (h:pY S a=true):iA false E S t a v=iA true E S t a v:=by
 unfold iA
 cases a <;> try rfl
 rename_i b i z k
 unfold pY at h
 simp only at h ⊢
 cases q7 E t with
 | none=>rfl
 | some m =>
   cases hb:T.get b S.hp with
   | none=>rfl
   | some o =>
     rw [hb] at h
     cases o <;> try rfl
     obtain ⟨h1,h2⟩:=a9.1 h
     simp only [O9 h1,O9 h2]
theorem HF {i:Nat} {f:Nat→List AV} {ov:Option (Nat × List AV)} (h:VB i ov=true):QN i f ov=E8 f ov i∧∀ l,upd (E8 f ov) i l=upd f i l:=by
 cases ov with
 | none=>exact ⟨rfl,fun _=>rfl⟩
 | some p =>
   obtain ⟨j,l⟩:=p
   have:=Nat.eq_of_beq_eq_true h
   subst this
   exact ⟨(aU f i l).symm,fun l'=>Vm f i l l'⟩
include hE in
theorem Hk {S S':Hp} {t:Nat} {a v:AV} (h:iA false E S t a v=some S') {a' v':Value} (ha:VR γ a a') (hv:VR γ v v') {ng:Nat}:Gx E.P γ ng S (Instr.storeAt t a' v') S':=by
 unfold iA at h
 split at h
 ·rename_i b i z k
  split at h
  ·rename_i m n z' f ov el ex sty hs hb
   obtain ⟨hz,h⟩:=d5 h
   obtain ⟨hm,h⟩:=d5 h
   obtain ⟨hfl,h⟩:=d5 h
   obtain ⟨hk,h⟩:=d5 h
   obtain ⟨hsc,h⟩:=d5 h
   obtain ⟨hin,h⟩:=O8 h
   obtain ⟨hov,h⟩:=O8 h
   cases h
   have hz':=Nat.eq_of_beq_eq_true hz
   subst hz'
   have hm':=Nat.eq_of_beq_eq_true hm
   rw [x4] at hm'
   rw [f6] at hin
   have hin':=of_decide_eq_true hin
   have hk':k+m≤z:=Nat.le_of_ble_eq_true hk
   obtain ⟨o1,o2⟩:=HF (f:=f) hov
   intro w hH
   obtain ⟨h1,h2,h3⟩:=Q7 hH hb
   obtain ⟨γ',w',hrun,g1,g2⟩:=pO hE (t:=t) (a:=.ptr b (i * z+k)) (v:=v) (S:=S.put b (.cells (i7 (E8 f ov) n) el ex sty 0 0)) (S':=(S.put b (.cells (i7 (E8 f ov) n) el ex sty 0 0)).put b (.cells (i7 (upd (E8 f ov) i (m7 (j1 v) k (QN i f ov))) n) el ex sty 0 0)) (by
    unfold lM
    show (Option.rec none (fun q=>dG _ b (i * z+k) q (j1 v)) (q7 E t):Option Hp)=_
    rw [hs]
    exact zM I1 hfl h3 hin' rfl (by rw [hm'];exact hk') rfl hsc hm' (by rw [o1])) ha.pte_ptr hv (ng:=ng) w h1
   have hlen:(m7 (j1 v) k (QN i f ov)).length=z:=by rw [H9,o1];exact h3 i hin'
   refine ⟨γ',w',hrun,g1.same (fun a x hx=>?_) rfl,g2.dress (fun a o ho=>?_) (fun a o ho=>?_) rfl rfl rfl rfl (fun a o ho hlt=>?_) (fun a o ho hlt _=>?_)⟩
   ·rcases G8 hx with ⟨rfl,rfl⟩|⟨hne,hx2⟩
    ·refine ⟨_,I1,fun L ob ho=>?_⟩
     rw [o2] at ho
     refine OR.arr_of ho h2 (fun j hj=>?_)
     show (upd f i (m7 (j1 v) k (QN i f ov)) j).length=z
     rw [← o2]
     exact zK h3 hlen j hj
    ·exact ⟨x,by rw [n5 hne,n5 hne];exact hx2,fun _ _ h=>h⟩
   ·rcases G8 ho with ⟨rfl,rfl⟩|⟨_,h5⟩
    ·exact ⟨_,hb⟩
    ·exact ⟨_,h5⟩
   ·rcases G8 ho with ⟨rfl,rfl⟩|⟨hne,h5⟩
    ·exact ⟨_,I1⟩
    ·exact ⟨_,by rw [n5 hne,n5 hne];exact h5⟩
   ·have:=Nat.le_of_ble_eq_true hfl
    rw [n5 (fun e=>by subst e;omega)];exact ho
   ·have:=Nat.le_of_ble_eq_true hfl
    rcases G8 ho with ⟨rfl,rfl⟩|⟨_,h5⟩
    ·omega
    ·exact h5
  ·cases h
 ·cases h
end
section
variable {E:i3} (hE:E.Ok) {γ:Gm}
def WQ (lo:Option AV):Option Int:=match lo with|none=>some 0|some (.int _ m)=>some m|some _=>none
def WR (hi:Option AV) (len:Nat):Option Int:=match hi with|none=>some (Int.ofNat len)|some (.int _ m)=>some m|some _=>none
def WS (l h:Int) (len:Nat):Bool:=a6 (f9 0 l) (a6 (f9 l h) (a6 (f9 h (Int.ofNat len)) (Bool.or (Nat.beq (Int.toNat l) 0) (Nat.blt (Int.toNat l) len))))
def HG (h l:Nat):Nat:=Bool.rec (Nat.sub h l) h (Nat.beq l 0)
theorem Vp (h l:Nat):HG h l=h - l:=by
 unfold HG
 cases e:Nat.beq l 0 with
 | false=>rfl
 | true=>have:=Nat.eq_of_beq_eq_true e;subst this;rfl
def iB (opt:Bool) (E:i3) (S:Hp) (t:Nat) (x:AV) (lo hi mx:Option AV):Option AV:=
 match x with
 | .sa b e len z=>(match A4 E t,mx,WQ lo,WR hi len,T.get b S.hp with
   | some (.slice el),none,some l,some h,some (.arr _ _ _ _ _ _ _)=>(match q7 E el with
     | some q=>Bool.rec none (sM opt (WS l h len) (some (.sa b (Nn e (Int.toNat l)) (HG (Int.toNat h) (Int.toNat l)) z))) (Nat.beq q z)
     | none=>none)
   | _,_,_,_,_=>none)
 | _=>none
def zQ (x:AV) (lo hi:Option AV):Bool:=match x with|.sa _ _ len _=>(match WQ lo,WR hi len with|some l,some h=>WS l h len|_,_=>true)|_=>true
theorem Vq {S:Hp} {t:Nat} {x:AV} {lo hi mx:Option AV} (h:zQ x lo hi=true):iB false E S t x lo hi mx=iB true E S t x lo hi mx:=by
 unfold iB
 cases x <;> try rfl
 unfold zQ at h
 simp only at h ⊢
 split
 ·rename_i h0 h1 h2 h3
  rw [h1,h2] at h
  simp only [O9 h]
 ·rfl
theorem Vr {lo:Option AV} {l:Int} (h:WQ lo=some l) (h0:l=Int.ofNat l.toNat) {n:Nat} (hn:l.toNat≤n):Up lo 0 n=some l.toNat:=by
 cases lo with
 | none=>cases h;rfl
 | some v =>
   cases v <;> try (cases h;done)
   rename_i k m
   have:m=l:=by injection h
   subst this
   rw [h0]
   show (Bool.rec none (some m.toNat) (Nat.ble m.toNat n):Option Nat)=some m.toNat
   rw [l8,decide_eq_true hn]
theorem Vs {hi:Option AV} {h:Int} {len:Nat} (e:WR hi len=some h) (h0:h=Int.ofNat h.toNat) (hn:h.toNat≤len):Up hi len len=some h.toNat:=by
 cases hi with
 | none=>cases e;rfl
 | some v =>
   cases v <;> try (cases e;done)
   rename_i k m
   have:m=h:=by injection e
   subst this
   rw [h0]
   show (Bool.rec none (some m.toNat) (Nat.ble m.toNat len):Option Nat)=some m.toNat
   rw [l8,decide_eq_true hn]
include hE in
theorem Hl {S:Hp} {ng:Nat} {w:World} (hH:HR γ ng S w) {t:Nat} {x r:AV} {lo hi mx:Option AV} (h:iB false E S t x lo hi mx=some r) {x':Value} {lo' hi' mx':Option Value} (hx:VR γ x x') (hlo:xZ γ lo lo')
 (hhi:xZ γ hi hi') (hmx:xZ γ mx mx'):∃ v,(Instr.sliceAt t x' lo' hi' mx').run E.P w=.ok v w∧VR γ r v:=by
 unfold iB at h
 split at h
 ·rename_i b e len z
  split at h
  ·rename_i el l hh n z2 f ov el2 ex sty hu hbl hbh hb
   split at h
   ·rename_i q hs
    obtain ⟨hq,hA⟩:=d5 h
    obtain ⟨hg,hB⟩:=O8 hA
    cases hB
    have hq':=Nat.eq_of_beq_eq_true hq
    subst hq'
    unfold WS at hg
    obtain ⟨g1,hg⟩:=a9.1 hg
    obtain ⟨g2,hg⟩:=a9.1 hg
    obtain ⟨g3,g4⟩:=a9.1 hg
    rw [X5] at g1 g2 g3
    have g1:=of_decide_eq_true g1
    have g2:=of_decide_eq_true g2
    have g3:=of_decide_eq_true g3
    simp only [Int.ofNat_eq_natCast] at g3
    have e1:l=Int.ofNat l.toNat:=by show l=(l.toNat:Int);omega
    have e2:hh=Int.ofNat hh.toNat:=by show hh=(hh.toNat:Int);omega
    have k1:l.toNat≤hh.toNat:=by omega
    have k2:hh.toNat≤len:=by omega
    have hbn:lI len len lo hi none=some (l.toNat,hh.toNat,len):=by
     unfold lI
     rw [show Up none len len=some len from rfl]
     simp only
     rw [Vs hbh e2 k2]
     simp only
     rw [Vr hbl e1 k1]
     simp only
     rw [l8,decide_eq_true k2]
    have hsure:sure S b (e * q) q len=len:=by unfold AM.sure;rw [hb]
    obtain ⟨v,hv,hr⟩:=pN hE hH (t:=t) (x:=.su b (e * q) len q) (lo:=lo) (hi:=hi) (mx:=none) (r:=.su b (Nat.add (e * q) (Nat.mul l.toNat q)) (Nat.sub hh.toNat l.toNat) q) (by
     unfold rY
     rw [hu]
     simp only [hs]
     rw [hsure,hbn]
     simp only
     rw [g4,show Nat.beq q q=true from Nat.beq_refl q]) hx.sa_su hlo hhi hmx
    refine ⟨v,hv,VR.su_sa ?_⟩
    rw [sN,Vp,Nat.add_mul];exact hr
   ·cases h
  ·cases h
 ·cases h
def OG (m m':Int) (by_:Nat):Bool:=a6 (f9 0 m) (a6 (c9 m m') (a6 (Nat.ble (Int.toNat m) 1099511627776) (Nat.ble (Nat.mul by_ (Int.toNat m)) 1099511627776)))
def jB (opt:Bool) (E:i3) (S:Hp) (t:Nat) (l c:AV):Option (AV × Hp):=
 match A4 E t with
 | some (.slice e)=>Bool.rec none (match info E e,G3 E e,l,c with
   | some i,some zero,.int _ m,.int _ m'=>Bool.rec none (Bool.rec none (sM opt (OG m m' i.bytes) (some (.sa S.nx 0 (Int.toNat m) i.size,S.alloc (.arr (Int.toNat m) i.size (fun _=>j1 zero) none e true false)))) (Nat.blt 0 i.size)) (Nat.beq (j1 zero).length i.size)
   | _,_,_,_=>none) (E.am e)
 | _=>none
def Nq (E:i3) (t:Nat) (l c:AV):Bool:=
 match A4 E t with
 | some (.slice e)=>Bool.rec true (match info E e,l,c with|some i,.int _ m,.int _ m'=>OG m m' i.bytes|_,_,_=>true) (E.am e)
 | _=>true
theorem HH {S:Hp} {t:Nat} {l c:AV} (h:Nq E t l c=true):jB false E S t l c=jB true E S t l c:=by
 unfold jB
 unfold Nq at h
 split
 ·rename_i e hu
  rw [hu] at h
  simp only at h
  cases ha:E.am e with
  | false=>rfl
  | true =>
    rw [ha] at h
    simp only at h ⊢
    split
    ·rename_i i zero k m k' m' hi hz
     rw [hi] at h
     simp only at h
     simp only [O9 h]
    ·rfl
 ·rfl
theorem pZ (l:List AV) (n:Nat):uQ n l=i7 (fun _=>l) n:=by
 have key:∀ n,i7 (fun _=>l) n++l=l++i7 (fun _=>l) n:=by
  intro n
  induction n with
  | zero=>simp [i7]
  | succ n ih=>show (i7 (fun _=>l) n++l)++l=l++(i7 (fun _=>l) n++l);rw [← List.append_assoc,← ih]
 induction n with
 | zero=>rfl
 | succ n ih=>show l++uQ n l=i7 (fun _=>l) n++l;rw [ih,key]
theorem L7 {S:Hp} {o:AO}:(S.alloc o).hp.get S.nx=some o:=T.get_set_same _ _ _
theorem v9 {S:Hp} {a:Ps} {o:AO} (h:a≠S.nx):(S.alloc o).hp.get a=S.hp.get a:=T.get_set_ne (fun e'=>h e'.symm) _ _
theorem L8 {S:Hp} {b:Ps} {o x:AO} (h:(S.alloc o).hp.get b=some x):(b=S.nx∧x=o)∨(b≠S.nx∧S.hp.get b=some x):=by
 by_cases e:b=S.nx
 ·left;subst e;rw [L7] at h;cases h;exact ⟨rfl,rfl⟩
 ·right;rw [v9 e] at h;exact ⟨e,h⟩
theorem T4 {ng:Nat} {S:Hp} {w w':World} {γ':Gm} {o o':AO} (hH:HR γ ng S w) (h:HR γ' ng (S.alloc o) w') (p:j6 S γ w (S.alloc o) γ' w') (ho:∀ L ob,OR γ' L o ob→OR γ' L o' ob) :
 HR γ' ng (S.alloc o') w'∧j6 S γ w (S.alloc o') γ' w':=by
 refine ⟨h.same (fun a x hx=>?_) rfl,p.dress (fun a o h=>⟨o,h⟩) (fun a x hx=>?_) rfl rfl rfl rfl (fun a x hx hlt=>?_) (fun a x hx hlt hn=>?_)⟩
 ·rcases L8 hx with ⟨rfl,rfl⟩|⟨hne,h2⟩
  ·exact ⟨o,L7,ho⟩
  ·exact ⟨x,by rw [v9 hne];exact h2,fun _ _ h=>h⟩
 ·rcases L8 hx with ⟨rfl,rfl⟩|⟨hne,h2⟩
  ·exact ⟨o,L7⟩
  ·exact ⟨x,by rw [v9 hne];exact h2⟩
 ·have:=hH.lt hx
  rw [v9 (fun e=>by subst e;omega)];exact hx
 ·rcases L8 hx with ⟨rfl,rfl⟩|⟨hne,h2⟩
  ·omega
  ·exact h2
include hE in
theorem Nr {S S':Hp} {t:Nat} {l c r:AV} (h:jB false E S t l c=some (r,S')) {l' c':Value} (hl:VR γ l l') (hc:VR γ c c') {ng:Nat}:yA E.P γ ng S (Instr.makeSlice t l' c') r S':=by
 unfold jB at h
 split at h
 ·rename_i e hu
  obtain ⟨ha,hA⟩:=d5 h
  split at hA
  ·rename_i i zero k m k' m' hi hz
   obtain ⟨h1,hB⟩:=d5 hA
   obtain ⟨h2,hC⟩:=d5 hB
   obtain ⟨hg,hD⟩:=O8 hC
   cases hD
   unfold OG at hg
   obtain ⟨g1,hg⟩:=a9.1 hg
   obtain ⟨g2,hg⟩:=a9.1 hg
   obtain ⟨g3,g4⟩:=a9.1 hg
   rw [X5] at g1
   have g1:=of_decide_eq_true g1
   rw [X6] at g2
   have g2:m=m':=eq_of_beq g2
   subst g2
   have e1:m=Int.ofNat m.toNat:=by show m=(m.toNat:Int);omega
   have hn:Md? (.int k m)=some m.toNat:=by rw [e1];rfl
   have hn':Md? (.int k' m)=some m.toNat:=by rw [e1];rfl
   intro w hH
   obtain ⟨γ',v,w',q1,q2,q3,q4⟩:=gN hE (S:=S) (t:=t) (l:=.int k m) (c:=.int k' m) (r:=.sl S.nx 0 m.toNat m.toNat) (S':=S.alloc (.cells (uQ m.toNat (j1 zero)) e true false 0 0)) (by
    unfold lN
    rw [hu]
    simp only [hi,hz,hn,hn']
    rw [h1,g3,g4,show Nat.ble m.toNat m.toNat=true from Nat.ble_eq_true_of_le (Nat.le_refl _),h2]) hl hc (ng:=ng) w hH
   have e2:(j1 zero).length=i.size:=Nat.eq_of_beq_eq_true h1
   have e3:0 < i.size:=by rw [f6] at h2;exact of_decide_eq_true h2
   obtain ⟨d1,d2⟩:=T4 hH q3 q4 (o':=.arr m.toNat i.size (fun _=>j1 zero) none e true false) (fun L ob ho=>by
    rw [pZ] at ho
    exact OR.arr_of ho e3 (fun _ _=>e2))
   refine ⟨γ',v,w',q1,?_,d1,d2⟩
   obtain ⟨L,ob,r1,r2,r3⟩:=d1.obj S.nx _ L7
   cases q2 with
   | @sl _ L1 _ _ _ hL =>
     rw [hL] at r1
     cases r1
     obtain ⟨⟨pre,cs,post,fz,s1,s2,s3,s4,s5,s6,s7⟩,_⟩:=r3
     obtain ⟨rfl,rfl⟩:=s7 rfl
     have hoff:L.off=0:=s2.symm
     have hsz:L.siz=m.toNat * i.size:=by
      have s31:L.siz≤0+cs.length+0:=s3.1
      have s32:0+cs.length≤L.siz:=s3.2
      rw [show L.siz=cs.length from by omega,s4.length]
      exact o5 (fun _ _=>e2)
     have:=VR.sa (γ:=γ') (b:=S.nx) (L:=L) 0 m.toNat m.toNat i.size hL (Nat.le_refl _) e3 (by rw [hoff,hsz];simp)
     rw [Nat.zero_mul] at this
     exact this
  ·cases hA
 ·cases h
def aV (opt:Bool) (E:i3) (S:Hp) (t:Nat) (l c:AV):Option (AV × Hp):=
 match A4 E t with
 | some (.slice e)=>Bool.rec none (match info E e,G3 E e,l,c with
   | some i,some zero,.int _ (Int.ofNat 0),.int _ m'=>Bool.rec none (Bool.rec none (sM opt (OG m' m' i.bytes) (some (.sa S.nx 0 0 i.size,S.alloc (.arr 0 i.size (fun _=>j1 zero) none e false false)))) (Nat.blt 0 i.size)) (Nat.beq (j1 zero).length i.size)
   | _,_,_,_=>none) (E.am e)
 | _=>none
def zR (E:i3) (t:Nat) (l c:AV):Bool:=
 match A4 E t with
 | some (.slice e)=>Bool.rec true (match info E e,l,c with|some i,.int _ (Int.ofNat 0),.int _ m'=>OG m' m' i.bytes|_,_,_=>true) (E.am e)
 | _=>true
theorem Vt {S:Hp} {t:Nat} {l c:AV} (h:zR E t l c=true):aV false E S t l c=aV true E S t l c:=by
 unfold aV
 unfold zR at h
 split
 ·rename_i e hu
  rw [hu] at h
  simp only at h
  cases ha:E.am e with
  | false=>rfl
  | true =>
    rw [ha] at h
    simp only at h ⊢
    split
    ·rename_i i zero k k' m' hi hz
     rw [hi] at h
     simp only at h
     simp only [O9 h]
    ·rfl
 ·rfl
include hE in
theorem Hn {S S':Hp} {t:Nat} {l c r:AV} (h:aV false E S t l c=some (r,S')) {l' c':Value} (hl:VR γ l l') (hc:VR γ c c') {ng:Nat}:yA E.P γ ng S (Instr.makeSlice t l' c') r S':=by
 unfold aV at h
 split at h
 ·rename_i e hu
  obtain ⟨ha,hA⟩:=d5 h
  split at hA
  ·rename_i i zero k k' m hi hz
   obtain ⟨h1,hB⟩:=d5 hA
   obtain ⟨h2,hC⟩:=d5 hB
   obtain ⟨hg,hD⟩:=O8 hC
   cases hD
   unfold OG at hg
   obtain ⟨g1,hg⟩:=a9.1 hg
   obtain ⟨g2,hg⟩:=a9.1 hg
   obtain ⟨g3,g4⟩:=a9.1 hg
   rw [X5] at g1
   have g1:=of_decide_eq_true g1
   have e1:m=Int.ofNat m.toNat:=by show m=(m.toNat:Int);omega
   have hn':Md? (.int k' m)=some m.toNat:=by rw [e1];rfl
   intro w hH
   obtain ⟨γ',v,w',q1,q2,q3,q4⟩:=gN hE (S:=S) (t:=t) (l:=.int k (Int.ofNat 0)) (c:=.int k' m) (r:=.sl S.nx 0 0 m.toNat) (S':=S.alloc (.cells (uQ m.toNat (j1 zero)) e true false 0 0)) (by
    unfold lN
    rw [hu]
    simp only [hi,hz,show Md? (.int k (Int.ofNat 0))=some 0 from rfl,hn']
    rw [h1,g3,g4,show Nat.ble 0 m.toNat=true from Nat.ble_eq_true_of_le (Nat.zero_le _),h2]) hl hc (ng:=ng) w hH
   have e2:(j1 zero).length=i.size:=Nat.eq_of_beq_eq_true h1
   have e3:0 < i.size:=by rw [f6] at h2;exact of_decide_eq_true h2
   have hflat:(i7 (fun _=>j1 zero) m.toNat).length=m.toNat * i.size:=o5 (fun _ _=>e2)
   obtain ⟨L0,ob0,r01,r02,r03⟩:=q3.obj S.nx _ L7
   rw [pZ] at r03
   obtain ⟨pre,cs,post,fz,s1,s2,s3,s4,s5,s6,s7⟩:=r03
   obtain ⟨rfl,rfl⟩:=s7 rfl
   have hoff:L0.off=0:=s2.symm
   have hsz:L0.siz=m.toNat * i.size:=by
    have s31:L0.siz≤0+cs.length+0:=s3.1
    have s32:0+cs.length≤L0.siz:=s3.2
    rw [show L0.siz=cs.length from by omega,s4.length]
    exact hflat
   obtain ⟨d1,d2⟩:=T4 hH q3 q4 (o':=.arr 0 i.size (fun _=>j1 zero) none e false false) (fun L ob ho=>by
    obtain ⟨pre,cs,post,fz,s1,s2,s3,s4,s5,s6,s7⟩:=ho
    obtain ⟨rfl,rfl⟩:=s7 rfl
    refine OR.arr_of ⟨[],[],cs,fz,?_,s2,?_,.nil,s5,Nat.zero_le _,fun h=>by cases h⟩ e3 (fun _ h=>absurd h (Nat.not_lt_zero _))
    ·rw [s1];simp
    ·have s31:L.siz≤0+cs.length+0:=s3.1
     have s32:0+cs.length≤L.siz:=s3.2
     exact ⟨by show L.siz≤0+0+cs.length;omega,by show 0+0≤L.siz;omega⟩)
   refine ⟨γ',v,w',q1,?_,d1,d2⟩
   cases q2 with
   | @sl _ L1 _ _ _ hL =>
     rw [hL] at r01
     cases r01
     have:=VR.sa (γ:=γ') (b:=S.nx) (L:=L0) 0 0 m.toNat i.size hL (Nat.zero_le _) e3 (by rw [hoff,hsz];simp)
     rw [Nat.zero_mul] at this
     exact this
  ·cases hA
 ·cases h
def P1 (f:Nat→List AV) (ov:Option (Nat × List AV)):Nat→List AV:=match ov with|none=>f|some (i,l)=>fun j=>Bool.rec (f j) l (Nat.beq j i)
theorem aW (f:Nat→List AV) (ov:Option (Nat × List AV)):P1 f ov=E8 f ov:=by
 cases ov with
 | none=>rfl
 | some p =>
   obtain ⟨i,l⟩:=p
   funext j
   show (Bool.rec (f j) l (Nat.beq j i):List AV)=upd f i l j
   unfold upd
   rw [i9]
   by_cases e:j=i
   ·rw [if_pos e,decide_eq_true e]
   ·rw [if_neg e,decide_eq_false e]
def zS (n by_:Nat):Bool:=aS n by_
def Ns (S:Hp) (s:AV):Bool:=match s with|.nils=>true|.sl b _ 0 0=>(match T.get b S.hp with|some (.cells _ _ _ _ _ _)=>true|_=>false)|_=>false
def lT (opt:Bool) (S:Hp) (e:Nat) (i:TypeInfo) (s x:AV):Option (AV × Hp):=
 match x with
 | .sa b2 e2 m z=>(match e2,T.get b2 S.hp with
  | 0,some (.arr n z2 f ov _ _ _)=>Bool.rec none (Bool.rec none (sM opt (a6 (Nat.blt 0 m) (a6 (Nat.ble m n) (zS m i.bytes))) (some (.sa S.nx 0 m z,S.alloc (.arr m z f ov e false false)))) (Ns S s)) (a6 (Nat.beq z i.size) (Nat.beq z z2))
  | _,_=>none)
 | x => (match U1 x,y6 S i.size 1 x with
     | some 1, some new=>Bool.rec none (match s with
      | .nils=>some (.sa S.nx 0 1 i.size,S.alloc (.arr 1 i.size (fun _=>new) none e false false))
      | .sa b 0 n z=>(match T.get b S.hp with
       | some (.arr n' z2 f ov el _ sty)=>Bool.rec none (sM opt (a6 (Nat.beq n n') (zS (Nat.add n 1) i.bytes)) (some (.sa S.nx 0 (Nat.add n 1) z,S.move b (.arr (Nat.add n 1) z (P1 f ov) (some (n,new)) e false sty))))
         (a6 (Nat.beq z i.size) (a6 (Nat.beq z z2) (a6 (Nat.beq el e) (a6 (Nat.ble S.fl b.idx) (K5 new)))))
       | _=>none)
      | _=>none) (iZ x i.size)
     | _,_=>none)
def qA (opt:Bool) (S:Hp) (e:Nat) (i:TypeInfo) (s x:AV):Option (AV × Hp):=
 match y6 S i.size 2 x with
 | some new=>(match t9 i.size new with
   | some r0=>Bool.rec none (match s with
     | .nils=>Bool.rec none (some (.sa S.nx 0 2 i.size,S.alloc (.arr 2 i.size (fun _=>r0) (some (1,w7 i.size new)) e false false))) (aS 2 i.bytes)
     | .sa b 0 n z=>(match T.get b S.hp with
      | some (.arr n' z2 f ov el _ sty)=>Bool.rec none (sM opt (a6 (Nat.beq n n') (zS (Nat.add n 2) i.bytes)) (some (.sa S.nx 0 (Nat.add n 2) z,S.move b (.arr (Nat.add n 2) z (P1 (P1 f ov) (some (n,r0))) (some (Nat.succ n,w7 i.size new)) e false sty))))
        (a6 (Nat.beq z i.size) (a6 (Nat.beq z z2) (a6 (Nat.beq el e) (a6 (Nat.ble S.fl b.idx) (K5 new)))))
      | _=>none)
     | _=>none) (iZ x i.size)
   | none=>none)
 | none=>none
def Ho (opt:Bool) (S:Hp) (e:Nat) (i:TypeInfo) (s x:AV):Option (AV × Hp):=
 match U1 x,Kz x with
 | some 2,none=>qA opt S e i s x
 | _,_=>lT opt S e i s x
theorem Vu {opt:Bool} {S:Hp} {e:Nat} {i:TypeInfo} {s x:AV} {p:AV × Hp} (h:Ho opt S e i s x=some p):lT opt S e i s x=some p∨(qA opt S e i s x=some p∧U1 x=some 2):=by
 unfold Ho at h
 split at h
 ·rename_i e1 _
  exact .inr ⟨h,e1⟩
 ·exact .inl h
def Nt (opt:Bool) (E:i3) (S:Hp) (sT xT:Nat) (s x:AV):Option (AV × Hp):=
 match A4 E sT,A4 E xT with
 | some (.slice e),some xd=>Bool.rec none (Bool.rec none (match info E e,G3 E e with
  | some i,some zero=>Bool.rec none (Bool.rec none (Bool.rec none (lT opt S e i s x) (aS 1 i.bytes)) (Nat.blt 0 i.size)) (Nat.beq (j1 zero).length i.size)
  | _,_=>none) (E.am e)) (gR xd)
 | _,_=>none
def Hq (opt:Bool) (E:i3) (S:Hp) (sT xT:Nat) (s x:AV):Option (AV × Hp):=
 match A4 E sT,A4 E xT with
 | some (.slice e),some xd=>Bool.rec none (Bool.rec none (match info E e,G3 E e with
  | some i,some zero=>Bool.rec none (Bool.rec none (Bool.rec none (Ho opt S e i s x) (aS 1 i.bytes)) (Nat.blt 0 i.size)) (Nat.beq (j1 zero).length i.size)
  | _,_=>none) (E.am e)) (gR xd)
 | _,_=>none
def Ea (S:Hp) (i:TypeInfo) (s x:AV):Bool:=
 match Kz x with
 | some ⟨b2,_,_,m⟩=>(match T.get b2 S.hp with|some (.arr n _ _ _ _ _ _)=>a6 (Nat.blt 0 m) (a6 (Nat.ble m n) (zS m i.bytes))|_=>true)
 | none=>(match s with|.sa b 0 n _=>(match T.get b S.hp with|some (.arr n' _ _ _ _ _ _)=>a6 (Nat.beq n n') (zS (Nat.add n 1) i.bytes)|_=>true)|_=>true)
def Nu (S:Hp) (i:TypeInfo) (s:AV):Bool:=
 match s with|.sa b 0 n _=>(match T.get b S.hp with|some (.arr n' _ _ _ _ _ _)=>a6 (Nat.beq n n') (zS (Nat.add n 2) i.bytes)|_=>true)|_=>true
def Nv (S:Hp) (i:TypeInfo) (s x:AV):Bool:=
 match U1 x,Kz x with
 | some 2,none=>Nu S i s
 | _,_=>Ea S i s x
def HI (E:i3) (S:Hp) (sT:Nat) (s x:AV):Bool:=
 match A4 E sT with
 | some (.slice e)=>Bool.rec true (match info E e with|some i=>Nv S i s x|none=>true) (E.am e)
 | _=>true
theorem HJ {S:Hp} {e:Nat} {i:TypeInfo} {s x:AV} (h:Ea S i s x=true):lT false S e i s x=lT true S e i s x:=by
 unfold lT
 split
 ·rename_i b2 e2 m z
  split
  ·rename_i n z2 f ov el ex sty hb
   unfold Ea at h
   simp only [show Kz (.sa b2 0 m z)=some ⟨b2,0,z,m⟩ from rfl,hb] at h
   simp only [O9 h]
  ·rfl
 ·rename_i hx
  split
  ·rename_i new h1 h2
   have h':(match (generalizing:=false) s with|.sa b 0 n _=>(match T.get b S.hp with|some (.arr n' _ _ _ _ _ _)=>a6 (Nat.beq n n') (zS (Nat.add n 1) i.bytes)|_=>true)|_=>true:Bool)=true:=by
    have hn:Kz x=none:=by cases x <;> first|rfl|exact absurd rfl (hx _ _ _ _)
    unfold Ea at h
    rw [hn] at h
    exact h
   cases s <;> try rfl
   rename_i b e0 n z
   cases e0 with
   | succ q=>rfl
   | zero =>
     simp only at h' ⊢
     cases hb:T.get b S.hp with
     | none=>rfl
     | some o =>
       rw [hb] at h'
       cases o <;> try rfl
       simp only at h'
       simp only [O9 h']
  ·rfl
theorem HK {S:Hp} {e:Nat} {i:TypeInfo} {s x:AV} (h:Nu S i s=true):qA false S e i s x=qA true S e i s x:=by
 unfold qA
 unfold Nu at h
 cases hf:y6 S i.size 2 x with
 | none=>rfl
 | some new =>
   simp only
   cases hr:t9 i.size new with
   | none=>rfl
   | some r0 =>
     simp only
     cases s <;> try rfl
     rename_i b e0 n z
     cases e0 with
     | succ q=>rfl
     | zero =>
       simp only at h ⊢
       cases hb:T.get b S.hp with
       | none=>rfl
       | some o =>
         rw [hb] at h
         cases o <;> try rfl
         simp only at h
         simp only [O9 h]
theorem HL {S:Hp} {e:Nat} {i:TypeInfo} {s x:AV} (h:Nv S i s x=true):Ho false S e i s x=Ho true S e i s x:=by
 unfold Ho
 unfold Nv at h
 split at h
 ·exact HK h
 ·exact HJ h
theorem QO {S:Hp} {sT xT:Nat} {s x:AV} (h:HI E S sT s x=true):Hq false E S sT xT s x=Hq true E S sT xT s x:=by
 unfold Hq
 unfold HI at h
 split
 ·rename_i e xd hs hx
  rw [hs] at h
  simp only at h
  cases ha:E.am e with
  | false=>rfl
  | true =>
    rw [ha] at h
    simp only at h
    split
    ·rename_i i zero hi hz
     rw [hi] at h
     simp only [HL (e:=e) h]
    ·rfl
 ·rfl
end
section
variable {z n:Nat} {f:Nat→List AV}
theorem Nw {new r0 r1:List AV} (e:new=r0++r1):List.append (i7 f n) new=i7 (upd (upd f n r0) (n+1) r1) (n+2):=by
 subst e
 have h1:List.append (i7 f n) r0=i7 (upd f n r0) (n+1):=gY n r0
 have h2:List.append (i7 (upd f n r0) (n+1)) r1=i7 (upd (upd f n r0) (n+1) r1) (n+2):=gY (n+1) r1
 rw [← h2,← h1]
 exact (List.append_assoc _ _ _).symm
theorem Nx {E:i3} {S:Hp} {b:Ps} {sT xT e:Nat} {xd:TypeDesc} {i:TypeInfo} {zero x:AV} {new r0 r1:List AV} {ex sty:Bool} (h1:A4 E sT=some (.slice e)) (h2:A4 E xT=some xd) (h3:gR xd=true) (h4:info E e=some i) (h5:G3 E e=some zero)
 (h6:U1 x=some 2) (h7:y6 S i.size 2 x=some new) (h8:aS (Nat.add n 2) i.bytes=true) (h9:Bool.and (Nat.blt 0 i.size) (iZ x i.size)=true) (h10:Nat.beq (j1 zero).length i.size=true) (h0:0 < i.size)
 (hb:T.get b S.hp=some (.cells (i7 f n) e ex sty 0 0)) (h:∀ j,j < n→(f j).length=i.size) (hfl:Nat.ble S.fl b.idx=true) (hsc:K5 new=true) (hn:new=r0++r1) :
 eN E S sT xT (.su b 0 n i.size) x=some (.su S.nx 0 (Nat.add n 2) i.size,S.move b (.cells (i7 (upd (upd f n r0) (n+1) r1) (n+2)) e false sty 0 0)):=by
 unfold eN
 rw [h1,h2]
 simp only
 rw [h3]
 show jQ E S e (.su b 0 n i.size) x=_
 unfold jQ
 rw [h4,h5,h6,show U1 (.su b 0 n i.size)=some n from rfl]
 simp only
 unfold yV
 rw [h7,h8,h9,h10]
 simp only
 unfold Hb
 simp only
 rw [show Nat.beq i.size i.size=true from Nat.beq_refl _]
 simp only
 have hl:(i7 f n).length=n * i.size:=o5 h
 have hsure:sure S b 0 i.size n=n:=by
  unfold AM.sure
  rw [hb]
  show Nat.max n (((i7 f n).length - 0) / i.size)=n
  rw [hl,Nat.sub_zero,Nat.mul_div_cancel _ h0]
  exact Nat.max_self n
 rw [hsure,show Nat.ble (Nat.add n 2) n=false from by rw [l8];exact decide_eq_false (by show ¬ n+2≤n;omega)]
 simp only
 rw [gZ hb h (Nat.le_refl n)]
 simp only
 rw [gP]
 unfold eM
 rw [hb]
 simp only
 rw [hfl,show Nat.ble 0 (i7 f n).length=true from Nat.ble_eq_true_of_le (Nat.zero_le _),show Nat.beq e e=true from Nat.beq_refl _,show eJ 0 0 (Nat.add 0 (i7 f n).length) new.length=true from rfl,show Bool.or (Nat.beq 0 0) (Nat.beq 0 0)=true from rfl,hsc,
  show Nat.ble (i7 f n).length (Nat.add 0 (Nat.add (i7 f n).length new.length))=true from Nat.ble_eq_true_of_le (by show (i7 f n).length≤0+((i7 f n).length+new.length);omega)]
 show some (AV.su S.nx 0 (n+2) i.size,S.move b (.cells (List.append (i7 f n) new) e false sty (0 - 0) (0 - 0)))=_
 rw [Nw hn]
end
section
variable {E:i3} (hE:E.Ok) {γ:Gm}
theorem lU {S:Hp} {b c:Ps} {o x:AO} (h:(S.move b o).hp.get c=some x):(c=S.nx∧x=o)∨(c≠S.nx∧c≠b∧S.hp.get c=some x):=by
 by_cases e:c=S.nx
 ·left;subst e;rw [show (S.move b o).hp.get S.nx=some o from T.get_set_same _ _ _] at h;cases h;exact ⟨rfl,rfl⟩
 ·right
  rw [show (S.move b o).hp.get c=T.get c (T.del b S.hp) from T.get_set_ne (fun e'=>e e'.symm) _ _] at h
  by_cases e2:c=b
  ·subst e2;rw [T.get_del_same] at h;cases h
  ·rw [T.get_del_ne (fun e'=>e2 e'.symm)] at h;exact ⟨e,e2,h⟩
theorem uY {S:Hp} {b:Ps} {o:AO}:(S.move b o).hp.get S.nx=some o:=T.get_set_same _ _ _
theorem aX {S:Hp} {b c:Ps} {o:AO} (h1:c≠S.nx) (h2:c≠b):(S.move b o).hp.get c=S.hp.get c:=by
 rw [show (S.move b o).hp.get c=T.get c (T.del b S.hp) from T.get_set_ne (fun e'=>h1 e'.symm) _ _,T.get_del_ne (fun e'=>h2 e'.symm)]
theorem jR {ng:Nat} {S:Hp} {w w':World} {γ':Gm} {b:Ps} {a c o o':AO} (hH:HR γ ng S w) (hb:S.hp.get b=some a) (h:HR γ' ng ((S.put b c).alloc o) w') (p:j6 (S.put b c) γ w ((S.put b c).alloc o) γ' w')
 (hc:∀ L ob,OR γ' L c ob→OR γ' L a ob) (ho:∀ L ob,OR γ' L o ob→OR γ' L o' ob):HR γ' ng (S.alloc o') w'∧j6 S γ w (S.alloc o') γ' w':=by
 have hlt:=hH.lt hb
 have e1:∀ x,(S.alloc x).hp.get b=S.hp.get b:=fun x=>v9 (fun e=>by subst e;omega)
 have e2:((S.put b c).alloc o).hp.get b=some c:=by
  rw [v9 (show b≠(S.put b c).nx from fun e=>by rw [e] at hlt;exact Nat.lt_irrefl _ hlt)];exact I1
 refine ⟨h.same (fun k x hx=>?_) rfl,p.dress (fun k x hx=>?_) (fun k x hx=>?_) rfl rfl rfl rfl (fun k x hx hfl=>?_) (fun k x hx hfl hn=>?_)⟩
 ·rcases L8 hx with ⟨rfl,rfl⟩|⟨hne,h2⟩
  ·exact ⟨o,L7 (S:=S.put b c),ho⟩
  ·by_cases e:k=b
   ·subst e
    rw [hb] at h2;cases h2
    exact ⟨c,e2,hc⟩
   ·exact ⟨x,by rw [v9 (show k≠(S.put b c).nx from hne),n5 e];exact h2,fun _ _ h=>h⟩
 ·rcases G8 hx with ⟨rfl,rfl⟩|⟨_,h2⟩
  ·exact ⟨_,hb⟩
  ·exact ⟨_,h2⟩
 ·rcases L8 hx with ⟨rfl,rfl⟩|⟨hne,h2⟩
  ·exact ⟨o,L7 (S:=S.put b c)⟩
  ·by_cases e:k=b
   ·subst e;exact ⟨c,e2⟩
   ·exact ⟨x,by rw [v9 (show k≠(S.put b c).nx from hne),n5 e];exact h2⟩
 ·have:=hH.lt hx
  rw [v9 (fun e=>by subst e;omega)];exact hx
 ·rcases L8 hx with ⟨rfl,rfl⟩|⟨hne,h2⟩
  ·omega
  ·exact h2
theorem aY {ng:Nat} {S:Hp} {w w':World} {γ':Gm} {b:Ps} {a c o o':AO} (hH:HR γ ng S w) (hb:S.hp.get b=some a) (hbf:S.fl≤b.idx) (h:HR γ' ng ((S.put b c).move b o) w') (p:j6 (S.put b c) γ w ((S.put b c).move b o) γ' w')
 (ho:∀ L ob,OR γ' L o ob→OR γ' L o' ob):HR γ' ng (S.move b o') w'∧j6 S γ w (S.move b o') γ' w':=by
 have hlt:=hH.lt hb
 refine ⟨h.same (fun k x hx=>?_) rfl,p.dress (fun k x hx=>?_) (fun k x hx=>?_) rfl rfl rfl rfl (fun k x hx hfl=>?_) (fun k x hx hfl hn=>?_)⟩
 ·rcases lU hx with ⟨rfl,rfl⟩|⟨hne,hne2,h2⟩
  ·exact ⟨o,uY (S:=S.put b c),ho⟩
  ·exact ⟨x,by rw [aX (show k≠(S.put b c).nx from hne) hne2,n5 hne2];exact h2,fun _ _ h=>h⟩
 ·rcases G8 hx with ⟨rfl,rfl⟩|⟨_,h2⟩
  ·exact ⟨_,hb⟩
  ·exact ⟨_,h2⟩
 ·rcases lU hx with ⟨rfl,rfl⟩|⟨hne,hne2,h2⟩
  ·exact ⟨o,uY (S:=S.put b c)⟩
  ·exact ⟨x,by rw [aX (show k≠(S.put b c).nx from hne) hne2,n5 hne2];exact h2⟩
 ·have:=hH.lt hx
  rw [aX (fun e=>by subst e;omega) (fun e=>by subst e;omega)];exact hx
 ·rcases lU hx with ⟨rfl,rfl⟩|⟨hne,hne2,h2⟩
  ·omega
  ·exact h2
theorem lV {S:Hp} {b:Ps} {n0 z0 el z n:Nat} {f:Nat→List AV} {ov:Option (Nat × List AV)} {ex sty:Bool} {c:AO} {x:AV} {l:List AV} (hb:T.get b S.hp=some (.arr n0 z0 f ov el ex sty)) (h:y6 S z n x=some l):y6 (S.put b c) z n x=some l:=by
 unfold y6 at h ⊢
 cases x <;> try exact h
 ·rename_i b' o len cap
  simp only at h ⊢
  by_cases e:b'=b
  ·subst e;rw [hb] at h;cases h
  ·rw [show T.get b' (S.put b c).hp=T.get b' S.hp from n5 e];exact h
 ·rename_i b' o len cap
  simp only at h ⊢
  by_cases e:b'=b
  ·subst e;rw [hb] at h;cases h
  ·rw [show T.get b' (S.put b c).hp=T.get b' S.hp from n5 e];exact h
include hE in
theorem Ny {S S':Hp} {sT xT:Nat} {s x r:AV} (h:Nt false E S sT xT s x=some (r,S')) {s' x':Value} (hs:VR γ s s') (hx:VR γ x x') {ng:Nat} {ats:Array TypeId} (h0:ats[0]? = some sT) (h1:ats[1]? = some xT) (ty:TypeId)
 {args:Array Value} (ha0:args[0]? = some s') (ha1:args[1]? = some x'):yA E.P γ ng S (Builtin.append_ ats ty args) r S':=by
 intro w hH
 unfold Nt at h
 split at h
 ·rename_i e xd hus hux
  obtain ⟨hni,hA⟩:=d5 h
  obtain ⟨ham,hB⟩:=d5 hA
  split at hB
  ·rename_i i zero hi hz
   obtain ⟨hzl,hC⟩:=d5 hB
   obtain ⟨hz0,hD⟩:=d5 hC
   obtain ⟨hb1,hF⟩:=d5 hD
   have hz0':0 < i.size:=by rw [f6] at hz0;exact of_decide_eq_true hz0
   clear h hA hB hC hD
   unfold lT at hF
   split at hF
   ·
    rename_i b2 e2 m z
    split at hF
    ·rename_i n z2 f ov el ex sty hb
     obtain ⟨hzz,hG⟩:=d5 hF
     obtain ⟨hem,hI⟩:=d5 hG
     obtain ⟨hg,hJ⟩:=O8 hI
     cases hJ
     obtain ⟨hzz1,hzz2⟩:=a9.1 hzz
     have hzz1':=Nat.eq_of_beq_eq_true hzz1
     have hzz2':=Nat.eq_of_beq_eq_true hzz2
     subst hzz2'
     subst hzz1'
     obtain ⟨g1,hg⟩:=a9.1 hg
     obtain ⟨g2,g3⟩:=a9.1 hg
     rw [f6] at g1
     have g1:=of_decide_eq_true g1
     have g2:m≤n:=Nat.le_of_ble_eq_true g2
     obtain ⟨d1,d2,d3⟩:=Q7 hH hb
     obtain ⟨m',rfl⟩:∃ m',m=m'+1:=⟨m - 1,by omega⟩
     have hx1:VR γ (.su b2 0 (m'+1) i.size) x':=by have:=hx.sa_su;rw [Nat.zero_mul] at this;exact this
     have hfl:y6 (S.put b2 (.cells (i7 (E8 f ov) n) el ex sty 0 0)) i.size (m'+1) (.su b2 0 (m'+1) i.size)=some (i7 (E8 f ov) (m'+1)):=gZ I1 d3 g2
     have hold:∀ q,(s=.nils∨∃ b o,s=.sl b o 0 0∧∃ c e x y l h,T.get b S.hp=some (.cells c e x y l h))→U1 s=some 0∧Hb (S.put b2 (.cells (i7 (E8 f ov) n) el ex sty 0 0)) e i.size (m'+1) 0 s q=some (jA (S.put b2 (.cells (i7 (E8 f ov) n) el ex sty 0 0)) e i.size (m'+1) [] q):=fun q hq=>by
      rcases hq with rfl|⟨b,o,rfl,c,e3,x3,y3,l3,h3,hbc⟩
      ·exact ⟨rfl,rfl⟩
      ·refine ⟨rfl,?_⟩
       have hne:b≠b2:=fun e=>by subst e;rw [hb] at hbc;cases hbc
       unfold Hb
       simp only
       rw [show Nat.ble (Nat.add 0 (m'+1)) 0=false from by rw [l8];exact decide_eq_false (by show ¬ 0+(m'+1)≤0;omega)]
       simp only
       have:y6 (S.put b2 (.cells (i7 (E8 f ov) n) el ex sty 0 0)) i.size 0 (.sl b o 0 0)=some []:=by
        unfold y6
        simp only
        rw [show T.get b (S.put b2 _).hp=T.get b S.hp from n5 hne,hbc]
        simp only
        rw [show Nat.mul 0 i.size=0 from Nat.zero_mul _]
        cases w7 o c <;> rfl
       rw [this]
       simp only
       rw [show Nat.add 0 (m'+1)=m'+1 from Nat.zero_add _]
     have hs0:s=.nils∨∃ b o,s=.sl b o 0 0∧∃ c e x y l h,T.get b S.hp=some (.cells c e x y l h):=by
      unfold Ns at hem
      split at hem
      ·exact .inl rfl
      ·rename_i b o
       split at hem
       ·rename_i c e3 x3 y3 l3 h3 hbc
        exact .inr ⟨b,o,rfl,c,e3,x3,y3,l3,h3,hbc⟩
       ·cases hem
      ·cases hem
     obtain ⟨hvs,hD2⟩:=hold (i7 (E8 f ov) (m'+1)) hs0
     have happ:eN E (S.put b2 (.cells (i7 (E8 f ov) n) el ex sty 0 0)) sT xT s (.su b2 0 (m'+1) i.size)=some (jA (S.put b2 (.cells (i7 (E8 f ov) n) el ex sty 0 0)) e i.size (m'+1) [] (i7 (E8 f ov) (m'+1))):=by
      unfold eN
      rw [hus,hux]
      simp only
      rw [hni]
      show jQ E _ e s (.su b2 0 (m'+1) i.size)=_
      unfold jQ
      rw [hi,hz,show U1 (.su b2 0 (m'+1) i.size)=some (m'+1) from rfl,hvs]
      simp only
      unfold yV
      rw [hfl,show Nat.add 0 (m'+1)=m'+1 from Nat.zero_add _,show aS (m'+1) i.bytes=true from g3,hz0,show iZ (.su b2 0 (m'+1) i.size) i.size=true from rfl,hzl]
      exact hD2
     rw [eL] at happ
     obtain ⟨γ',v,w',q1,q2,q3,q4⟩:=bU hE happ hs hx1 h0 h1 ty ha0 ha1 (ng:=ng) w d1
     have hlen:∀ j,j < m'+1→(E8 f ov j).length=i.size:=fun j hj=>d3 j (by omega)
     obtain ⟨k1,k2⟩:=jR hH hb q3 q4 (o':=.arr (m'+1) i.size f ov e false false) (fun L ob ho=>OR.arr_of ho d2 d3) (fun L ob ho=>OR.arr_of ho hz0' hlen)
     refine ⟨γ',v,w',q1,?_,k1,k2⟩
     have:VR γ' (.su S.nx (0 * i.size) (m'+1) i.size) v:=by rw [Nat.zero_mul];exact q2
     exact this.su_sa
    ·cases hF
   ·
    rename_i hns
    split at hF
    ·rename_i new hv1 hf1
     obtain ⟨hstr,hG⟩:=d5 hF
     have hnl:new.length=i.size:=by have:=M6 hf1 hstr (.inl hv1);rw [Nat.one_mul] at this;exact this
     split at hG
     ·cases hG
      have happ:eN E S sT xT .nils x=some (jA S e i.size 1 [] new):=by
       unfold eN
       rw [hus,hux]
       simp only
       rw [hni]
       show jQ E _ e .nils x=_
       unfold jQ
       rw [hi,hz,hv1,show U1 .nils=some 0 from rfl]
       simp only
       unfold yV
       rw [hf1,show Nat.add 0 1=1 from rfl,hb1,hz0,hstr,hzl]
       rfl
      rw [eL] at happ
      obtain ⟨γ',v,w',q1,q2,q3,q4⟩:=bU hE happ hs hx h0 h1 ty ha0 ha1 (ng:=ng) w hH
      obtain ⟨k1,k2⟩:=T4 hH q3 q4 (o':=.arr 1 i.size (fun _=>new) none e false false) (fun L ob ho=>OR.arr_of ho hz0' (fun _ _=>hnl))
      refine ⟨γ',v,w',q1,?_,k1,k2⟩
      have:VR γ' (.su S.nx (0 * i.size) 1 i.size) v:=by rw [Nat.zero_mul];exact q2
      exact this.su_sa
     ·rename_i b n z
      split at hG
      ·rename_i n' z2 f ov el ex sty hb
       obtain ⟨hcc,hI⟩:=d5 hG
       obtain ⟨hg,hJ⟩:=O8 hI
       cases hJ
       obtain ⟨c1,hcc⟩:=a9.1 hcc
       obtain ⟨c2,hcc⟩:=a9.1 hcc
       obtain ⟨c3,hcc⟩:=a9.1 hcc
       obtain ⟨c4,c5⟩:=a9.1 hcc
       have c1':=Nat.eq_of_beq_eq_true c1
       have c2':=Nat.eq_of_beq_eq_true c2
       have c3':=Nat.eq_of_beq_eq_true c3
       subst c2' c1' c3'
       obtain ⟨g1,g2⟩:=a9.1 hg
       have g1':=Nat.eq_of_beq_eq_true g1
       subst g1'
       obtain ⟨d1,d2,d3⟩:=Q7 hH hb
       have hs1:VR γ (.su b 0 n i.size) s':=by have:=hs.sa_su;rw [Nat.zero_mul] at this;exact this
       have happ:=Nm (E:=E) (S:=S.put b (.cells (i7 (E8 f ov) n) el ex sty 0 0)) (x:=x) (new:=new) hus hux hni hi hz hv1 (lV hb hf1) g2 (by rw [hz0,hstr];rfl) hzl rfl hz0' I1 d3 c4 c5
       obtain ⟨γ',v,w',q1,q2,q3,q4⟩:=bU hE happ hs1 hx h0 h1 ty ha0 ha1 (ng:=ng) w d1
       obtain ⟨k1,k2⟩:=aY hH hb (Nat.le_of_ble_eq_true c4) q3 q4 (o':=.arr (Nat.add n 1) i.size (P1 f ov) (some (n,new)) el false sty) (fun L ob ho=>by
        refine OR.arr_of ?_ hz0' (fun j hj=>?_)
        ·show OR γ' L (.cells (i7 (upd (P1 f ov) n new) (n+1)) el false sty 0 0) ob
         rw [aW];exact ho
        ·show (upd (P1 f ov) n new j).length=i.size
         rw [aW]
         by_cases e:j=n
         ·subst e;rw [aU];exact hnl
         ·rw [zJ e];exact d3 j (by have hj':j < n+1:=hj;omega))
       refine ⟨γ',v,w',q1,?_,k1,k2⟩
       have:VR γ' (.su S.nx (0 * i.size) (Nat.add n 1) i.size) v:=by rw [Nat.zero_mul];exact q2
       exact this.su_sa
      ·cases hG
     ·cases hG
    ·cases hF
  ·cases hB
 ·cases h
include hE in
theorem Vv {S S' : Hp} {sT xT:Nat} {s x r:AV} (h:Hq false E S sT xT s x=some (r,S')) {s' x':Value} (hs:VR γ s s') (hx:VR γ x x') {ng:Nat} {ats:Array TypeId} (h0:ats[0]? = some sT) (h1:ats[1]? = some xT) (ty:TypeId)
 {args:Array Value} (ha0:args[0]? = some s') (ha1:args[1]? = some x'):yA E.P γ ng S (Builtin.append_ ats ty args) r S':=by
 unfold Hq at h
 split at h
 ·rename_i e xd hus hux
  obtain ⟨hni,hA⟩:=d5 h
  obtain ⟨ham,hB⟩:=d5 hA
  split at hB
  ·rename_i i zero hi hz
   obtain ⟨hzl,hC⟩:=d5 hB
   obtain ⟨hz0,hD⟩:=d5 hC
   obtain ⟨hb1,hF⟩:=d5 hD
   have hz0':0 < i.size:=by rw [f6] at hz0;exact of_decide_eq_true hz0
   rcases Vu hF with hF|⟨hF,hv2⟩
   ·refine Ny hE ?_ hs hx h0 h1 ty ha0 ha1
    unfold Nt
    rw [hus,hux]
    simp only
    rw [hni,ham,hi,hz]
    simp only
    rw [hzl,hz0,hb1]
    exact hF
   ·intro w hH
    unfold qA at hF
    split at hF
    ·rename_i new hf2
     split at hF
     ·rename_i r0 hr0
      obtain ⟨hstr,hG⟩:=d5 hF
      have hnl:new.length=2 * i.size:=M6 hf2 hstr (.inl hv2)
      obtain ⟨er0,hle⟩:=E7 hr0
      have hd:w7 i.size new=new.drop i.size:=E6 i.size new
      have hl0:r0.length=i.size:=by rw [er0,List.length_take];omega
      have hl1:(w7 i.size new).length=i.size:=by rw [hd,List.length_drop];omega
      have hnew:new=r0++w7 i.size new:=by rw [er0,hd];exact (List.take_append_drop _ _).symm
      generalize w7 i.size new=r1 at hG hl1 hnew
      split at hG
      ·obtain ⟨hb2,hJ⟩:=d5 hG
       cases hJ
       have happ:eN E S sT xT .nils x=some (jA S e i.size 2 [] new):=by
        unfold eN
        rw [hus,hux]
        simp only
        rw [hni]
        show jQ E _ e .nils x=_
        unfold jQ
        rw [hi,hz,hv2,show U1 .nils=some 0 from rfl]
        simp only
        unfold yV
        rw [hf2,show Nat.add 0 2=2 from rfl,hb2,hz0,hstr,hzl]
        rfl
       rw [eL] at happ
       obtain ⟨γ',v,w',q1,q2,q3,q4⟩:=bU hE happ hs hx h0 h1 ty ha0 ha1 (ng:=ng) w hH
       obtain ⟨k1,k2⟩:=T4 hH q3 q4 (o':=.arr 2 i.size (fun _=>r0) (some (1,r1)) e false false) (fun L ob ho=>OR.arr_of (by
        show OR γ' L (.cells (i7 (upd (fun _=>r0) 1 r1) 2) e false false 0 0) ob
        have e2:i7 (upd (fun _=>r0) 1 r1) 2=new:=by
         rw [hnew]
         show (([]++r0)++r1)=r0++r1
         rw [List.nil_append]
        rw [e2];exact ho) hz0' (fun j _=>by
        show (upd (fun _=>r0) 1 r1 j).length=i.size
        unfold upd
        by_cases e:j=1
        ·rw [if_pos e];exact hl1
        ·rw [if_neg e];exact hl0))
       refine ⟨γ',v,w',q1,?_,k1,k2⟩
       have:VR γ' (.su S.nx (0 * i.size) 2 i.size) v:=by rw [Nat.zero_mul];exact q2
       exact this.su_sa
      ·rename_i b n z _
       split at hG
       ·rename_i n' z2 f ov el ex sty hb
        obtain ⟨hcc,hI⟩:=d5 hG
        obtain ⟨hg,hJ⟩:=O8 hI
        cases hJ
        obtain ⟨c1,hcc⟩:=a9.1 hcc
        obtain ⟨c2,hcc⟩:=a9.1 hcc
        obtain ⟨c3,hcc⟩:=a9.1 hcc
        obtain ⟨c4,c5⟩:=a9.1 hcc
        have c1':=Nat.eq_of_beq_eq_true c1
        have c2':=Nat.eq_of_beq_eq_true c2
        have c3':=Nat.eq_of_beq_eq_true c3
        subst c2' c1' c3'
        obtain ⟨g1,g2⟩:=a9.1 hg
        have g1':=Nat.eq_of_beq_eq_true g1
        subst g1'
        obtain ⟨d1,d2,d3⟩:=Q7 hH hb
        have hs1:VR γ (.su b 0 n i.size) s':=by have:=hs.sa_su;rw [Nat.zero_mul] at this;exact this
        have happ:=Nx (E:=E) (S:=S.put b (.cells (i7 (E8 f ov) n) el ex sty 0 0)) (x:=x) (new:=new) (r0:=r0) (r1:=r1) hus hux hni hi hz hv2 (lV hb hf2) g2 (by rw [hz0,hstr];rfl) hzl hz0' I1 d3 c4 c5 hnew
        obtain ⟨γ',v,w',q1,q2,q3,q4⟩:=bU hE happ hs1 hx h0 h1 ty ha0 ha1 (ng:=ng) w d1
        have hfo:P1 (P1 f ov) (some (n,r0))=upd (E8 f ov) n r0:=by rw [aW,aW];rfl
        obtain ⟨k1,k2⟩:=aY hH hb (Nat.le_of_ble_eq_true c4) q3 q4 (o':=.arr (Nat.add n 2) i.size (P1 (P1 f ov) (some (n,r0))) (some (Nat.succ n,r1)) el false sty) (fun L ob ho=>by
         refine OR.arr_of ?_ hz0' (fun j hj=>?_)
         ·show OR γ' L (.cells (i7 (upd (P1 (P1 f ov) (some (n,r0))) (n+1) r1) (n+2)) el false sty 0 0) ob
          rw [hfo];exact ho
         ·show (upd (P1 (P1 f ov) (some (n,r0))) (n+1) r1 j).length=i.size
          rw [hfo]
          by_cases e:j=n+1
          ·subst e;rw [aU];exact hl1
          ·rw [zJ e]
           by_cases e2:j=n
           ·subst e2;rw [aU];exact hl0
           ·rw [zJ e2];exact d3 j (by have hj':j < n+2:=hj;omega))
        refine ⟨γ',v,w',q1,?_,k1,k2⟩
        have:VR γ' (.su S.nx (0 * i.size) (Nat.add n 2) i.size) v:=by rw [Nat.zero_mul];exact q2
        exact this.su_sa
       ·cases hG
      ·cases hG
     ·cases hF
    ·cases hF
  ·cases hB
 ·cases h
end
end Go.AM
end
