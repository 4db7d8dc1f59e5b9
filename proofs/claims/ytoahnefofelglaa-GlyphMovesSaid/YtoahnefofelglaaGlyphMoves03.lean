/- A part of the proof of GlyphMoves; no condition. -/
import Derived.Test.YtoahnefofelglaaGlyphMoves02
import Derived.Lib.ConvBytes
import Derived.Laws.AppendOwn
set_option linter.unusedVariables false
set_option linter.unusedSimpArgs false
set_option linter.unusedSectionVars false
section
namespace Go.AM
noncomputable def copyTo (S:Hp) (d:AV) (n:Nat) (new:List AV):Option (AV × Hp):=
  match n with
  | 0=>(match new with|[]=>some (.int .i64 0,S)|_=>none)
  | m+1=>(match d with
    | .sl b o _ _=>(match putC S b o new with|some S'=>some (.int .i64 (Int.ofNat (m+1)),S')|none=>none)
    | .su b o _ _=>(match putC S b o new with|some S'=>some (.int .i64 (Int.ofNat (m+1)),S')|none=>none)
    | _=>none)
noncomputable def isStr0 (x:AV):Bool:=match x with|.str _=>true|_=>false
noncomputable def isSl0 (x:AV):Bool:=match x with|.nils=>true|.sl _ _ _ _=>true|.su _ _ _ _=>true|_=>false
noncomputable def copyA (E:Env) (S:Hp) (dT:Nat) (d s:AV):Option (AV × Hp):=
  match und E dT with
  | some (.slice e)=>(match sizeA E e,vlen s,vlen d,isSl0 d,isStr0 s with
    | some z,some ls,some ld,true,false=>(match firstA S z (Nat.min ls ld) s with
      | some new=>copyTo S d (Nat.min ls ld) new
      | none=>none)
    | _,_,_,_,_=>none)
  | _=>none
section
variable {E:Env} (hE:E.Ok) {γ:Gm} {S:Hp}
include hE
theorem copyA_ok {dT:Nat} {d s r:AV} {S':Hp} (h:copyA E S dT d s=some (r,S')) {d' s':Value} (hd:VR γ d d') (hs:VR γ s s') {ts:Array TypeId} {args:Array Value} (ht:ts[0]? = some dT) (ty:TypeId)
    (h0:args[0]? = some d') (h1:args[1]? = some s') {ng:Nat}:Out E.P γ ng S (Builtin.copy_ ts ty args) r S':=by
  intro w hH
  unfold copyA at h
  split at h
  · rename_i e hu
    split at h
    · rename_i z ls ld hz hls hld hsl hst
      split at h
      · rename_i new hnew
        obtain ⟨new',g1,g2⟩:=firstA_ok (P:=E.P) hH hnew hs (.inr (fun b e=>by rw [e] at hst;cases hst))
        have hlen:=vlen_ok (P:=E.P) hls hs w
        have hrun:∀ base len cap,d'=.slice base len cap→len=ld→(Builtin.copy_ ts ty args).run E.P w=((match base with|some a=>Go.storeCells a new'|none=>pure ()).run E.P w).andThen fun _ w=>.ok (goInt (Nat.min ls ld)) w:=by
          intro base len cap hb hl
          subst hb hl
          unfold Builtin.copy_
          simp only [ht,h0,h1,Sem.run_bind,run_und hE hu,run_size hE hz,Result.andThen_ok,hlen,g1]
          cases base with
          | none=>rfl
          | some a =>
            show ((do Go.storeCells a new';pure (goInt (Nat.min ls len)):Sem Value)).run E.P w=_
            simp only [Sem.run_bind,Sem.run_pure]
        unfold copyTo at h
        split at h
        · rename_i hn
          split at h
          · cases h
            have hn0:new' = []:=by cases g2;rfl
            refine ⟨γ,goInt 0,w,?_,.int .i64 0,hH,Pres.refl _ _ _⟩
            cases hd with
            | nils=>cases hld;rw [hrun _ _ _ rfl rfl];rw [hn];rfl
            | sl o l c hL=>cases hld;rw [hrun _ _ _ rfl rfl,hn,hn0];rfl
            | su o l c z hL _ _ _=>cases hld;rw [hrun _ _ _ rfl rfl,hn,hn0];rfl
            | _=>cases hsl
          · cases h
        · rename_i m hn
          split at h
          · rename_i b o l c
            split at h
            · rename_i S1 hp
              cases h
              cases hd with
              | sl _ _ _ hL =>
                cases hld
                obtain ⟨γ',w',k1,k2,k3⟩:=putC_ok hp hL g2 (P:=E.P) w hH
                refine ⟨γ',goInt (Int.ofNat (m+1)),w',?_,.int .i64 _,k2,k3⟩
                rw [hrun _ _ _ rfl rfl,hn]
                simp only [k1,Result.andThen_ok]
                rfl
            · cases h
          · rename_i b o l zz
            split at h
            · rename_i S1 hp
              cases h
              cases hd with
              | su _ _ _ _ hL _ _ _ =>
                cases hld
                obtain ⟨γ',w',k1,k2,k3⟩:=putC_ok hp hL g2 (P:=E.P) w hH
                refine ⟨γ',goInt (Int.ofNat (m+1)),w',?_,.int .i64 _,k2,k3⟩
                rw [hrun _ _ _ rfl rfl,hn]
                simp only [k1,Result.andThen_ok]
                rfl
            · cases h
          · cases h
      · cases h
    · cases h
  · cases h
end
inductive AD where
  | mark (b:Ps)
  | call (f:Nat) (args cap:List AV)
inductive DR (γ:Gm):AD→Deferred→Prop where
  | mark {b:Ps} {L:Loc} (h:γ b=some L):DR γ (.mark b) { target:=.collected L.blk,args:=#[] }
  | call {a c:List AV} {a' c':List Value} (f:Nat) (h:LR γ a a') (hc:LR γ c c'):DR γ (.call f a c) { target:=.fn (.func f) ⟨c'⟩,args:=⟨a'⟩ }
theorem DR.mono {γ γ':Gm} (hg:Gm.le γ γ') {d:AD} {d':Deferred} (h:DR γ d d'):DR γ' d d':=by
  cases h with
  | mark h=>exact .mark (hg _ _ h)
  | call f h hc=>exact .call f (h.mono hg) (hc.mono hg)
inductive RO where
  | v (x:AV) (S:Hp)
  | call (f:Nat) (args:List AV)
  | yld (l:Ps) (args:List AV)
  | dfr (d:AD)
  | pan (x:AV)
  | rcv
noncomputable def vS (S:Hp) (o:Option AV):Option RO:=Option.rec none (fun x=>some (.v x S)) o
noncomputable def vP (o:Option (AV × Hp)):Option RO:=Option.rec none (fun p=>some (.v p.1 p.2)) o
noncomputable def vU (o:Option Hp):Option RO:=Option.rec none (fun S=>some (.v (.tup []) S)) o
noncomputable def b1 {α:Type} (o:Option AV) (f:AV→Option α):Option α:=Option.rec none f o
abbrev OpF:=Env→Tm→Hp→Nat→Option RO
noncomputable def oMove (x:Operand):OpF:=fun E tm S _=>vS S (evX E.ng tm x)
noncomputable def oPick (c a b:Operand):OpF:=fun E tm S _=>b1 (evX E.ng tm c) fun c=>match c with|.bool true=>vS S (evX E.ng tm a)|.bool false=>vS S (evX E.ng tm b)|_=>none
noncomputable def oAlloc (t:Nat):OpF:=fun E _ S _=>vP (allocA E S t)
noncomputable def oBox (t:Nat) (x:Operand):OpF:=fun E tm S _=>b1 (evX E.ng tm x) fun v=>Bool.rec none (some (.v (.ptr S.nx 0) (S.alloc (.cells (cellsA v) t true false 0 0)))) (notAny v)
noncomputable def evPs (ng:Nat) (tm:Tm) (l:List (Nat × Operand)):Option (List (Nat × AV)):=
  List.rec (some []) (fun p _ ih=>Prod.rec (fun i x=>Option.rec none (fun y=>Bool.rec none (Option.rec none (fun t=>some ((i,y)::t)) ih) (notAny y)) (evX ng tm x)) p) l
noncomputable def oBuild (t:Nat) (ps:Array (Nat × Operand)):OpF:=fun E tm S _=>Option.rec none (fun l=>vS S (buildA E t l)) (evPs E.ng tm ps.toList)
noncomputable def oBuildS (t len:Nat) (ps:Array (Nat × Operand)):OpF:=fun E tm S _=>Option.rec none (fun l=>vP (buildSA E S t len l)) (evPs E.ng tm ps.toList)
noncomputable def oLoad (t:Nat) (a:Operand):OpF:=fun E tm S _=>b1 (evX E.ng tm a) fun a=>vS S (loadA E S t a)
noncomputable def oStore (t:Nat) (a x:Operand):OpF:=fun E tm S _=>b1 (evX E.ng tm a) fun a=>b1 (evX E.ng tm x) fun v=>vU (storeA E S t a v)
noncomputable def notNil (v:AV):Bool:=match v with|.nilp=>false|.nili=>false|.nilf=>false|.any=>false|_=>true
noncomputable def oNil (x:Operand):OpF:=fun E tm S _=>b1 (evX E.ng tm x) fun v=>Bool.rec none (some (.v v S)) (notNil v)
noncomputable def oBin (op:BinOp) (t:Nat) (x y:Operand) (_:Nat):OpF:=fun E tm S _=>b1 (evX E.ng tm x) fun a=>b1 (evX E.ng tm y) fun b=>vS S (bin E op t x y a b)
noncomputable def oUn (op:UnOp) (_:Nat) (x:Operand):OpF:=fun E tm S _=>b1 (evX E.ng tm x) fun a=>vS S (un op a)
noncomputable def oConv (s d:Nat) (x:Operand):OpF:=fun E tm S _=>b1 (evX E.ng tm x) fun a=>vS S (conv3 E S s d a)
noncomputable def notIfc (d:TypeDesc):Bool:=match d with|.interface _=>false|_=>true
noncomputable def ifcA (E:Env) (t:Nat) (x:AV):Option AV:=match und E t with|some d=>Bool.rec none (some (.ifc t x)) (notIfc d)|none=>none
noncomputable def oIfc (t:Nat) (x:Operand):OpF:=fun E tm S _=>b1 (evX E.ng tm x) fun a=>vS S (ifcA E t a)
noncomputable def oFunc (fn:Fn) (first cap:Array Operand):OpF:=fun E tm S _ =>
  match fn with
  | .func f=>Option.rec none (fun a=>Option.rec none (fun c=>some (.v (.fn f a c) S)) (evXs E.ng tm cap.toList)) (evXs E.ng tm first.toList)
  | _=>none
noncomputable def oMap (_:Nat) (r:Option Operand):OpF:=fun _ _ S _=>match r with|none=>some (.v (.mp S.nx) (S.alloc (.map [] 0)))|some _=>none
noncomputable def oMakeS (t:Nat) (l c:Operand):OpF:=fun E tm S _=>b1 (evX E.ng tm l) fun l=>b1 (evX E.ng tm c) fun c=>vP (makeSA E S t l c)
noncomputable def evO (ng:Nat) (tm:Tm) (x:Option Operand):Option (Option AV):=Option.rec (some none) (fun x=>Option.rec none (fun v=>some (some v)) (evX ng tm x)) x
noncomputable def oSlice (t:Nat) (x:Operand) (lo hi mx:Option Operand):OpF:=fun E tm S _=>b1 (evX E.ng tm x) fun a =>
  match evO E.ng tm lo,evO E.ng tm hi,evO E.ng tm mx with
  | some lo,some hi,some mx=>vS S (sliceA E S t a lo hi mx)
  | _,_,_=>none
noncomputable def oFaddr (t:Nat) (x:Operand) (f:Nat):OpF:=fun E tm S _=>b1 (evX E.ng tm x) fun a=>vS S (faddrA E t a f)
noncomputable def oField (t:Nat) (x:Operand) (f:Nat):OpF:=fun E tm S _=>b1 (evX E.ng tm x) fun a=>vS S (fieldA E t a f)
noncomputable def oIaddr (t:Nat) (x i:Operand):OpF:=fun E tm S _=>b1 (evX E.ng tm x) fun a=>b1 (evX E.ng tm i) fun i=>vS S (iaddrA E t a i)
noncomputable def oIndex (t:Nat) (x i:Operand):OpF:=fun E tm S _=>b1 (evX E.ng tm x) fun a=>b1 (evX E.ng tm i) fun i=>vS S (indexA E t a i)
noncomputable def oLook (t:Nat) (x k:Operand) (ok:Bool):OpF:=fun E tm S _=>b1 (evX E.ng tm x) fun a=>b1 (evX E.ng tm k) fun k=>vS S (lookupA E S t a k ok)
noncomputable def oMapU (t:Nat) (m k x:Operand):OpF:=fun E tm S _=>b1 (evX E.ng tm m) fun m=>b1 (evX E.ng tm k) fun k=>b1 (evX E.ng tm x) fun x=>vU (mapUpdateA E S t m k x)
noncomputable def oExt (x:Operand) (i:Nat):OpF:=fun E tm S _=>b1 (evX E.ng tm x) fun a=>match a with|.tup l=>vS S (nth l i)|_=>none
noncomputable def tasB (E:Env) (x:AV) (a:Nat) (ok:Bool):Option AV:=
  match x with
  | .ifc t v=>(match Nat.beq t a,ok with
      | true,true=>some (.tup [v,.bool true])
      | true,false=>some v
      | false,true=>(match zeroA E a with|some z=>some (.tup [z,.bool false])|none=>none)
      | false,false=>none)
  | .nili=>(match ok with|true=>(match zeroA E a with|some z=>some (.tup [z,.bool false])|none=>none)|false=>none)
  | _=>none
noncomputable def tasA (E:Env) (x:AV) (a:Nat) (ok:Bool):Option AV:=match und E a with|some d=>Bool.rec none (tasB E x a ok) (notIfc d)|none=>none
noncomputable def oTas (x:Operand) (_ a:Nat) (ok:Bool):OpF:=fun E tm S _=>b1 (evX E.ng tm x) fun v=>vS S (tasA E v a ok)
noncomputable def idxF (c:Nat) (l:List Nat):Nat→Option Nat:=List.rec (motive:=fun _=>Nat→Option Nat) (fun _=>none) (fun x _ ih i=>Bool.rec (ih (Nat.succ i)) (some i) (Nat.beq x c)) l
noncomputable def idxI (r:Option Nat):Int:=Option.rec (Int.negSucc 0) (fun i=>Int.ofNat i) r
noncomputable def extA (x:Ext) (args:List AV):Option AV:=
  match x with
  | .sqrt=>(match args with
    | [.flt .f64 b]=>(match FloatKind.f64.format.sqrt b with|some r=>some (.flt .f64 r)|none=>none)
    | _=>none)
  | .noEscape=>(match args with|[x]=>some x|_=>none)
  | .idxByte=>(match args with|[.str s,.int .u8 z]=>some (.int .i64 (idxI (idxF (Nat.mod z.toNat 256) s 0)))|_=>none)
noncomputable def extV (E:Env) (S:Hp) (f:Nat) (args:List AV):Option RO:=
  match T.get (Ps.of f) E.ext with
  | some (some x)=>vS S (extA x args)
  | _=>none
noncomputable def callV (E:Env) (S:Hp) (f:AV) (args:List AV):Option RO:=
  match f with
  | .fn f first cap=>(match T.get (Ps.of f) E.funcs with|some (some _)=>some (.call f (lapp (lapp first args) cap))|_=>extV E S f (lapp (lapp first args) cap))
  | .yl l=>some (.yld l args)
  | _=>none
noncomputable def mm (g:AV→AV→Option AV) (l:List AV) (x:AV):Option AV:=List.rec (motive:=fun _=>AV→Option AV) (fun x=>some x) (fun y _ ih x=>Option.rec none ih (g x y)) l x
noncomputable def builtA (E:Env) (S:Hp) (b:Builtin) (ts:List Nat) (args:List AV):Option RO:=
  match b with
  | .len=>(match ts,args with|t::_,x::_=>vS S (lenA E S t x)|_,_=>none)
  | .append=>(match ts,args with|s::t::_,x::y::_=>vP (appA E S s t x y)|_,_=>none)
  | .max=>(match args with|x::l=>vS S (mm max2A l x)|[]=>none)
  | .min=>(match args with|x::l=>vS S (mm min2A l x)|[]=>none)
  | .unsafeSliceData=>(match args with|[x]=>vS S (sdataA x)|_=>none)
  | .unsafeString=>(match ts,args with|[t,_],[p,n]=>vP (ustrA E S t p n)|_,_=>none)
  | .copy=>(match ts,args with|t::_,x::y::_=>vP (copyA E S t x y)|_,_=>none)
  | .recover=>some .rcv
  | _=>none
noncomputable def oCall (c:Call):OpF:=fun E tm S _ =>
  Option.rec none (fun args=>match c.callee with
    | .value f=>b1 (evX E.ng tm f) fun f=>callV E S f args
    | .builtin b=>builtA E S b c.argTypes.toList args
    | .invoke _ _=>none) (evXs E.ng tm c.args.toList)
noncomputable def oDefer (c:Call):OpF:=fun E tm _ _ =>
  Option.rec none (fun args=>match c.callee with
    | .value f=>b1 (evX E.ng tm f) fun f=>match f with
      | .fn f first cap=>some (.dfr (.call f (List.append first args) cap))
      | _=>none
    | _=>none) (evXs E.ng tm c.args.toList)
noncomputable def oPanic (x:Operand):OpF:=fun E tm _ _=>b1 (evX E.ng tm x) fun v=>match v with|.ifc t v=>some (.pan (.ifc t v))|_=>none
noncomputable def oNo1 {α:Type} (_:α):OpF:=fun _ _ _ _=>none
noncomputable def oNo2 {α β:Type} (_:α) (_:β):OpF:=fun _ _ _ _=>none
noncomputable def oNo3 {α β δ:Type} (_:α) (_:β) (_:δ):OpF:=fun _ _ _ _=>none
noncomputable def oNo4 {α β δ ε:Type} (_:α) (_:β) (_:δ) (_:ε):OpF:=fun _ _ _ _=>none
noncomputable def evOp0 (o:Op):OpF:=
  Op.rec (motive:=fun _=>OpF) oMove oMove oPick oAlloc oBox oBuild oBuildS oMapU oLoad oStore oNo1 oNo1 oNil oBin oUn oConv oNo2 oIfc oFunc oMap oNo2 oMakeS oSlice oFaddr oField oIaddr oIndex oLook oMapU oNo3 oNo4
    oNo2 oNo2 oNo1 oTas oExt oCall oNo1 oDefer oPanic oNo2 oNo3 oNo2 o
def OpR (E:Env) (γ:Gm) (S:Hp) (w:World) (s:Sem Next):RO→Prop
  | .v x S'=>∃ γ' v w',(s.run E.P w=.ok (.value v) w'∨(s.run E.P w=.ok .skip w'∧v=undef))∧VR γ' x v∧HR γ' E.ng S' w'∧Pres S γ w S' γ' w'
  | .call f args=>∃ vs,s.run E.P w=.ok (.enter f ⟨vs⟩) w∧LR γ args vs∧∃ i,T.get (Ps.of f) E.funcs=some (some i)
  | .yld l args=>∃ L vs,γ l=some L∧LR γ args vs∧∀ w,(s.run E.P w=(Instr.yield L.blk ⟨vs⟩).run E.P w)
  | .dfr d=>∃ d',s.run E.P w=.ok (.defer d') w∧DR γ d d'
  | .pan x=>∃ v,s.run E.P w=.halt (.panic v) w∧VR γ x v
  | .rcv=>s.run E.P w=.ok .recover w
theorem amap {α β:Type} (f:α→β) (a:Array α):a.map f=⟨a.toList.map f⟩:=by rw [← Array.toList_map]
section
variable {E:Env} (hE:E.Ok) {γ:Gm} {S:Hp} {w:World}
theorem OpR.val {s:Sem Value} {x:AV} {S':Hp} (h:∃ γ' v w',s.run E.P w=.ok v w'∧VR γ' x v∧HR γ' E.ng S' w'∧Pres S γ w S' γ' w'):OpR E γ S w (do pure (.value (← s))) (.v x S'):=by
  obtain ⟨γ',v,w',h1,h2⟩:=h
  exact ⟨γ',v,w',.inl (by simp only [Sem.run_bind,h1,Result.andThen_ok,Sem.run_pure]),h2⟩
theorem OpR.unit {s:Sem Unit} {S':Hp} (h:∃ γ' w',s.run E.P w=.ok () w'∧HR γ' E.ng S' w'∧Pres S γ w S' γ' w'):OpR E γ S w (do s;pure .skip) (.v (.tup []) S'):=by
  obtain ⟨γ',w',h1,h2⟩:=h
  exact ⟨γ',undef,w',.inr ⟨by simp only [Sem.run_bind,h1,Result.andThen_ok,Sem.run_pure],rfl⟩,.undef,h2⟩
theorem b1_ok {α:Type} {o:Option AV} {f:AV→Option α} {r:α} (h:b1 o f=some r):∃ x,o=some x∧f x=some r:=by
  cases o with
  | none=>cases h
  | some x=>exact ⟨x,rfl,h⟩
theorem vS_ok {S:Hp} {o:Option AV} {r:RO} (h:vS S o=some r):∃ x,o=some x∧r=.v x S:=by
  cases o with
  | none=>cases h
  | some x=>cases h;exact ⟨x,rfl,rfl⟩
theorem vP_ok {o:Option (AV × Hp)} {r:RO} (h:vP o=some r):∃ x S,o=some (x,S)∧r=.v x S:=by
  cases o with
  | none=>cases h
  | some p=>obtain ⟨x,S⟩:=p;cases h;exact ⟨x,S,rfl,rfl⟩
theorem vU_ok {o:Option Hp} {r:RO} (h:vU o=some r):∃ S,o=some S∧r=.v (.tup []) S:=by
  cases o with
  | none=>cases h
  | some S=>cases h;exact ⟨S,rfl,rfl⟩
theorem recb_ok {α β:Type} {o:Option α} {f:α→Option β} {r:β} (h:(Option.rec none f o:Option β)=some r):∃ x,o=some x∧f x=some r:=by
  cases o with
  | none=>cases h
  | some x=>exact ⟨x,rfl,h⟩
theorem Gives.opr {s:Sem Value} {x:AV} (h:Gives E.P γ s x) (hH:HR γ E.ng S w):OpR E γ S w (do pure (.value (← s))) (.v x S):=
  OpR.val (let ⟨v,h1,h2⟩:=h w;⟨γ,v,w,h1,h2,hH,Pres.refl _ _ _⟩)
theorem OpR.here {s:Sem Value} {x:AV} (hH:HR γ E.ng S w) (h:∃ v,s.run E.P w=.ok v w∧VR γ x v):OpR E γ S w (do pure (.value (← s))) (.v x S):=
  OpR.val (let ⟨v,h1,h2⟩:=h;⟨γ,v,w,h1,h2,hH,Pres.refl _ _ _⟩)
theorem Out.opr {s:Sem Value} {x:AV} {S':Hp} (h:Out E.P γ E.ng S s x S') (hH:HR γ E.ng S w):OpR E γ S w (do pure (.value (← s))) (.v x S'):=OpR.val (h w hH)
theorem OutU.opr {s:Sem Unit} {S':Hp} (h:OutU E.P γ E.ng S s S') (hH:HR γ E.ng S w):OpR E γ S w (do s;pure .skip) (.v (.tup []) S'):=OpR.unit (h w hH)
variable {tm:Tm} {fr:Frame} (hT:TR γ tm fr.tmps) (hH:HR γ E.ng S w)
include hT hH
theorem ev_ok {x:Operand} {v:AV} (h:evX E.ng tm x=some v):VR γ v (fr.eval x):=evX_ok hT hH.glob h
theorem evs_ok {l:List Operand} {r:List AV} (h:evXs E.ng tm l=some r):LR γ r (l.map fr.eval):=evXs_ok hT hH.glob h
theorem evPs_ok {l:List (Nat × Operand)} {r:List (Nat × AV)} (h:evPs E.ng tm l=some r):PR γ r (l.map fun (i,x)=>(i,fr.eval x)):=by
  induction l generalizing r with
  | nil=>cases h;exact .nil
  | cons p l ih =>
    have h':(Option.rec none (fun y=>Bool.rec none (Option.rec none (fun t=>some ((p.1,y)::t)) (evPs E.ng tm l)) (notAny y)) (evX E.ng tm p.2):Option (List (Nat × AV)))=some r:=h
    obtain ⟨y,h1,h2⟩:=recb_ok h'
    obtain ⟨hn,h2⟩:=rec_some h2
    obtain ⟨t,h3,h4⟩:=recb_ok h2
    cases h4
    exact .cons _ (ev_ok hT hH h1) hn (ih h3)
theorem evO_ok {x:Option Operand} {v:Option AV} (h:evO E.ng tm x=some v):OVR γ v (x.map fr.eval):=by
  cases x with
  | none=>cases h;trivial
  | some x =>
    obtain ⟨y,h1,h2⟩:=recb_ok (o:=evX E.ng tm x) h
    cases h2
    exact ev_ok hT hH h1
include hE
omit hT hH in
theorem tasA_ok {x r:AV} {a:Nat} {ok:Bool} (h:tasA E x a ok=some r) {x':Value} (hx:VR γ x x') (xT:Nat):Gives E.P γ (Instr.typeAssert x' xT a ok) r:=by
  unfold tasA at h
  cases hu:und E a with
  | none=>rw [hu] at h;cases h
  | some D =>
    rw [hu] at h
    obtain ⟨hn,h2⟩:=rec_some h
    have hni:∀ ms,D≠.interface ms:=by intro ms e;subst e;cases hn
    clear h
    unfold tasB at h2
    have fails:∀ z,zeroA E a=some z→r=.tup [z,.bool false]→(∀ w,(Instr.typeAssert x' xT a true).run E.P w=((Go.zeroValue a).run E.P w).andThen fun v w=>.ok (.tuple #[v,.bool false]) w)→Gives E.P γ (Instr.typeAssert x' xT a true) r:=by
      intro z hz hr hrun
      subst hr
      obtain ⟨v,hv,hvr⟩:=run_zero hE hz γ
      exact .mk (v:=.tuple #[v,.bool false]) (fun w=>by rw [hrun,hv];rfl) (.tup (.cons hvr (.cons (.bool false) .nil)))
    split at h2
    · rename_i t v
      cases hx with
      | ifc _ hv =>
        split at h2
        · rename_i hb
          cases h2
          have:=Nat.eq_of_beq_eq_true hb
          subst this
          refine .mk (fun w=>?_) (.tup (.cons hv (.cons (.bool true) .nil)))
          simp only [Instr.typeAssert,Sem.run_bind,run_und hE hu,Result.andThen_ok]
          cases D <;> first|rfl|(simp;done)|exact (hni _ rfl).elim
        · rename_i hb
          cases h2
          have:=Nat.eq_of_beq_eq_true hb
          subst this
          refine .mk (fun w=>?_) hv
          simp only [Instr.typeAssert,Sem.run_bind,run_und hE hu,Result.andThen_ok]
          cases D <;> first|rfl|(simp;done)|exact (hni _ rfl).elim
        · rename_i hb
          split at h2
          · rename_i z hz
            cases h2
            have hne:t≠a:=fun e=>by rw [e,nat_beq_decide] at hb;simp at hb
            refine fails z hz rfl (fun w=>?_)
            simp only [Instr.typeAssert,Sem.run_bind,run_und hE hu,Result.andThen_ok]
            cases D <;> first|exact (hni _ rfl).elim|(simp [hne];done)
          · cases h2
        · cases h2
    · cases hx
      split at h2
      · split at h2
        · rename_i z hz
          cases h2
          refine fails z hz rfl (fun w=>?_)
          simp only [Instr.typeAssert,Sem.run_bind,run_und hE hu,Result.andThen_ok]
          cases D <;> first|exact (hni _ rfl).elim|(simp;done)
        · cases h2
      · cases h2
    · cases h2
omit hT hH in
theorem ifcA_ok {x r:AV} {t:Nat} (h:ifcA E t x=some r) {x':Value} (hx:VR γ x x'):Gives E.P γ (Instr.makeInterface t x') r:=by
  unfold ifcA at h
  split at h
  · rename_i D hu
    obtain ⟨hn,h2⟩:=rec_some h
    cases h2
    refine .mk (fun w=>?_) (.ifc t hx)
    simp only [Instr.makeInterface,Sem.run_bind,run_und hE hu,Result.andThen_ok]
    cases D <;> first|rfl|cases hn
  · cases h
omit hT hH hE in
theorem mm_ok {g:AV→AV→Option AV} {g':Value→Value→Sem Value} (hg:∀ {a b r:AV} {a' b':Value},g a b=some r→VR γ a a'→VR γ b b'→Gives E.P γ (g' a' b') r) {l:List AV} {l':List Value} (hl:LR γ l l') :
    ∀ {x r:AV} {x':Value},VR γ x x'→mm g l x=some r→Gives E.P γ (l'.foldlM g' x') r:=by
  induction l generalizing l' with
  | nil=>intro x r x' hx h;cases hl;cases h;exact .mk (fun w=>rfl) hx
  | cons y l ih =>
    intro x r x' hx h
    cases hl with
    | @cons _ y' _ l' hy ht =>
      have h':(Option.rec none (mm g l) (g x y):Option AV)=some r:=h
      obtain ⟨z,h1,h2⟩:=recb_ok h'
      intro w
      obtain ⟨v,hv1,hv2⟩:=hg h1 hx hy w
      obtain ⟨u,hu1,hu2⟩:=ih ht hv2 h2 w
      exact ⟨u,by simp only [List.foldlM_cons,Sem.run_bind,hv1,Result.andThen_ok,hu1],hu2⟩
omit hE hT hH in
theorem idxF_ok (b:ByteArray) (c:UInt8):∀ (l:List UInt8) (k:Nat),b.data.toList.drop k=l→(List.range' k l.length).find? (fun i=>b[i]! == c)=idxF c.toNat (l.map UInt8.toNat) k
  | [],k,_=>rfl
  | x :: t,k,h=>by
    have hk:b.data.toList[k]? = some x:=by
      have:(b.data.toList.drop k)[0]? = some x:=by rw [h];rfl
      rwa [List.getElem?_drop,Nat.add_zero] at this
    have hlt:k < b.data.toList.length:=(List.getElem?_eq_some_iff.1 hk).1
    have hsz:k < b.size:=by rw [Array.length_toList] at hlt;exact hlt
    have hx:b[k]! = x:=by
      rw [getElem!_pos b k hsz]
      have e:b[k]=b.data[k]'hsz:=rfl
      rw [e]
      have:=List.getElem?_eq_some_iff.1 hk
      obtain ⟨h1,h2⟩:=this
      rw [← h2]
      exact (Array.getElem_toList ..).symm
    have hd:b.data.toList.drop (k+1)=t:=by
      have:(b.data.toList.drop k).drop 1=t:=by rw [h];rfl
      rwa [List.drop_drop] at this
    have ih:=idxF_ok b c t (k+1) hd
    rw [List.length_cons,List.range'_succ,List.find?_cons,hx]
    show _=(Bool.rec (idxF c.toNat (t.map UInt8.toNat) (k+1)) (some k) (Nat.beq x.toNat c.toNat):Option Nat)
    have e2:(x == c)=Nat.beq x.toNat c.toNat:=by
      rw [nat_beq_decide,Bool.eq_iff_iff,beq_iff_eq,decide_eq_true_iff]
      exact UInt8.toNat_inj.symm
    rw [← e2]
    cases (x == c) with
    | true=>rfl
    | false=>exact ih
omit hE hT hH in
theorem extA_ok {x:Ext} {args:List AV} {r:AV} (h:extA x args=some r) {args':List Value} (ha:LR γ args args'):∃ v,(x.sem ⟨args'⟩).run E.P w=.ok v w∧VR γ r v:=by
  cases x with
  | sqrt =>
    unfold extA at h
    simp only at h
    split at h
    · rename_i b
      split at h
      · rename_i r' hr
        cases h
        cases ha with
        | cons hx hn =>
          cases hx
          cases hn
          refine ⟨.float .f64 r',?_,.flt _ _⟩
          have e:Extern.MathSqrt.sqrt #[.float .f64 b]=(match FloatKind.f64.format.sqrt b with|some r=>pure (.float .f64 r)|none=>do pure (.float .f64 (← choose (.nanBits .f64 b b)))):=rfl
          show (Extern.MathSqrt.sqrt #[.float .f64 b]).run E.P w=_
          rw [e,hr]
          rfl
      · cases h
    · cases h
  | noEscape =>
    unfold extA at h
    simp only at h
    split at h
    · cases h
      cases ha with
      | cons hx hn =>
        cases hn
        exact ⟨_,rfl,hx⟩
    · cases h
  | idxByte =>
    unfold extA at h
    simp only at h
    split at h
    · rename_i s z
      cases h
      cases ha with
      | @cons _ b' _ l' hx hn =>
        cases hn with
        | @cons _ c' _ l2 hy hn =>
          cases hn
          cases hy
          cases hx with
          | str sb =>
            refine ⟨.int .i64 (idxI (idxF (Nat.mod z.toNat 256) (bytesOf sb) 0)),?_,.int _ _⟩
            have hr:(List.range sb.size).find? (fun i=>sb[i]! == z.toNat.toUInt8)=idxF (Nat.mod z.toNat 256) (bytesOf sb) 0:=by
              have:=idxF_ok sb z.toNat.toUInt8 sb.data.toList 0 (by simp)
              rw [Array.length_toList] at this
              rw [List.range_eq_range']
              rw [show (z.toNat.toUInt8).toNat=Nat.mod z.toNat 256 from by simp;rfl] at this
              exact this
            have e:Extern.BytealgIndexByte.indexByte #[.string sb,.int .u8 z]=(match (List.range sb.size).find? (fun i=>sb[i]! == z.toNat.toUInt8) with|some i=>pure (goInt i)|none=>pure (goInt (-1))):=rfl
            show (Extern.BytealgIndexByte.indexByte #[.string sb,.int .u8 z]).run E.P w=_
            rw [e,hr]
            cases idxF (Nat.mod z.toNat 256) (bytesOf sb) 0 <;> rfl
    · cases h
omit hT in
theorem callV_ok {f:AV} {args:List AV} {r:RO} (h:callV E S f args=some r) {f':Value} {args':List Value} (hf:VR γ f f') (ha:LR γ args args') :
    OpR E γ S w (do let d ← Deferred.ofValue f' ⟨args'⟩;invoke d.target d.args) r:=by
  unfold callV at h
  split at h
  · rename_i f first cap
    split at h
    · rename_i i hi
      cases h
      cases hf with
      | @fn _ _ first' cap' _ h1 h2 =>
        obtain ⟨fn,g1,g2,g3,g4,g5⟩:=hE.funcs f i hi
        refine ⟨first'++args'++cap',?_,?_,i,hi⟩
        · simp only [Deferred.ofValue,Sem.run_bind,Sem.run_pure,Result.andThen_ok,invoke,callFunc,Go.program,Sem.run,g1]
          simp [g5,g2]
        · exact (h1.lapp ha).lapp h2
    · unfold extV at h
      split at h
      · rename_i x hx
        obtain ⟨v,h3,rfl⟩:=vS_ok h
        cases hf with
        | @fn _ _ first' cap' _ h1 h2 =>
          obtain ⟨fn,g1,g2,g3,g4,g5⟩:=hE.ext f x hx
          obtain ⟨v',e1,e2⟩:=extA_ok (E:=E) (w:=w) h3 ((h1.lapp ha).lapp h2)
          refine ⟨γ,v',w,.inl ?_,e2,hH,Pres.refl _ _ _⟩
          have e1':(x.sem (first'++(args'++cap')).toArray).run E.P w=.ok v' w:=by rw [List.append_assoc] at e1;exact e1
          simp only [Deferred.ofValue,Sem.run_bind,Sem.run_pure,Result.andThen_ok,invoke,callFunc,Go.program,Sem.run,g1]
          simp [g2,g3,g4,g5,e1',Go.mark,Sem.run]
      · cases h
  · cases h
    cases hf with
    | @yl _ L hL =>
      exact ⟨L,args',hL,ha,fun w=>by simp [Deferred.ofValue,invoke]⟩
  · cases h
omit hT in
theorem builtA_ok {b:Builtin} {ts:Array TypeId} {ty:TypeId} {consts:Array Bool} {args:List AV} {r:RO} (h:builtA E S b ts.toList args=some r) {args':List Value} (ha:LR γ args args') :
    OpR E γ S w (builtin b ts ty consts ⟨args'⟩) r:=by
  have hts:∀ {t:Nat} {l:List Nat},ts.toList=t::l→ts[0]? = some t:=by
    intro t l e;rw [← Array.getElem?_toList,e];rfl
  have hts1:∀ {t u:Nat} {l:List Nat},ts.toList=t::u::l→ts[1]? = some u:=by
    intro t u l e;rw [← Array.getElem?_toList,e];rfl
  unfold builtA at h
  split at h
  · split at h
    · rename_i t tl x xl e1
      obtain ⟨y,h1,rfl⟩:=vS_ok h
      cases ha with
      | cons hx _=>exact OpR.here hH (lenA_ok hE h1 hx hH (hts e1) rfl)
    · cases h
  · split at h
    · rename_i t u tl x y xl e1
      obtain ⟨z,S',h1,rfl⟩:=vP_ok h
      cases ha with
      | cons hx hl=>cases hl with
        | cons hy _=>exact (appA_ok hE h1 hx hy (hts e1) (hts1 e1) ty rfl rfl).opr hH
    · cases h
  · split at h
    · obtain ⟨z,h1,rfl⟩:=vS_ok h
      cases ha with
      | cons hx hl=>exact (mm_ok (fun h ha hb=>max2A_ok h ha hb) hl hx h1).opr hH
    · cases h
  · split at h
    · obtain ⟨z,h1,rfl⟩:=vS_ok h
      cases ha with
      | cons hx hl=>exact (mm_ok (fun h ha hb=>min2A_ok h ha hb) hl hx h1).opr hH
    · cases h
  · split at h
    · obtain ⟨z,h1,rfl⟩:=vS_ok h
      cases ha with
      | cons hx hl =>
        cases hl
        exact (sdataA_ok h1 hx ts ty).opr hH
    · cases h
  · split at h
    · rename_i t it p n e1
      obtain ⟨z,S',h1,rfl⟩:=vP_ok h
      cases ha with
      | cons hx hl=>cases hl with
        | cons hy hn =>
          cases hn
          have e2:ts = #[t,it]:=by rw [← Array.toArray_toList (xs:=ts),e1]
          subst e2
          exact (ustrA_ok hE h1 hx hy ty).opr hH
    · cases h
  · split at h
    · rename_i t tl x y xl e1
      obtain ⟨z,S',h1,rfl⟩:=vP_ok h
      cases ha with
      | cons hx hl=>cases hl with
        | cons hy _=>exact (copyA_ok hE h1 hx hy (hts e1) ty rfl rfl).opr hH
    · cases h
  · cases h;rfl
  · cases h
set_option maxHeartbeats 4000000 in
theorem evOp0_ok {o:Oper} {r:RO} (h:evOp0 o.op E tm S o.type=some r):OpR E γ S w (execOp fr.eval o) r:=by
  obtain ⟨dst,op,type,pos,after,guard⟩:=o
  have ev:=fun {x v} h=>ev_ok (E:=E) hT hH (x:=x) (v:=v) h
  cases op with
  | move x =>
    obtain ⟨v,h1,rfl⟩:=vS_ok (o:=evX E.ng tm x) h
    exact ⟨γ,fr.eval x,w,.inl rfl,ev h1,hH,Pres.refl _ _ _⟩
  | assign x =>
    obtain ⟨v,h1,rfl⟩:=vS_ok (o:=evX E.ng tm x) h
    exact ⟨γ,fr.eval x,w,.inl rfl,ev h1,hH,Pres.refl _ _ _⟩
  | pick c a b =>
    obtain ⟨cv,h1,h2⟩:=b1_ok (o:=evX E.ng tm c) h
    have hc:=ev h1
    split at h2
    · obtain ⟨v,h3,rfl⟩:=vS_ok h2
      generalize hcv:fr.eval c=cv' at hc
      cases hc
      exact ⟨γ,fr.eval a,w,.inl (by simp [execOp,hcv,asBool]),ev h3,hH,Pres.refl _ _ _⟩
    · obtain ⟨v,h3,rfl⟩:=vS_ok h2
      generalize hcv:fr.eval c=cv' at hc
      cases hc
      exact ⟨γ,fr.eval b,w,.inl (by simp [execOp,hcv,asBool]),ev h3,hH,Pres.refl _ _ _⟩
    · cases h2
  | alloc t =>
    obtain ⟨v,S',h1,rfl⟩:=vP_ok (o:=allocA E S t) h
    exact (allocA_ok hE h1).opr hH
  | box t x =>
    obtain ⟨v,h1,h2⟩:=b1_ok (o:=evX E.ng tm x) h
    obtain ⟨hn,h2⟩:=rec_some h2
    cases h2
    exact (box_ok (ev h1) hn).opr hH
  | build t ps =>
    obtain ⟨l,h1,h2⟩:=recb_ok (o:=evPs E.ng tm ps.toList) h
    obtain ⟨v,h3,rfl⟩:=vS_ok h2
    have:=(buildA_ok hE h3 (evPs_ok hT hH h1)).opr hH
    show OpR E γ S w (do pure (.value (← Instr.build t (ps.map fun (i,x)=>(i,fr.eval x))))) _
    rw [amap];exact this
  | buildSlice t len ps =>
    obtain ⟨l,h1,h2⟩:=recb_ok (o:=evPs E.ng tm ps.toList) h
    obtain ⟨v,S',h3,rfl⟩:=vP_ok h2
    have:=(buildSA_ok hE h3 (evPs_ok hT hH h1)).opr hH
    show OpR E γ S w (do pure (.value (← Instr.buildSlice t len (ps.map fun (i,x)=>(i,fr.eval x))))) _
    rw [amap];exact this
  | insert t m k x =>
    obtain ⟨m',h1,h2⟩:=b1_ok (o:=evX E.ng tm m) h
    obtain ⟨k',h3,h4⟩:=b1_ok h2
    obtain ⟨x',h5,h6⟩:=b1_ok h4
    obtain ⟨S',h7,rfl⟩:=vU_ok h6
    exact (mapUpdateA_ok hE h7 (ev h1) (ev h3) (ev h5)).opr hH
  | load t a =>
    obtain ⟨a',h1,h2⟩:=b1_ok (o:=evX E.ng tm a) h
    obtain ⟨v,h3,rfl⟩:=vS_ok h2
    exact OpR.here hH (loadA_ok hE hH h3 (ev h1))
  | store t a x =>
    obtain ⟨a',h1,h2⟩:=b1_ok (o:=evX E.ng tm a) h
    obtain ⟨x',h3,h4⟩:=b1_ok h2
    obtain ⟨S',h5,rfl⟩:=vU_ok h4
    exact (storeA_ok hE h5 (ev h1) (ev h3)).opr hH
  | ready g=>cases h
  | waits g=>cases h
  | nilCheck x =>
    obtain ⟨v,h1,h2⟩:=b1_ok (o:=evX E.ng tm x) h
    obtain ⟨h3,h4⟩:=rec_some h2
    cases h4
    have hv:=ev h1
    refine ⟨γ,fr.eval x,w,.inl ?_,hv,hH,Pres.refl _ _ _⟩
    show (match fr.eval x with
      | .pointer none|.nilIface|.nilFunc=>runtimePanic .nilDeref
      | .func (.method name) first captured =>
        match (first[0]? : Option Value) with
        | some .nilIface=>runtimePanic .nilDeref
        | some (.iface t w)=>do
          if (← nilAhead ((← program).types.size+Made.depth) t w name) != some false then
            unsupported (.noEntry "op/nilCheck.the method's receiver behind this interface value is a nil pointer, or cannot be seen to be none, and the arguments act or may panic (ledger 612)")
          pure (.value (.func (.method name) first captured))
        | _=>pure (.value (.func (.method name) first captured))
      | x=>pure (.value x):Sem Next).run E.P w=_
    generalize fr.eval x=u at hv ⊢
    cases hv <;> first|rfl|cases h3
  | binOp op t x y yt =>
    obtain ⟨a,h1,h2⟩:=b1_ok (o:=evX E.ng tm x) h
    obtain ⟨b,h3,h4⟩:=b1_ok h2
    obtain ⟨v,h5,rfl⟩:=vS_ok h4
    exact (bin_ok hE h5 (ev h1) (ev h3)).opr hH
  | unOp op t x =>
    obtain ⟨a,h1,h2⟩:=b1_ok (o:=evX E.ng tm x) h
    obtain ⟨v,h5,rfl⟩:=vS_ok h2
    exact (un_ok h5 (ev h1)).opr hH
  | convert s d x =>
    obtain ⟨a,h1,h2⟩:=b1_ok (o:=evX E.ng tm x) h
    obtain ⟨v,h5,rfl⟩:=vS_ok h2
    exact OpR.here hH (conv3_ok hE hH h5 (ev h1))
  | sliceToArrayPointer a x=>cases h
  | makeInterface t x =>
    obtain ⟨a,h1,h2⟩:=b1_ok (o:=evX E.ng tm x) h
    obtain ⟨v,h5,rfl⟩:=vS_ok h2
    exact (ifcA_ok hE h5 (ev h1)).opr hH
  | makeFunc fn first cap =>
    cases fn with
    | func f =>
      obtain ⟨a,h1,h2⟩:=recb_ok (o:=evXs E.ng tm first.toList) h
      obtain ⟨c,h3,h4⟩:=recb_ok h2
      cases h4
      refine ⟨γ,.func (.func f) (first.map fr.eval) (cap.map fr.eval),w,.inl (by simp [execOp,Instr.makeFunc]),?_,hH,Pres.refl _ _ _⟩
      have e1:first.map fr.eval=⟨first.toList.map fr.eval⟩:=amap _ _
      have e2:cap.map fr.eval=⟨cap.toList.map fr.eval⟩:=amap _ _
      rw [e1,e2]
      exact .fn f (evs_ok hT hH h1) (evs_ok hT hH h3)
    | _=>cases h
  | makeMap t r =>
    cases r with
    | none=>cases h;exact makeMap_ok.opr hH
    | some x=>cases h
  | makeChan t s=>cases h
  | makeSlice t l c =>
    obtain ⟨a,h1,h2⟩:=b1_ok (o:=evX E.ng tm l) h
    obtain ⟨b,h3,h4⟩:=b1_ok h2
    obtain ⟨v,S',h5,rfl⟩:=vP_ok h4
    exact (makeSA_ok hE h5 (ev h1) (ev h3)).opr hH
  | slice t x lo hi mx =>
    obtain ⟨a,h1,h2⟩:=b1_ok (o:=evX E.ng tm x) h
    split at h2
    · rename_i lo' hi' mx' g1 g2 g3
      obtain ⟨v,h5,rfl⟩:=vS_ok h2
      exact OpR.here hH (sliceA_ok hE hH h5 (ev h1) (evO_ok hT hH g1) (evO_ok hT hH g2) (evO_ok hT hH g3))
    · cases h2
  | fieldAddr t x f =>
    obtain ⟨a,h1,h2⟩:=b1_ok (o:=evX E.ng tm x) h
    obtain ⟨v,h5,rfl⟩:=vS_ok h2
    exact (faddrA_ok hE h5 (ev h1)).opr hH
  | field t x f =>
    obtain ⟨a,h1,h2⟩:=b1_ok (o:=evX E.ng tm x) h
    obtain ⟨v,h5,rfl⟩:=vS_ok h2
    exact (fieldA_ok hE h5 (ev h1)).opr hH
  | indexAddr t x i =>
    obtain ⟨a,h1,h2⟩:=b1_ok (o:=evX E.ng tm x) h
    obtain ⟨b,h3,h4⟩:=b1_ok h2
    obtain ⟨v,h5,rfl⟩:=vS_ok h4
    exact (iaddrA_ok hE h5 (ev h1) (ev h3)).opr hH
  | index t x i =>
    obtain ⟨a,h1,h2⟩:=b1_ok (o:=evX E.ng tm x) h
    obtain ⟨b,h3,h4⟩:=b1_ok h2
    obtain ⟨v,h5,rfl⟩:=vS_ok h4
    exact (indexA_ok hE h5 (ev h1) (ev h3)).opr hH
  | lookup t x k ok =>
    obtain ⟨a,h1,h2⟩:=b1_ok (o:=evX E.ng tm x) h
    obtain ⟨b,h3,h4⟩:=b1_ok h2
    obtain ⟨v,h5,rfl⟩:=vS_ok h4
    exact OpR.here hH (lookupA_ok hE hH h5 (ev h1) (ev h3))
  | mapUpdate t m k x =>
    obtain ⟨m',h1,h2⟩:=b1_ok (o:=evX E.ng tm m) h
    obtain ⟨k',h3,h4⟩:=b1_ok h2
    obtain ⟨x',h5,h6⟩:=b1_ok h4
    obtain ⟨S',h7,rfl⟩:=vU_ok h6
    exact (mapUpdateA_ok hE h7 (ev h1) (ev h3) (ev h5)).opr hH
  | mapEntry t m k=>cases h
  | entryStore t m s x=>cases h
  | range t x=>cases h
  | next i s=>cases h
  | entry i=>cases h
  | typeAssert x xt a ok =>
    obtain ⟨v,h1,h2⟩:=b1_ok (o:=evX E.ng tm x) h
    obtain ⟨u,h5,rfl⟩:=vS_ok h2
    exact (tasA_ok hE h5 (ev h1) xt).opr hH
  | extract x i =>
    obtain ⟨a,h1,h2⟩:=b1_ok (o:=evX E.ng tm x) h
    have ha:=ev h1
    split at h2
    · rename_i l
      obtain ⟨v,h5,rfl⟩:=vS_ok h2
      rw [nth_eq] at h5
      refine OpR.here hH ?_
      generalize fr.eval x=u at ha ⊢
      cases ha with
      | tup hl =>
        obtain ⟨y,h6,h7⟩:=hl.nth i h5
        exact ⟨y,by simp [Instr.extract,h6],h7⟩
    · cases h2
  | call c =>
    obtain ⟨args,h1,h2⟩:=recb_ok (o:=evXs E.ng tm c.args.toList) h
    have ha:=evs_ok hT hH h1
    have e1:c.args.map fr.eval=⟨c.args.toList.map fr.eval⟩:=amap _ _
    obtain ⟨callee,cargs,ats⟩:=c
    cases callee with
    | value f =>
      obtain ⟨fv,h3,h4⟩:=b1_ok h2
      have:=callV_ok hE hH h4 (ev h3) ha
      show OpR E γ S w (do let d ← resolve fr.eval _ type;invoke d.target d.args) r
      simp only [resolve]
      rw [e1]
      exact this
    | invoke a n=>cases h2
    | builtin b =>
      show OpR E γ S w (do let d ← resolve fr.eval _ type;invoke d.target d.args) r
      simp only [resolve]
      rw [e1]
      simp only [pure_bind,invoke]
      exact builtA_ok hE hH h2 ha
  | go c=>cases h
  | defer c =>
    obtain ⟨args,h1,h2⟩:=recb_ok (o:=evXs E.ng tm c.args.toList) h
    have ha:=evs_ok hT hH h1
    have e1:c.args.map fr.eval=⟨c.args.toList.map fr.eval⟩:=amap _ _
    obtain ⟨callee,cargs,ats⟩:=c
    cases callee with
    | value f =>
      obtain ⟨fv,h3,h4⟩:=b1_ok h2
      have hf:=ev h3
      split at h4
      · rename_i f2 first cap
        cases h4
        generalize hfe:fr.eval f=fe at hf
        cases hf with
        | @fn _ _ first' cap' _ g1 g2 =>
          refine ⟨{ target:=.fn (.func f2) ⟨cap'⟩,args:=⟨first'++cargs.toList.map fr.eval⟩ },?_,.call f2 (g1.append ha) g2⟩
          show (do let d ← resolve fr.eval _ type;pure (Next.defer d):Sem Next).run E.P w=_
          simp only [resolve]
          rw [e1,hfe]
          simp [Deferred.ofValue]
      · cases h4
    | invoke a n=>cases h2
    | builtin b=>cases h2
  | panic x =>
    obtain ⟨v,h1,h2⟩:=b1_ok (o:=evX E.ng tm x) h
    have hv:=ev h1
    split at h2
    · cases h2
      generalize hfe:fr.eval x=fe at hv
      have hv':=hv
      cases hv with
      | ifc t hv2 =>
        refine ⟨_,?_,hv'⟩
        show (do pure (Next.value (← Instr.panic (fr.eval x))):Sem Next).run E.P w=_
        rw [hfe]
        simp [Instr.panic,goPanic,Sem.run]
    · cases h2
  | send c x=>cases h
  | recv t c ok=>cases h
  | select cs b=>cases h
end
noncomputable def convB (E:Env) (S:Hp) (s d:Nat) (x:AV):Option (AV × Hp):=
  match x with
  | .str b=>(match und E s,und E d with
    | some _,some (.slice e)=>(match und E e with
      | some (.int .u8)=>some (.su S.nx 0 b.length 1,S.alloc (.cells (u8s b) e false true 0 0))
      | _=>none)
    | _,_=>none)
  | _=>none
noncomputable def evB (o:Op):OpF:=fun E tm S _ =>
  match o with
  | .convert s d x=>b1 (evX E.ng tm x) fun v=>vP (convB E S s d v)
  | _=>none
section
variable {E:Env} (hE:E.Ok) {γ:Gm} {tm:Tm} {S:Hp} {fr:Frame} {w:World} (hT:TR γ tm fr.tmps) (hH:HR γ E.ng S w)
include hE hH in
theorem convB_ok {s d:Nat} {x r:AV} {S':Hp} (h:convB E S s d x=some (r,S')) {x':Value} (hx:VR γ x x'):∃ γ' v w',(convert s d x').run E.P w=.ok v w'∧VR γ' r v∧HR γ' E.ng S' w'∧Pres S γ w S' γ' w':=by
  unfold convB at h
  split at h
  · rename_i b
    split at h
    · rename_i u e h1 h2
      split at h
      · rename_i h3
        cases h
        cases hx with
        | str sb =>
          have hcap:=grownCap_ge w sb.size 0 e
          have hrun:=Lib.run_convert_string_bytes w s d e sb (und_ok hE h1) (und_ok hE h2) (und_ok hE h3)
          have hsz:(Lib.bytesCells w e sb).size=grownCap w sb.size 0 e:=by
            unfold Lib.bytesCells
            simp only [Array.size_append,Array.size_map,Array.size_replicate]
            show sb.size+_=_
            omega
          have hw:(Lib.bytesWorld w e sb).heap=w.heap.push (.cells (Lib.bytesCells w e sb) e ((Lib.bytesCells w e sb).size,(Lib.bytesCells w e sb).size+1)):=by
            apply Array.ext_getElem?
            intro i
            rcases Nat.lt_trichotomy i w.heap.size with hlt|heq|hgt
            · rw [Lib.bytesWorld_at_old w e sb i hlt,Array.getElem?_push_lt hlt,Array.getElem?_eq_getElem hlt]
            · subst heq
              rw [Lib.bytesWorld_at_new];simp
            · rw [Array.getElem?_eq_none (by rw [Lib.bytesWorld_size];omega),Array.getElem?_eq_none (by simp;omega)]
          obtain ⟨h4,h5⟩:=hH.alloc (w':=Lib.bytesWorld w e sb) (ob:=.cells (Lib.bytesCells w e sb) e ((Lib.bytesCells w e sb).size,(Lib.bytesCells w e sb).size+1)) (siz:=grownCap w sb.size 0 e)
            (o:=.cells (u8s (bytesOf sb)) e false true 0 0) hw rfl rfl
            ⟨[],sb.data.toList.map fun b=>Value.int .u8 b.toNat,List.replicate (grownCap w sb.size 0 e - sb.size) (.int .u8 0),_,by
              congr 1
              apply Array.ext'
              simp [Lib.bytesCells],rfl,LenR.of_eq (by
              simp only [List.nil_append,List.length_append,List.length_map,Array.length_toList,List.length_replicate]
              show sb.size+_=_
              omega),u8s_LR _,⟨fun p _ h6 _=>.inl (by show grownCap w sb.size 0 e≤p;rw [← hsz];exact h6),fun e=>(by cases e)⟩,Nat.zero_le _,fun e=>(by cases e)⟩
          refine ⟨_,_,_,hrun,?_,h4,h5⟩
          rw [bytesOf_length]
          exact .su (L:=⟨w.heap.size,0,grownCap w sb.size 0 e⟩) 0 sb.size (grownCap w sb.size 0 e) 1 (Gm.with_same _ _ _) hcap (by decide) (by simp)
      · cases h
    · cases h
  · cases h
include hE hT hH in
theorem evB_ok {o:Oper} {r:RO} (h:evB o.op E tm S o.type=some r):OpR E γ S w (execOp fr.eval o) r:=by
  obtain ⟨dst,op,type,pos,after,guard⟩:=o
  cases op with
  | convert s d x =>
    obtain ⟨v,h1,h2⟩:=b1_ok (o:=evX E.ng tm x) h
    obtain ⟨r',S',h3,rfl⟩:=vP_ok (o:=convB E S s d v) h2
    obtain ⟨γ',v',w',g1,g2,g3,g4⟩:=convB_ok hE hH h3 (ev_ok (E:=E) hT hH h1)
    exact ⟨γ',v',w',.inl (by show (do pure (.value (← convert s d (fr.eval x))):Sem Next).run E.P w=_;rw [Sem.run_bind,g1];rfl),g2,g3,g4⟩
  | _=>cases h
theorem evB_noDefer {o:Oper} {E:Env} {tm:Tm} {S:Hp} {r:RO} (h:evB o.op E tm S o.type=some r):∀ c,o.op≠.defer c:=by
  intro c e
  rw [e] at h
  cases h
end
theorem flat_congr {f g:Nat→List AV}:∀ {n:Nat},(∀ i,i < n→f i=g i)→flat f n=flat g n
  | 0,_=>rfl
  | n+1,h=>by show flat f n++f n=flat g n++g n;rw [flat_congr (fun i hi=>h i (by omega)),h n (by omega)]
section
variable {z:Nat} {f:Nat→List AV}
theorem flat_length:∀ {n:Nat},(∀ i,i < n→(f i).length=z)→(flat f n).length=n * z
  | 0,_=>by show ([]:List AV).length=0 * z;simp
  | n+1,h=>by
    show (flat f n++f n).length=(n+1) * z
    rw [List.length_append,flat_length (fun i hi=>h i (by omega)),h n (by omega),Nat.succ_mul]
theorem flat_at:∀ {n:Nat},(∀ i,i < n→(f i).length=z)→∀ {i:Nat},i < n→flat f n=flat f i++(f i++(flat f n).drop ((i+1) * z))
  | 0,_,i,hi=>by omega
  | n + 1,h,i,hi=>by
    have hl:(flat f n).length=n * z:=flat_length (fun i hi=>h i (by omega))
    by_cases e:i=n
    · subst e
      have hd:(flat f (i+1)).drop ((i+1) * z) = []:=List.drop_eq_nil_of_le (by rw [flat_length h];exact Nat.le_refl _)
      rw [hd,List.append_nil];rfl
    · have ih:=flat_at (n:=n) (fun i hi=>h i (by omega)) (i:=i) (by omega)
      have hle:(i+1) * z≤n * z:=Nat.mul_le_mul_right z (by omega)
      have e1:flat f (n+1)=flat f n++f n:=rfl
      rw [e1,List.drop_append_of_le_length (by rw [hl];exact hle)]
      conv=>lhs;rw [ih]
      simp
theorem flat_drop {n:Nat} (h:∀ i,i < n→(f i).length=z) {i k:Nat} (hi:i < n) (hk:k≤z):∃ r,(flat f n).drop (i * z+k)=(f i).drop k++r:=by
  refine ⟨(flat f n).drop ((i+1) * z),?_⟩
  conv=>lhs;rw [flat_at h hi]
  have hl:(flat f i).length=i * z:=flat_length (fun j hj=>h j (by omega))
  rw [← hl,← List.drop_drop,List.drop_left,List.drop_append_of_le_length (by rw [h i hi];exact hk)]
theorem ltake_app {α:Type}:∀ (m:Nat) (l r l':List α),ltake m l=some l'→ltake m (l++r)=some l':=by
  intro m l r l' h
  obtain ⟨e,hle⟩:=ltake_eq h
  have h1 : ltake m (l++r)=some ((l++r).take m):=by
    have key:∀ (m:Nat) (l:List α),m≤l.length→ltake m l=some (l.take m):=by
      intro m
      induction m with
      | zero=>intro l _;cases l <;> rfl
      | succ m ih =>
        intro l hl
        cases l with
        | nil=>simp at hl
        | cons x l =>
          show (Option.rec none (fun r=>some (x::r)) (ltake m l):Option (List α))=_
          rw [ih l (by simpa using hl)];rfl
    exact key m _ (by rw [List.length_append];omega)
  rw [h1,e,List.take_append_of_le_length hle]
theorem loadC_flat {E:Env} {n:Nat} (h:∀ i,i < n→(f i).length=z) {t i k:Nat} {v:AV} (hi:i < n) (hl:loadC E t (f i) k=some v):loadC E t (flat f n) (Nat.add (Nat.mul i z) k)=some v:=by
  show loadC E t (flat f n) (i * z+k)=some v
  rw [loadC_eq] at hl ⊢
  unfold loadC0 at hl ⊢
  split at hl
  · rename_i m h1 h2
    split at hl
    · rename_i l h3
      cases hl
      obtain ⟨e,hle⟩:=ltake_eq h3
      rw [ldrop_eq] at h3 hle
      by_cases hk:k≤z
      · obtain ⟨r,hr⟩:=flat_drop h hi hk
        rw [ldrop_eq,hr,ltake_app _ _ r _ h3]
      · have:m=0:=by rw [List.length_drop,h i hi] at hle;omega
        subst this
        have e0:∀ x:List AV,ltake 0 x=some []:=fun x=>by cases x <;> rfl
        rw [e0] at h3 ⊢
        cases h3;rfl
    · cases hl
  · rw [nth_eq] at hl ⊢
    have hk:k < z:=by
      have:=(List.getElem?_eq_some_iff.1 hl).1
      rw [h i hi] at this;exact this
    obtain ⟨r,hr⟩:=flat_drop h hi (Nat.le_of_lt hk)
    have e1:(flat f n)[i * z+k]? = ((flat f n).drop (i * z+k))[0]?:=by rw [List.getElem?_drop,Nat.add_zero]
    have e2:(f i)[k]? = ((f i).drop k)[0]?:=by rw [List.getElem?_drop,Nat.add_zero]
    rw [e1,hr,List.getElem?_append_left (by rw [List.length_drop,h i hi];omega),← e2];exact hl
  · cases hl
theorem lputs_app {α:Type} (vs:List α):∀ (o:Nat) (a b:List α),lputs vs (a.length+o) (a++b)=a++lputs vs o b
  | o,[],b=>by simp
  | o,x::a,b=>by
    rw [List.length_cons,show a.length+1+o=(a.length+o)+1 from by omega,List.cons_append,lputs_skip,lputs_app vs o a b];rfl
theorem lputs_left {α:Type} (vs:List α):∀ (o:Nat) (a b:List α),o+vs.length≤a.length→lputs vs o (a++b)=lputs vs o a++b:=by
  induction vs with
  | nil=>intro o a b _;rfl
  | cons v vs ih =>
    intro o a b h
    show lputs vs (o+1) (lset v (a++b) o)=lputs vs (o+1) (lset v a o)++b
    rw [lset_eq,lset_eq,List.set_append_left _ _ (by rw [List.length_cons] at h;omega)]
    exact ih (o+1) (a.set o v) b (by rw [List.length_set];rw [List.length_cons] at h;omega)
theorem lputs_flat {n:Nat} (h:∀ i,i < n→(f i).length=z) {i k:Nat} {vs:List AV} (hi:i < n) (hk:k+vs.length≤z) :
    lputs vs (Nat.add (Nat.mul i z) k) (flat f n)=flat (fun j=>if j=i then lputs vs k (f i) else f j) n:=by
  show lputs vs (i * z+k) (flat f n)=_
  have hl:(flat f i).length=i * z:=flat_length (fun j hj=>h j (by omega))
  have hg:∀ j,j < n→((fun j=>if j=i then lputs vs k (f i) else f j) j).length=z:=fun j hj=>by
    show (if j=i then lputs vs k (f i) else f j).length=z
    by_cases e:j=i
    · rw [if_pos e,lputs_length];exact h i hi
    · rw [if_neg e];exact h j hj
  rw [flat_at hg hi]
  conv=>lhs;rw [flat_at h hi]
  rw [← hl,lputs_app,lputs_left _ _ _ _ (by rw [h i hi];exact hk)]
  have e1:flat (fun j=>if j=i then lputs vs k (f i) else f j) i=flat f i:=flat_congr (fun j hj=>if_neg (by omega))
  have e2 : (flat (fun j=>if j=i then lputs vs k (f i) else f j) n).drop ((i+1) * z)=(flat f n).drop ((i+1) * z):=by
    have key:∀ m,m≤n→(flat (fun j=>if j=i then lputs vs k (f i) else f j) m).drop ((i+1) * z)=(flat f m).drop ((i+1) * z):=by
      intro m
      induction m with
      | zero=>intro _;rfl
      | succ m ih =>
        intro hm
        show (flat _ m++(if m=i then lputs vs k (f i) else f m)).drop _=(flat f m++f m).drop _
        have l1:(flat (fun j=>if j=i then lputs vs k (f i) else f j) m).length=m * z:=flat_length (fun j hj=>hg j (by omega))
        have l2:(flat f m).length=m * z:=flat_length (fun j hj=>h j (by omega))
        by_cases e:m≤i
        · have hz:m * z+z≤(i+1) * z:=by rw [← Nat.succ_mul];exact Nat.mul_le_mul_right z (by omega)
          have hm':=hg m (by omega)
          have hm'':(if m=i then lputs vs k (f i) else f m).length=z:=hm'
          rw [List.drop_eq_nil_of_le (by rw [List.length_append,l1,hm''];exact hz),List.drop_eq_nil_of_le (by rw [List.length_append,l2,h m (by omega)];exact hz)]
        · have hz:(i+1) * z≤m * z:=Nat.mul_le_mul_right z (by omega)
          rw [if_neg (by omega),List.drop_append_of_le_length (by rw [l1];exact hz),List.drop_append_of_le_length (by rw [l2];exact hz),ih (by omega)]
    exact key n (Nat.le_refl _)
  rw [e1,e2]
  show flat f i++(lputs vs k (f i)++_)=flat f i++((if i=i then lputs vs k (f i) else f i)++_)
  rw [if_pos rfl]
theorem flat_snoc (n:Nat) (l:List AV):flat f n++l=flat (fun j=>if j=n then l else f j) (n+1):=by
  show _=flat (fun j=>if j=n then l else f j) n++(if n=n then l else f n)
  rw [if_pos rfl,flat_congr (f:=fun j=>if j=n then l else f j) (g:=f) (fun j hj=>if_neg (by omega))]
theorem flat_take {n m:Nat} (h:∀ i,i < n→(f i).length=z) (hm:m≤n):(flat f n).take (m * z)=flat f m:=by
  induction n with
  | zero =>
    have:m=0:=by omega
    subst this;simp [flat]
  | succ n ih =>
    have hl:(flat f n).length=n * z:=flat_length (fun j hj=>h j (by omega))
    by_cases e:m=n+1
    · subst e
      rw [List.take_of_length_le (by rw [flat_length h];exact Nat.le_refl _)]
    · show (flat f n++f n).take (m * z)=_
      have:m * z≤n * z:=Nat.mul_le_mul_right z (by omega)
      rw [List.take_append_of_le_length (by rw [hl];exact this)]
      exact ih (fun j hj=>h j (by omega)) (by omega)
end
section
variable {z n:Nat} {f:Nat→List AV}
theorem storeC_at {S:Hp} {b:Ps} {i k q m el lo hi:Nat} {vs:List AV} {ex sty:Bool} (hb:T.get b S.hp=some (.cells (flat f n) el ex sty lo hi)) (hfl:Nat.ble S.fl b.idx=true) (h:∀ i,i < n→(f i).length=z) (hi':i < n) (hq:q=i * z+k)
    (hk:k+vs.length≤z) (ht:lo=hi) (hsc:scals vs=true) (hm:vs.length=m):storeC S b q m vs=some (S.put b (.cells (flat (fun j=>if j=i then lputs vs k (f i) else f j) n) el ex sty lo hi)):=by
  subst hq hm ht
  unfold storeC
  rw [llen_eq,show Nat.beq vs.length vs.length=true from Nat.beq_refl _]
  show putC S b (i * z+k) vs=_
  rw [putC_eq]
  unfold putC0
  rw [hb]
  simp only
  have hle:i * z+k+vs.length≤(flat f n).length:=by
    rw [flat_length h]
    have:(i+1) * z≤n * z:=Nat.mul_le_mul_right z (by omega)
    rw [Nat.succ_mul] at this
    omega
  have hth:thaw lo lo (i * z+k) vs.length=true:=by unfold thaw;rw [show Nat.beq lo lo=true from Nat.beq_refl _];rfl
  rw [hfl,show Nat.ble (Nat.add (i * z+k) vs.length) (flat f n).length=true from Nat.ble_eq_true_of_le hle,hth,hsc]
  simp only
  rw [show lputs vs (i * z+k) (flat f n)=_ from lputs_flat h hi' hk]
theorem ltake_all' {α:Type}:∀ (m:Nat) (l:List α),m≤l.length→ltake m l=some (l.take m):=by
  intro m
  induction m with
  | zero=>intro l _;cases l <;> rfl
  | succ m ih =>
    intro l hl
    cases l with
    | nil=>simp at hl
    | cons x l =>
      show (Option.rec none (fun r=>some (x::r)) (ltake m l):Option (List α))=_
      rw [ih l (by simpa using hl)];rfl
theorem firstA_at {S:Hp} {b:Ps} {len m z' el lo hi:Nat} {ex sty:Bool} (hb:T.get b S.hp=some (.cells (flat f n) el ex sty lo hi)) (h:∀ i,i < n→(f i).length=z) (hm:m≤n):firstA S z m (.su b 0 len z')=some (flat f m):=by
  unfold firstA
  simp only
  rw [hb]
  show ltake (m * z) (ldrop 0 (flat f n))=_
  rw [show ldrop 0 (flat f n)=flat f n from rfl,ltake_all' _ _ (by rw [flat_length h];exact Nat.mul_le_mul_right z hm),flat_take h hm]
theorem appA_at {E:Env} {S:Hp} {b:Ps} {sT xT e z':Nat} {xd:TypeDesc} {i:TypeInfo} {zero x:AV} {new:List AV} {ex sty:Bool} (h1:und E sT=some (.slice e)) (h2:und E xT=some xd) (h3:notInt xd=true) (h4:info E e=some i) (h5:zeroA E e=some zero)
    (h6:vlen x=some 1) (h7:firstA S i.size 1 x=some new) (h8:bigOk (Nat.add n 1) i.bytes=true) (h9:Bool.and (Nat.blt 0 i.size) (isStr x i.size)=true) (h10:Nat.beq (cellsA zero).length i.size=true) (hz:i.size=z) (hz':z'=z) (h0:0 < z)
    (hb:T.get b S.hp=some (.cells (flat f n) e ex sty 0 0)) (h:∀ i,i < n→(f i).length=z) (hfl:Nat.ble S.fl b.idx=true) (hsc:scals new=true) :
    appA E S sT xT (.su b 0 n z') x=some (.su S.nx 0 (Nat.add n 1) z,S.move b (.cells (flat (fun j=>if j=n then new else f j) (n+1)) e false sty 0 0)):=by
  subst hz' hz
  unfold appA
  rw [h1,h2]
  simp only
  rw [h3]
  show appB E S e (.su b 0 n i.size) x=_
  unfold appB
  rw [h4,h5,h6,show vlen (.su b 0 n i.size)=some n from rfl]
  simp only
  unfold appC
  rw [h7,h8,h9,h10]
  simp only
  unfold appD
  simp only
  rw [show Nat.beq i.size i.size=true from Nat.beq_refl _]
  simp only
  have hl:(flat f n).length=n * i.size:=flat_length h
  have hsure:sure S b 0 i.size n=n:=by
    unfold AM.sure
    rw [hb]
    show Nat.max n (((flat f n).length - 0) / i.size)=n
    rw [hl,Nat.sub_zero,Nat.mul_div_cancel _ h0]
    exact Nat.max_self n
  rw [hsure,show Nat.ble (Nat.add n 1) n=false from by rw [nat_ble_decide];exact decide_eq_false (by show ¬ n+1≤n;omega)]
  simp only
  rw [firstA_at hb h (Nat.le_refl n)]
  simp only
  rw [maybeA_eq]
  unfold maybeA0
  rw [hb]
  simp only
  rw [hfl,show Nat.ble 0 (flat f n).length=true from Nat.ble_eq_true_of_le (Nat.zero_le _),show Nat.beq e e=true from Nat.beq_refl _,show thaw 0 0 (Nat.add 0 (flat f n).length) new.length=true from rfl,show Bool.or (Nat.beq 0 0) (Nat.beq 0 0)=true from rfl,hsc,
    show Nat.ble (flat f n).length (Nat.add 0 (Nat.add (flat f n).length new.length))=true from Nat.ble_eq_true_of_le (by show (flat f n).length≤0+((flat f n).length+new.length);omega)]
  show some (AV.su S.nx 0 (n+1) i.size,S.move b (.cells (List.append (flat f n) new) e false sty (0 - 0) (0 - 0)))=_
  rw [show List.append (flat f n) new=_ from flat_snoc n new]
end
theorem upd_same (f:Nat→List AV) (i:Nat) (l:List AV):upd f i l i=l:=if_pos rfl
theorem upd_ne {f:Nat→List AV} {i j:Nat} {l:List AV} (h:j≠i):upd f i l j=f j:=if_neg h
theorem upd_upd (f:Nat→List AV) (i:Nat) (l l':List AV):upd (upd f i l) i l'=upd f i l':=by
  funext j
  unfold upd
  by_cases h:j=i
  · rw [if_pos h,if_pos h]
  · rw [if_neg h,if_neg h,if_neg h]
theorem upd_length {f:Nat→List AV} {n z i:Nat} {l:List AV} (h:∀ j,j < n→(f j).length=z) (hl:l.length=z):∀ j,j < n→(upd f i l j).length=z:=fun j hj=>by
  unfold upd
  by_cases e:j=i
  · rw [if_pos e];exact hl
  · rw [if_neg e];exact h j hj
section
variable {z n:Nat} {f:Nat→List AV}
theorem storeC_upd {S:Hp} {b:Ps} {i k q m el lo hi:Nat} {vs l:List AV} {ex sty:Bool} (hb:T.get b S.hp=some (.cells (flat f n) el ex sty lo hi)) (hfl:Nat.ble S.fl b.idx=true) (h:∀ i,i < n→(f i).length=z) (hi':i < n) (hq:q=i * z+k)
    (hk:k+vs.length≤z) (ht:lo=hi) (hsc:scals vs=true) (hm:vs.length=m) (hl:lputs vs k (f i)=l):storeC S b q m vs=some (S.put b (.cells (flat (upd f i l) n) el ex sty lo hi)):=by
  subst hl
  exact storeC_at hb hfl h hi' hq hk ht hsc hm
theorem appA_upd {E:Env} {S:Hp} {b:Ps} {sT xT e:Nat} {xd:TypeDesc} {i:TypeInfo} {zero x:AV} {new:List AV} {ex sty:Bool} (h1:und E sT=some (.slice e)) (h2:und E xT=some xd) (h3:notInt xd=true) (h4:info E e=some i) (h5:zeroA E e=some zero)
    (h6:vlen x=some 1) (h7:firstA S i.size 1 x=some new) (h8:bigOk (Nat.add n 1) i.bytes=true) (h9:Bool.and (Nat.blt 0 i.size) (isStr x i.size)=true) (h10:Nat.beq (cellsA zero).length i.size=true) (hz:i.size=z) (h0:0 < z)
    (hb:T.get b S.hp=some (.cells (flat f n) e ex sty 0 0)) (h:∀ i,i < n→(f i).length=z) (hfl:Nat.ble S.fl b.idx=true) (hsc:scals new=true) :
    appA E S sT xT (.su b 0 n z) x=some (.su S.nx 0 (Nat.add n 1) z,S.move b (.cells (flat (upd f n new) (n+1)) e false sty 0 0)):=
  appA_at h1 h2 h3 h4 h5 h6 h7 h8 h9 h10 hz rfl h0 hb h hfl hsc
end
theorem ble_t {a b:Nat} (h:a≤b):Nat.ble a b=true:=Nat.ble_eq_true_of_le h
theorem ble_iff (a b:Nat):Nat.ble a b=true↔a≤b:=⟨Nat.le_of_ble_eq_true,ble_t⟩
theorem beq_iff (a b:Nat):Nat.beq a b=true↔a=b:=⟨Nat.eq_of_beq_eq_true,fun h=>by subst h;exact Nat.beq_refl a⟩
noncomputable def band (a b:Bool):Bool:=Bool.rec false b a
theorem band_eq {a b:Bool}:band a b=true↔a=true∧b=true:=by cases a <;> cases b <;> simp [band]
noncomputable def tst {α:Type} (opt b:Bool) (x:Option α):Option α:=Bool.rec (Bool.rec none x b) x opt
theorem tst_f {α:Type} {b:Bool} {x:Option α} {r:α} (h:tst false b x=some r):b=true∧x=some r:=rec_some h
theorem tst_t {α:Type} {b:Bool} {x:Option α} (h:b=true):tst false b x=tst true b x:=by subst h;rfl
theorem Gives.to {P:Program} {γ:Gm} {s:Sem Value} {x y:AV} (h:Gives P γ s x) (hv:∀ v,VR γ x v→VR γ y v):Gives P γ s y:=fun w=>let ⟨v,h1,h2⟩:=h w;⟨v,h1,hv v h2⟩
theorem HR.same {γ:Gm} {ng:Nat} {S S':Hp} {w:World} (h:HR γ ng S w) (hs:∀ a o',S'.hp.get a=some o'→∃ o,S.hp.get a=some o∧∀ L ob,OR γ L o ob→OR γ L o' ob) (hn:S'.nx=S.nx) (hf:S'.fl=S.fl:=by rfl):HR γ ng S' w where
  obj:=fun a o ho=>by
    obtain ⟨o1,h1,h2⟩:=hs a o ho
    obtain ⟨L,ob,g1,g2,g3⟩:=h.obj a o1 h1
    exact ⟨L,ob,g1,g2,h2 L ob g3⟩
  inj:=fun a a' o o' L L' ho ho'=>by
    obtain ⟨o1,h1,_⟩:=hs a o ho
    obtain ⟨o2,h2,_⟩:=hs a' o' ho'
    rw [hf];exact h.inj a a' o1 o2 L L' h1 h2
  fresh:=fun a L e=>by rw [hn];exact h.fresh a L e
  glob:=h.glob
theorem put_get {S:Hp} {a b:Ps} {o x:AO} (h:(S.put a o).hp.get b=some x):(b=a∧x=o)∨(b≠a∧S.hp.get b=some x):=by
  by_cases e:b=a
  · left;subst e;rw [show (S.put b o).hp.get b=some o from T.get_set_same _ _ _] at h;cases h;exact ⟨rfl,rfl⟩
  · right;rw [show (S.put a o).hp.get b=S.hp.get b from T.get_set_ne (fun e'=>e e'.symm) _ _] at h;exact ⟨e,h⟩
theorem get_put {S:Hp} {a:Ps} {o:AO}:(S.put a o).hp.get a=some o:=T.get_set_same _ _ _
theorem get_put_ne {S:Hp} {a b:Ps} {o:AO} (h:b≠a):(S.put a o).hp.get b=S.hp.get b:=T.get_set_ne (fun e'=>h e'.symm) _ _
theorem HR.dress {γ:Gm} {ng:Nat} {S:Hp} {w:World} (h:HR γ ng S w) {b:Ps} {o o':AO} (hb:S.hp.get b=some o) (ho:∀ L ob,OR γ L o ob→OR γ L o' ob):HR γ ng (S.put b o') w:=
  h.same (fun a x hx=>by
    rcases put_get hx with ⟨rfl,rfl⟩|⟨_,h2⟩
    · exact ⟨o,hb,ho⟩
    · exact ⟨x,h2,fun _ _ h=>h⟩) rfl
theorem Pres.dress {S S' T T':Hp} {γ γ':Gm} {w w':World} (h:Pres T γ w T' γ' w') (k:∀ a o,T.hp.get a=some o→∃ o',S.hp.get a=some o') (k':∀ a o,S'.hp.get a=some o→∃ o',T'.hp.get a=some o') (hf:S.fl=T.fl) (hf':S'.fl=T'.fl) (hn:S.nx=T.nx) (hn':S'.nx=T'.nx)
    (old:∀ a o,S.hp.get a=some o→a.idx < S.fl→S'.hp.get a=some o) (back:∀ a o,S'.hp.get a=some o→a.idx < S.fl→a.idx < S.nx.idx→S.hp.get a=some o):Pres S γ w S' γ' w' where
  ext:=h.ext
  size:=h.size
  keep:=fun r hr hno=>h.keep r hr (fun a o L ha hfl hL=>by
    obtain ⟨o',ho'⟩:=k a o ha
    exact hno a o' L ho' (by rw [hf];exact hfl) hL)
  desc:=fun a o L ha hfl hL=>by
    obtain ⟨o',ho'⟩:=k' a o ha
    rcases h.desc a o' L ho' (by rw [← hf'];exact hfl) hL with h1|⟨a₀,o₀,L₀,g1,g2,g3,g4⟩
    · exact .inl h1
    · obtain ⟨o₁,ho₁⟩:=k a₀ o₀ g1
      exact .inr ⟨a₀,o₁,L₀,ho₁,by rw [hf];exact g2,g3,g4⟩
  old:=old
  fl:=by rw [hf',hf];exact h.fl
  nx:=by rw [hn,hn'];exact h.nx
  new:=fun a L hL hlt=>h.new a L hL (by rw [← hn];exact hlt)
  os:=h.os
  out:=h.out
  back:=back
section
variable {E:Env} (hE:E.Ok) {γ:Gm}
noncomputable def addz (e m:Nat):Nat:=Bool.rec (Nat.add e m) m (Nat.beq e 0)
theorem addz_eq (e m:Nat):addz e m=e+m:=by
  unfold addz
  cases h:Nat.beq e 0 with
  | false=>rfl
  | true=>have:=Nat.eq_of_beq_eq_true h;subst this;show m=0+m;omega
noncomputable def inG (m:Int) (len:Nat):Bool:=band (ile 0 m) (Nat.blt (Int.toNat m) len)
theorem inG_ok {m:Int} {len:Nat} (h:inG m len=true):m=Int.ofNat m.toNat∧m.toNat < len:=by
  obtain ⟨h1,h2⟩:=band_eq.1 h
  rw [ile_eq] at h1
  have h1:=of_decide_eq_true h1
  rw [nat_blt_decide] at h2
  exact ⟨by show m=(m.toNat:Int);omega,of_decide_eq_true h2⟩
noncomputable def iaddrR (opt:Bool) (E:Env) (t:Nat) (x i:AV):Option AV:=
  match x with
  | .pte b j z k=>(match und E t with
    | some (.array n e)=>(match inB i n,sizeA E e with|some m,some q=>some (.pte b j z (Nat.add k (Nat.mul m q)))|_,_=>none)
    | _=>none)
  | .sa b e0 len z=>(match und E t,i with
    | some (.slice e),.int _ m=>(match sizeA E e with|some q=>Bool.rec none (tst opt (inG m len) (some (.pte b (addz e0 (Int.toNat m)) z 0))) (Nat.beq q z)|none=>none)
    | _,_=>none)
  | .sl b o len _=>(match und E t,i with
    | some (.slice e),.int _ m=>Bool.rec none (match sizeA E e with|some q=>Bool.rec none (tst opt (inG m len) (some (.pte b (addz o (Int.toNat m)) 1 0))) (Nat.beq q 1)|none=>none) (E.am e)
    | _,_=>none)
  | _=>none
noncomputable def iaddrG (E:Env) (t:Nat) (x i:AV):Bool:=match x with
  | .sa _ _ len _=>(match i with|.int _ m=>inG m len|_=>true)
  | .sl _ _ len _=>(match und E t,i with|some (.slice e),.int _ m=>Bool.rec true (inG m len) (E.am e)|_,_=>true)
  | _=>true
theorem iaddr_g {t:Nat} {x i:AV} (h:iaddrG E t x i=true):iaddrR false E t x i=iaddrR true E t x i:=by
  unfold iaddrR
  cases x <;> try rfl
  · unfold iaddrG at h
    simp only at h ⊢
    cases hu:und E t with
    | none=>rfl
    | some d =>
      rw [hu] at h
      cases d <;> try rfl
      cases i <;> try rfl
      rename_i e _ _
      simp only at h ⊢
      cases ha:E.am e with
      | false=>rfl
      | true =>
        rw [ha] at h
        simp only [tst_t (show inG _ _=true from h)]
  · simp only
    cases und E t with
    | none=>rfl
    | some d =>
      cases d <;> try rfl
      cases i <;> try rfl
      simp only [tst_t (show inG _ _=true from h)]
include hE in
theorem iaddrR_ok {t:Nat} {x i r:AV} (h:iaddrR false E t x i=some r) {x' i':Value} (hx:VR γ x x') (hi:VR γ i i'):Gives E.P γ (Instr.indexAt t x' i') r:=by
  unfold iaddrR at h
  split at h
  · rename_i b j z k
    split at h
    · rename_i n e hu
      split at h
      · rename_i m q hm hs
        cases h
        refine (iaddrA_ok hE (t:=t) (x:=.ptr b (j * z+k)) (i:=i) (r:=.ptr b (Nat.add (j * z+k) (Nat.mul m q))) ?_ hx.pte_ptr hi).to (fun v hv=>?_)
        · unfold iaddrA;rw [hu];simp only [hm,hs]
        · refine VR.ptr_pte ?_
          show VR γ (.ptr b (j * z+(k+m * q))) v
          rw [← Nat.add_assoc];exact hv
      · cases h
    · cases h
  · rename_i b e0 len z
    split at h
    · rename_i e kk m hu
      split at h
      · rename_i q hs
        obtain ⟨hq,h⟩:=rec_some h
        obtain ⟨hin,h⟩:=tst_f h
        cases h
        have hq':=Nat.eq_of_beq_eq_true hq
        subst hq'
        obtain ⟨h1,h2⟩:=inG_ok hin
        refine (iaddrA_ok hE (t:=t) (x:=.su b (e0 * q) len q) (i:=.int kk m) (r:=.ptr b (Nat.add (e0 * q) (Nat.mul m.toNat q))) ?_ hx.sa_su hi).to (fun v hv=>?_)
        · unfold iaddrA
          rw [hu]
          simp only [hs]
          have:inB (.int kk m) len=some m.toNat:=by
            rw [h1]
            show (Bool.rec none (some m.toNat) (Nat.blt m.toNat len):Option Nat)=some m.toNat
            rw [nat_blt_decide,decide_eq_true h2]
          rw [this]
        · refine VR.ptr_pte ?_
          rw [addz_eq]
          have:(e0+m.toNat) * q+0=Nat.add (e0 * q) (Nat.mul m.toNat q):=by rw [Nat.add_zero,Nat.add_mul];rfl
          rw [this];exact hv
      · cases h
    · cases h
  · rename_i b o len cap
    split at h
    · rename_i e kk m hu
      obtain ⟨_,h⟩:=rec_some h
      split at h
      · rename_i q hs
        obtain ⟨hq,h⟩:=rec_some h
        obtain ⟨hin,h⟩:=tst_f h
        cases h
        have hq':=Nat.eq_of_beq_eq_true hq
        subst hq'
        obtain ⟨h1,h2⟩:=inG_ok hin
        refine (iaddrA_ok hE (t:=t) (x:=.sl b o len cap) (i:=.int kk m) (r:=.ptr b (Nat.add o (Nat.mul m.toNat 1))) ?_ hx hi).to (fun v hv=>?_)
        · unfold iaddrA
          rw [hu]
          simp only [hs]
          have:inB (.int kk m) len=some m.toNat:=by
            rw [h1]
            show (Bool.rec none (some m.toNat) (Nat.blt m.toNat len):Option Nat)=some m.toNat
            rw [nat_blt_decide,decide_eq_true h2]
          rw [this]
        · refine VR.ptr_pte ?_
          rw [addz_eq]
          have:(o+m.toNat) * 1+0=Nat.add o (Nat.mul m.toNat 1):=by rw [Nat.add_zero,Nat.mul_one];show o+m.toNat=o+m.toNat * 1;rw [Nat.mul_one]
          rw [this];exact hv
      · cases h
    · cases h
  · cases h
noncomputable def faddrR (E:Env) (t:Nat) (x:AV) (f:Nat):Option AV:=match x with|.pte b i z k=>(match foffA E t f with|some n=>some (.pte b i z (Nat.add k n))|none=>none)|_=>none
include hE in
theorem faddrR_ok {t f:Nat} {x r:AV} (h:faddrR E t x f=some r) {x':Value} (hx:VR γ x x'):Gives E.P γ (Instr.fieldAt t x' f) r:=by
  unfold faddrR at h
  split at h
  · rename_i b i z k
    split at h
    · rename_i n hn
      cases h
      refine (faddrA_ok hE (t:=t) (x:=.ptr b (i * z+k)) (f:=f) (r:=.ptr b (Nat.add (i * z+k) n)) ?_ hx.pte_ptr).to (fun v hv=>?_)
      · show (Option.rec none (fun n=>some (AV.ptr b (Nat.add (i * z+k) n))) (foffA E t f):Option AV)=_
        rw [hn]
      · refine VR.ptr_pte ?_
        show VR γ (.ptr b (i * z+(k+n))) v
        rw [← Nat.add_assoc];exact hv
    · cases h
  · cases h
theorem arr_dress {b:Ps} {n z el:Nat} {f:Nat→List AV} {ov:Option (Nat × List AV)} {ex sty:Bool} {S:Hp} {ng:Nat} {w:World} (h:HR γ ng S w) (hb:T.get b S.hp=some (.arr n z f ov el ex sty)) :
    HR γ ng (S.put b (.cells (flat (arrF f ov) n) el ex sty 0 0)) w∧0 < z∧∀ i,i < n→(arrF f ov i).length=z:=by
  obtain ⟨L,ob,_,_,h3⟩:=h.obj b _ hb
  exact ⟨h.dress hb (fun L ob h=>h.cells_of),h3.2.1,h3.2.2⟩
noncomputable def rdR (opt:Bool) (E:Env) (t k i:Nat) (f:Nat→List AV) (ov:Option (Nat × List AV)):Option AV:=match ov with|none=>loadC E t (f i) k|some (j,l)=>tst opt (Nat.beq i j) (loadC E t l k)
noncomputable def toZ (x:AV):Option Int:=match x with|.int .i64 n=>some n|_=>none
noncomputable def selI (i:Nat) (c:List AV):Nat→Option Int:=List.rec (motive:=fun _=>Nat→Option Int) (fun _=>some 0) (fun x _ ih p=>match toZ x,ih (Nat.succ p) with|some a,some r=>some (iite (Nat.beq i p) a r)|_,_=>none) c
theorem selI_ok {i:Nat}:∀ {c:List AV} {p:Nat} {r:Int},selI i c p=some r→p≤i→i - p < c.length→nth c (i - p)=some (.int .i64 r)
  | [],_,_,_,_,h=>by simp at h
  | x :: c,p,r,h,hp,hl=>by
    have h:(match toZ x,selI i c (Nat.succ p) with|some a,some r=>some (iite (Nat.beq i p) a r)|_,_=>none)=some r:=h
    split at h
    · rename_i a r' h1 h2
      cases h
      have hx:x=.int .i64 a:=by
        unfold toZ at h1
        split at h1
        · cases h1;rfl
        · cases h1
      cases e:Nat.beq i p with
      | true =>
        have e':=Nat.eq_of_beq_eq_true e
        subst e'
        rw [Nat.sub_self]
        show some x=some (AV.int .i64 a)
        rw [hx]
      | false =>
        have hne:i≠p:=fun e'=>by subst e';rw [show Nat.beq i i=true from Nat.beq_refl i] at e;cases e
        have e2:i - p=(i - (p+1))+1:=by omega
        rw [e2]
        show nth c (i - (p+1))=some (AV.int .i64 r')
        exact selI_ok h2 (by omega) (by simp at hl;omega)
    · cases h
noncomputable def loadR (opt:Bool) (E:Env) (S:Hp) (t:Nat) (x:AV):Option AV:=
  match x with
  | .pte b i z k=>(match T.get b S.hp with|some (.arr n z' f ov _ _ _)=>Bool.rec none (tst opt (Nat.blt i n) (rdR opt E t k i f ov)) (Nat.beq z z')|some (.cells c _ _ _ _ _)=>Bool.rec none (match selI i c 0,isAggA E t with|some r,some false=>tst opt (Nat.blt i (llen c)) (some (.int .i64 r))|_,_=>none) (band (Nat.beq z 1) (Nat.beq k 0))|_=>none)
  | _=>none
noncomputable def ovG (i:Nat) (ov:Option (Nat × List AV)):Bool:=match ov with|none=>true|some (j,_)=>Nat.beq i j
noncomputable def loadG (S:Hp) (x:AV):Bool:=match x with|.pte b i _ _=>(match T.get b S.hp with|some (.arr n _ _ ov _ _ _)=>band (Nat.blt i n) (ovG i ov)|some (.cells c _ _ _ _ _)=>Nat.blt i (llen c)|_=>true)|_=>true
theorem rd_g {t k i:Nat} {f:Nat→List AV} {ov:Option (Nat × List AV)} (h:ovG i ov=true):rdR false E t k i f ov=rdR true E t k i f ov:=by
  cases ov with
  | none=>rfl
  | some p=>exact tst_t h
theorem load_g {S:Hp} {t:Nat} {x:AV} (h:loadG S x=true):loadR false E S t x=loadR true E S t x:=by
  unfold loadR
  cases x <;> try rfl
  rename_i b i z k
  unfold loadG at h
  simp only at h ⊢
  cases hb:T.get b S.hp with
  | none=>rfl
  | some o =>
    rw [hb] at h
    cases o <;> try rfl
    · simp only at h ⊢
      split
      · rw [tst_t h]
      · rfl
    · obtain ⟨h1,h2⟩:=band_eq.1 h
      simp only [tst_t h1,rd_g h2]
theorem rdR_ok {t k i:Nat} {f:Nat→List AV} {ov:Option (Nat × List AV)} {r:AV} (h:rdR false E t k i f ov=some r):loadC E t (arrF f ov i) k=some r:=by
  cases ov with
  | none=>exact h
  | some p =>
    obtain ⟨j,l⟩:=p
    obtain ⟨h1,h2⟩:=tst_f h
    have:=Nat.eq_of_beq_eq_true h1
    subst this
    show loadC E t (upd f i l i) k=some r
    rw [upd_same];exact h2
include hE in
theorem loadR_ok {S:Hp} {ng:Nat} {w:World} (hH:HR γ ng S w) {t:Nat} {x r:AV} (h:loadR false E S t x=some r) {x':Value} (hx:VR γ x x'):∃ v,(Instr.loadAt t x').run E.P w=.ok v w∧VR γ r v:=by
  unfold loadR at h
  split at h
  · rename_i b i z k
    split at h
    · rename_i n z' f ov el ex sty hb
      obtain ⟨hz,hA⟩:=rec_some h
      obtain ⟨hin,hB⟩:=tst_f hA
      have hz':=Nat.eq_of_beq_eq_true hz
      subst hz'
      rw [nat_blt_decide] at hin
      obtain ⟨h1,h2,h3⟩:=arr_dress hH hb
      refine loadA_ok hE h1 (t:=t) (x:=.ptr b (i * z+k)) ?_ hx.pte_ptr
      rw [loadA_eq]
      unfold loadA0
      simp only
      rw [show T.get b (S.put b _).hp=some _ from get_put]
      exact loadC_flat h3 (of_decide_eq_true hin) (rdR_ok hB)
    · rename_i c el ex sty lo hi hb
      obtain ⟨hzk,hA⟩:=rec_some h
      split at hA
      · rename_i r' hs ha
        obtain ⟨hin,hB⟩:=tst_f hA
        cases hB
        obtain ⟨hz,hk⟩:=band_eq.1 hzk
        have hz':=Nat.eq_of_beq_eq_true hz
        have hk':=Nat.eq_of_beq_eq_true hk
        subst hz' hk'
        rw [nat_blt_decide] at hin
        have hin:=of_decide_eq_true hin
        rw [llen_eq] at hin
        refine loadA_ok hE hH (t:=t) (x:=.ptr b (i * 1+0)) ?_ hx.pte_ptr
        rw [loadA_eq]
        unfold loadA0
        simp only
        rw [hb]
        simp only
        rw [loadC_eq]
        unfold loadC0
        rw [ha]
        simp only
        rw [Nat.mul_one,Nat.add_zero]
        have:=selI_ok hs (Nat.zero_le _) (by omega)
        rw [Nat.sub_zero] at this
        exact this
      · cases hA
    · cases h
  · cases h
noncomputable def ovL (i:Nat) (f:Nat→List AV) (ov:Option (Nat × List AV)):List AV:=match ov with|none=>f i|some (_,l)=>l
noncomputable def storeR (opt:Bool) (E:Env) (S:Hp) (t:Nat) (a v:AV):Option Hp:=
  match a with
  | .pte b i z k=>(match sizeA E t,T.get b S.hp with
    | some m,some (.arr n z' f ov el ex sty)=>Bool.rec none (Bool.rec none (Bool.rec none (Bool.rec none (Bool.rec none
        (tst opt (Nat.blt i n) (tst opt (ovG i ov) (some (S.put b (.arr n z f (some (i,lputs (cellsA v) k (ovL i f ov))) el ex sty)))))
        (scals (cellsA v))) (Nat.ble (Nat.add k m) z)) (Nat.ble S.fl b.idx)) (Nat.beq (llen (cellsA v)) m)) (Nat.beq z z')
    | _,_=>none)
  | _=>none
theorem store_g {S:Hp} {t:Nat} {a v:AV} (h:loadG S a=true):storeR false E S t a v=storeR true E S t a v:=by
  unfold storeR
  cases a <;> try rfl
  rename_i b i z k
  unfold loadG at h
  simp only at h ⊢
  cases sizeA E t with
  | none=>rfl
  | some m =>
    cases hb:T.get b S.hp with
    | none=>rfl
    | some o =>
      rw [hb] at h
      cases o <;> try rfl
      obtain ⟨h1,h2⟩:=band_eq.1 h
      simp only [tst_t h1,tst_t h2]
theorem ovL_eq {i:Nat} {f:Nat→List AV} {ov:Option (Nat × List AV)} (h:ovG i ov=true):ovL i f ov=arrF f ov i∧∀ l,upd (arrF f ov) i l=upd f i l:=by
  cases ov with
  | none=>exact ⟨rfl,fun _=>rfl⟩
  | some p =>
    obtain ⟨j,l⟩:=p
    have:=Nat.eq_of_beq_eq_true h
    subst this
    exact ⟨(upd_same f i l).symm,fun l'=>upd_upd f i l l'⟩
include hE in
theorem storeR_ok {S S':Hp} {t:Nat} {a v:AV} (h:storeR false E S t a v=some S') {a' v':Value} (ha:VR γ a a') (hv:VR γ v v') {ng:Nat}:OutU E.P γ ng S (Instr.storeAt t a' v') S':=by
  unfold storeR at h
  split at h
  · rename_i b i z k
    split at h
    · rename_i m n z' f ov el ex sty hs hb
      obtain ⟨hz,h⟩:=rec_some h
      obtain ⟨hm,h⟩:=rec_some h
      obtain ⟨hfl,h⟩:=rec_some h
      obtain ⟨hk,h⟩:=rec_some h
      obtain ⟨hsc,h⟩:=rec_some h
      obtain ⟨hin,h⟩:=tst_f h
      obtain ⟨hov,h⟩:=tst_f h
      cases h
      have hz':=Nat.eq_of_beq_eq_true hz
      subst hz'
      have hm':=Nat.eq_of_beq_eq_true hm
      rw [llen_eq] at hm'
      rw [nat_blt_decide] at hin
      have hin':=of_decide_eq_true hin
      have hk':k+m≤z:=Nat.le_of_ble_eq_true hk
      obtain ⟨o1,o2⟩:=ovL_eq (f:=f) hov
      intro w hH
      obtain ⟨h1,h2,h3⟩:=arr_dress hH hb
      obtain ⟨γ',w',hrun,g1,g2⟩:=storeA_ok hE (t:=t) (a:=.ptr b (i * z+k)) (v:=v) (S:=S.put b (.cells (flat (arrF f ov) n) el ex sty 0 0)) (S':=(S.put b (.cells (flat (arrF f ov) n) el ex sty 0 0)).put b (.cells (flat (upd (arrF f ov) i (lputs (cellsA v) k (ovL i f ov))) n) el ex sty 0 0)) (by
        unfold storeA
        show (Option.rec none (fun q=>storeC _ b (i * z+k) q (cellsA v)) (sizeA E t):Option Hp)=_
        rw [hs]
        exact storeC_upd get_put hfl h3 hin' rfl (by rw [hm'];exact hk') rfl hsc hm' (by rw [o1])) ha.pte_ptr hv (ng:=ng) w h1
      have hlen:(lputs (cellsA v) k (ovL i f ov)).length=z:=by rw [lputs_length,o1];exact h3 i hin'
      refine ⟨γ',w',hrun,g1.same (fun a x hx=>?_) rfl,g2.dress (fun a o ho=>?_) (fun a o ho=>?_) rfl rfl rfl rfl (fun a o ho hlt=>?_) (fun a o ho hlt _=>?_)⟩
      · rcases put_get hx with ⟨rfl,rfl⟩|⟨hne,hx2⟩
        · refine ⟨_,get_put,fun L ob ho=>?_⟩
          rw [o2] at ho
          refine OR.arr_of ho h2 (fun j hj=>?_)
          show (upd f i (lputs (cellsA v) k (ovL i f ov)) j).length=z
          rw [← o2]
          exact upd_length h3 hlen j hj
        · exact ⟨x,by rw [get_put_ne hne,get_put_ne hne];exact hx2,fun _ _ h=>h⟩
      · rcases put_get ho with ⟨rfl,rfl⟩|⟨_,h5⟩
        · exact ⟨_,hb⟩
        · exact ⟨_,h5⟩
      · rcases put_get ho with ⟨rfl,rfl⟩|⟨hne,h5⟩
        · exact ⟨_,get_put⟩
        · exact ⟨_,by rw [get_put_ne hne,get_put_ne hne];exact h5⟩
      · have:=Nat.le_of_ble_eq_true hfl
        rw [get_put_ne (fun e=>by subst e;omega)];exact ho
      · have:=Nat.le_of_ble_eq_true hfl
        rcases put_get ho with ⟨rfl,rfl⟩|⟨_,h5⟩
        · omega
        · exact h5
    · cases h
  · cases h
end
section
variable {E:Env} (hE:E.Ok) {γ:Gm}
noncomputable def bLo (lo:Option AV):Option Int:=match lo with|none=>some 0|some (.int _ m)=>some m|some _=>none
noncomputable def bHi (hi:Option AV) (len:Nat):Option Int:=match hi with|none=>some (Int.ofNat len)|some (.int _ m)=>some m|some _=>none
noncomputable def slG (l h:Int) (len:Nat):Bool:=band (ile 0 l) (band (ile l h) (band (ile h (Int.ofNat len)) (Bool.or (Nat.beq (Int.toNat l) 0) (Nat.blt (Int.toNat l) len))))
noncomputable def subz (h l:Nat):Nat:=Bool.rec (Nat.sub h l) h (Nat.beq l 0)
theorem subz_eq (h l:Nat):subz h l=h - l:=by
  unfold subz
  cases e:Nat.beq l 0 with
  | false=>rfl
  | true=>have:=Nat.eq_of_beq_eq_true e;subst this;rfl
noncomputable def sliceR (opt:Bool) (E:Env) (S:Hp) (t:Nat) (x:AV) (lo hi mx:Option AV):Option AV:=
  match x with
  | .sa b e len z=>(match und E t,mx,bLo lo,bHi hi len,T.get b S.hp with
    | some (.slice el),none,some l,some h,some (.arr _ _ _ _ _ _ _)=>(match sizeA E el with
      | some q=>Bool.rec none (tst opt (slG l h len) (some (.sa b (addz e (Int.toNat l)) (subz (Int.toNat h) (Int.toNat l)) z))) (Nat.beq q z)
      | none=>none)
    | _,_,_,_,_=>none)
  | _=>none
noncomputable def sliceG (x:AV) (lo hi:Option AV):Bool:=match x with|.sa _ _ len _=>(match bLo lo,bHi hi len with|some l,some h=>slG l h len|_,_=>true)|_=>true
theorem slice_g {S:Hp} {t:Nat} {x:AV} {lo hi mx:Option AV} (h:sliceG x lo hi=true):sliceR false E S t x lo hi mx=sliceR true E S t x lo hi mx:=by
  unfold sliceR
  cases x <;> try rfl
  unfold sliceG at h
  simp only at h ⊢
  split
  · rename_i h0 h1 h2 h3
    rw [h1,h2] at h
    simp only [tst_t h]
  · rfl
theorem bLo_bnd {lo:Option AV} {l:Int} (h:bLo lo=some l) (h0:l=Int.ofNat l.toNat) {n:Nat} (hn:l.toNat≤n):bnd lo 0 n=some l.toNat:=by
  cases lo with
  | none=>cases h;rfl
  | some v =>
    cases v <;> try (cases h;done)
    rename_i k m
    have:m=l:=by injection h
    subst this
    rw [h0]
    show (Bool.rec none (some m.toNat) (Nat.ble m.toNat n):Option Nat)=some m.toNat
    rw [nat_ble_decide,decide_eq_true hn]
theorem bHi_bnd {hi:Option AV} {h:Int} {len:Nat} (e:bHi hi len=some h) (h0:h=Int.ofNat h.toNat) (hn:h.toNat≤len):bnd hi len len=some h.toNat:=by
  cases hi with
  | none=>cases e;rfl
  | some v =>
    cases v <;> try (cases e;done)
    rename_i k m
    have:m=h:=by injection e
    subst this
    rw [h0]
    show (Bool.rec none (some m.toNat) (Nat.ble m.toNat len):Option Nat)=some m.toNat
    rw [nat_ble_decide,decide_eq_true hn]
include hE in
theorem sliceR_ok {S:Hp} {ng:Nat} {w:World} (hH:HR γ ng S w) {t:Nat} {x r:AV} {lo hi mx:Option AV} (h:sliceR false E S t x lo hi mx=some r) {x':Value} {lo' hi' mx':Option Value} (hx:VR γ x x') (hlo:OVR γ lo lo')
    (hhi:OVR γ hi hi') (hmx:OVR γ mx mx'):∃ v,(Instr.sliceAt t x' lo' hi' mx').run E.P w=.ok v w∧VR γ r v:=by
  unfold sliceR at h
  split at h
  · rename_i b e len z
    split at h
    · rename_i el l hh n z2 f ov el2 ex sty hu hbl hbh hb
      split at h
      · rename_i q hs
        obtain ⟨hq,hA⟩:=rec_some h
        obtain ⟨hg,hB⟩:=tst_f hA
        cases hB
        have hq':=Nat.eq_of_beq_eq_true hq
        subst hq'
        unfold slG at hg
        obtain ⟨g1,hg⟩:=band_eq.1 hg
        obtain ⟨g2,hg⟩:=band_eq.1 hg
        obtain ⟨g3,g4⟩:=band_eq.1 hg
        rw [ile_eq] at g1 g2 g3
        have g1:=of_decide_eq_true g1
        have g2:=of_decide_eq_true g2
        have g3:=of_decide_eq_true g3
        simp only [Int.ofNat_eq_natCast] at g3
        have e1:l=Int.ofNat l.toNat:=by show l=(l.toNat:Int);omega
        have e2:hh=Int.ofNat hh.toNat:=by show hh=(hh.toNat:Int);omega
        have k1:l.toNat≤hh.toNat:=by omega
        have k2:hh.toNat≤len:=by omega
        have hbn:bnds len len lo hi none=some (l.toNat,hh.toNat,len):=by
          unfold bnds
          rw [show bnd none len len=some len from rfl]
          simp only
          rw [bHi_bnd hbh e2 k2]
          simp only
          rw [bLo_bnd hbl e1 k1]
          simp only
          rw [nat_ble_decide,decide_eq_true k2]
        have hsure:sure S b (e * q) q len=len:=by unfold AM.sure;rw [hb]
        obtain ⟨v,hv,hr⟩:=sliceA_ok hE hH (t:=t) (x:=.su b (e * q) len q) (lo:=lo) (hi:=hi) (mx:=none) (r:=.su b (Nat.add (e * q) (Nat.mul l.toNat q)) (Nat.sub hh.toNat l.toNat) q) (by
          unfold sliceA
          rw [hu]
          simp only [hs]
          rw [hsure,hbn]
          simp only
          rw [g4,show Nat.beq q q=true from Nat.beq_refl q]) hx.sa_su hlo hhi hmx
        refine ⟨v,hv,VR.su_sa ?_⟩
        rw [addz_eq,subz_eq,Nat.add_mul];exact hr
      · cases h
    · cases h
  · cases h
noncomputable def mkG (m m':Int) (by_:Nat):Bool:=band (ile 0 m) (band (ieq m m') (band (Nat.ble (Int.toNat m) 1099511627776) (Nat.ble (Nat.mul by_ (Int.toNat m)) 1099511627776)))
noncomputable def makeR (opt:Bool) (E:Env) (S:Hp) (t:Nat) (l c:AV):Option (AV × Hp):=
  match und E t with
  | some (.slice e)=>Bool.rec none (match info E e,zeroA E e,l,c with
    | some i,some zero,.int _ m,.int _ m'=>Bool.rec none (Bool.rec none (tst opt (mkG m m' i.bytes) (some (.sa S.nx 0 (Int.toNat m) i.size,S.alloc (.arr (Int.toNat m) i.size (fun _=>cellsA zero) none e true false)))) (Nat.blt 0 i.size)) (Nat.beq (cellsA zero).length i.size)
    | _,_,_,_=>none) (E.am e)
  | _=>none
noncomputable def makeG (E:Env) (t:Nat) (l c:AV):Bool:=
  match und E t with
  | some (.slice e)=>Bool.rec true (match info E e,l,c with|some i,.int _ m,.int _ m'=>mkG m m' i.bytes|_,_,_=>true) (E.am e)
  | _=>true
theorem make_g {S:Hp} {t:Nat} {l c:AV} (h:makeG E t l c=true):makeR false E S t l c=makeR true E S t l c:=by
  unfold makeR
  unfold makeG at h
  split
  · rename_i e hu
    rw [hu] at h
    simp only at h
    cases ha:E.am e with
    | false=>rfl
    | true =>
      rw [ha] at h
      simp only at h ⊢
      split
      · rename_i i zero k m k' m' hi hz
        rw [hi] at h
        simp only at h
        simp only [tst_t h]
      · rfl
  · rfl
theorem zrep_flat (l:List AV) (n:Nat):zrep n l=flat (fun _=>l) n:=by
  have key:∀ n,flat (fun _=>l) n++l=l++flat (fun _=>l) n:=by
    intro n
    induction n with
    | zero=>simp [flat]
    | succ n ih=>show (flat (fun _=>l) n++l)++l=l++(flat (fun _=>l) n++l);rw [← List.append_assoc,← ih]
  induction n with
  | zero=>rfl
  | succ n ih=>show l++zrep n l=flat (fun _=>l) n++l;rw [ih,key]
theorem get_alloc {S:Hp} {o:AO}:(S.alloc o).hp.get S.nx=some o:=T.get_set_same _ _ _
theorem get_alloc_ne {S:Hp} {a:Ps} {o:AO} (h:a≠S.nx):(S.alloc o).hp.get a=S.hp.get a:=T.get_set_ne (fun e'=>h e'.symm) _ _
theorem alloc_get {S:Hp} {b:Ps} {o x:AO} (h:(S.alloc o).hp.get b=some x):(b=S.nx∧x=o)∨(b≠S.nx∧S.hp.get b=some x):=by
  by_cases e:b=S.nx
  · left;subst e;rw [get_alloc] at h;cases h;exact ⟨rfl,rfl⟩
  · right;rw [get_alloc_ne e] at h;exact ⟨e,h⟩
theorem alloc_dress {ng:Nat} {S:Hp} {w w':World} {γ':Gm} {o o':AO} (hH:HR γ ng S w) (h:HR γ' ng (S.alloc o) w') (p:Pres S γ w (S.alloc o) γ' w') (ho:∀ L ob,OR γ' L o ob→OR γ' L o' ob) :
    HR γ' ng (S.alloc o') w'∧Pres S γ w (S.alloc o') γ' w':=by
  refine ⟨h.same (fun a x hx=>?_) rfl,p.dress (fun a o h=>⟨o,h⟩) (fun a x hx=>?_) rfl rfl rfl rfl (fun a x hx hlt=>?_) (fun a x hx hlt hn=>?_)⟩
  · rcases alloc_get hx with ⟨rfl,rfl⟩|⟨hne,h2⟩
    · exact ⟨o,get_alloc,ho⟩
    · exact ⟨x,by rw [get_alloc_ne hne];exact h2,fun _ _ h=>h⟩
  · rcases alloc_get hx with ⟨rfl,rfl⟩|⟨hne,h2⟩
    · exact ⟨o,get_alloc⟩
    · exact ⟨x,by rw [get_alloc_ne hne];exact h2⟩
  · have:=hH.lt hx
    rw [get_alloc_ne (fun e=>by subst e;omega)];exact hx
  · rcases alloc_get hx with ⟨rfl,rfl⟩|⟨hne,h2⟩
    · omega
    · exact h2
include hE in
theorem makeR_ok {S S':Hp} {t:Nat} {l c r:AV} (h:makeR false E S t l c=some (r,S')) {l' c':Value} (hl:VR γ l l') (hc:VR γ c c') {ng:Nat}:Out E.P γ ng S (Instr.makeSlice t l' c') r S':=by
  unfold makeR at h
  split at h
  · rename_i e hu
    obtain ⟨ha,hA⟩:=rec_some h
    split at hA
    · rename_i i zero k m k' m' hi hz
      obtain ⟨h1,hB⟩:=rec_some hA
      obtain ⟨h2,hC⟩:=rec_some hB
      obtain ⟨hg,hD⟩:=tst_f hC
      cases hD
      unfold mkG at hg
      obtain ⟨g1,hg⟩:=band_eq.1 hg
      obtain ⟨g2,hg⟩:=band_eq.1 hg
      obtain ⟨g3,g4⟩:=band_eq.1 hg
      rw [ile_eq] at g1
      have g1:=of_decide_eq_true g1
      rw [ieq_eq] at g2
      have g2:m=m':=eq_of_beq g2
      subst g2
      have e1:m=Int.ofNat m.toNat:=by show m=(m.toNat:Int);omega
      have hn:nat? (.int k m)=some m.toNat:=by rw [e1];rfl
      have hn':nat? (.int k' m)=some m.toNat:=by rw [e1];rfl
      intro w hH
      obtain ⟨γ',v,w',q1,q2,q3,q4⟩:=makeSA_ok hE (S:=S) (t:=t) (l:=.int k m) (c:=.int k' m) (r:=.sl S.nx 0 m.toNat m.toNat) (S':=S.alloc (.cells (zrep m.toNat (cellsA zero)) e true false 0 0)) (by
        unfold makeSA
        rw [hu]
        simp only [hi,hz,hn,hn']
        rw [h1,g3,g4,show Nat.ble m.toNat m.toNat=true from Nat.ble_eq_true_of_le (Nat.le_refl _),h2]) hl hc (ng:=ng) w hH
      have e2:(cellsA zero).length=i.size:=Nat.eq_of_beq_eq_true h1
      have e3:0 < i.size:=by rw [nat_blt_decide] at h2;exact of_decide_eq_true h2
      obtain ⟨d1,d2⟩:=alloc_dress hH q3 q4 (o':=.arr m.toNat i.size (fun _=>cellsA zero) none e true false) (fun L ob ho=>by
        rw [zrep_flat] at ho
        exact OR.arr_of ho e3 (fun _ _=>e2))
      refine ⟨γ',v,w',q1,?_,d1,d2⟩
      obtain ⟨L,ob,r1,r2,r3⟩:=d1.obj S.nx _ get_alloc
      cases q2 with
      | @sl _ L1 _ _ _ hL =>
        rw [hL] at r1
        cases r1
        obtain ⟨⟨pre,cs,post,fz,s1,s2,s3,s4,s5,s6,s7⟩,_⟩:=r3
        obtain ⟨rfl,rfl⟩:=s7 rfl
        have hoff:L.off=0:=s2.symm
        have hsz:L.siz=m.toNat * i.size:=by
          have s31:L.siz≤0+cs.length+0:=s3.1
          have s32:0+cs.length≤L.siz:=s3.2
          rw [show L.siz=cs.length from by omega,s4.length]
          exact flat_length (fun _ _=>e2)
        have:=VR.sa (γ:=γ') (b:=S.nx) (L:=L) 0 m.toNat m.toNat i.size hL (Nat.le_refl _) e3 (by rw [hoff,hsz];simp)
        rw [Nat.zero_mul] at this
        exact this
    · cases hA
  · cases h
noncomputable def foldF (f:Nat→List AV) (ov:Option (Nat × List AV)):Nat→List AV:=match ov with|none=>f|some (i,l)=>fun j=>Bool.rec (f j) l (Nat.beq j i)
theorem foldF_eq (f:Nat→List AV) (ov:Option (Nat × List AV)):foldF f ov=arrF f ov:=by
  cases ov with
  | none=>rfl
  | some p =>
    obtain ⟨i,l⟩:=p
    funext j
    show (Bool.rec (f j) l (Nat.beq j i):List AV)=upd f i l j
    unfold upd
    rw [nat_beq_decide]
    by_cases e:j=i
    · rw [if_pos e,decide_eq_true e]
    · rw [if_neg e,decide_eq_false e]
noncomputable def bigG (n by_:Nat):Bool:=bigOk n by_
noncomputable def emptyS (S:Hp) (s:AV):Bool:=match s with|.nils=>true|.sl b _ 0 0=>(match T.get b S.hp with|some (.cells _ _ _ _ _ _)=>true|_=>false)|_=>false
noncomputable def appR1 (opt:Bool) (S:Hp) (e:Nat) (i:TypeInfo) (s x:AV):Option (AV × Hp):=
  match x with
  | .sa b2 e2 m z=>(match e2,T.get b2 S.hp with
      | 0,some (.arr n z2 f ov _ _ _)=>Bool.rec none (Bool.rec none (tst opt (band (Nat.blt 0 m) (band (Nat.ble m n) (bigG m i.bytes))) (some (.sa S.nx 0 m z,S.alloc (.arr m z f ov e false false)))) (emptyS S s)) (band (Nat.beq z i.size) (Nat.beq z z2))
      | _,_=>none)
  | x => (match vlen x,firstA S i.size 1 x with
      | some 1, some new=>Bool.rec none (match s with
          | .nils=>some (.sa S.nx 0 1 i.size,S.alloc (.arr 1 i.size (fun _=>new) none e false false))
          | .sa b 0 n z=>(match T.get b S.hp with
              | some (.arr n' z2 f ov el _ sty)=>Bool.rec none (tst opt (band (Nat.beq n n') (bigG (Nat.add n 1) i.bytes)) (some (.sa S.nx 0 (Nat.add n 1) z,S.move b (.arr (Nat.add n 1) z (foldF f ov) (some (n,new)) e false sty))))
                (band (Nat.beq z i.size) (band (Nat.beq z z2) (band (Nat.beq el e) (band (Nat.ble S.fl b.idx) (scals new)))))
              | _=>none)
          | _=>none) (isStr x i.size)
      | _,_=>none)
noncomputable def appR2 (opt:Bool) (S:Hp) (e:Nat) (i:TypeInfo) (s x:AV):Option (AV × Hp):=
  match firstA S i.size 2 x with
  | some new=>(match ltake i.size new with
    | some r0=>Bool.rec none (match s with
      | .nils=>Bool.rec none (some (.sa S.nx 0 2 i.size,S.alloc (.arr 2 i.size (fun _=>r0) (some (1,ldrop i.size new)) e false false))) (bigOk 2 i.bytes)
      | .sa b 0 n z=>(match T.get b S.hp with
          | some (.arr n' z2 f ov el _ sty)=>Bool.rec none (tst opt (band (Nat.beq n n') (bigG (Nat.add n 2) i.bytes)) (some (.sa S.nx 0 (Nat.add n 2) z,S.move b (.arr (Nat.add n 2) z (foldF (foldF f ov) (some (n,r0))) (some (Nat.succ n,ldrop i.size new)) e false sty))))
            (band (Nat.beq z i.size) (band (Nat.beq z z2) (band (Nat.beq el e) (band (Nat.ble S.fl b.idx) (scals new)))))
          | _=>none)
      | _=>none) (isStr x i.size)
    | none=>none)
  | none=>none
noncomputable def appN (opt:Bool) (S:Hp) (e:Nat) (i:TypeInfo) (s x:AV):Option (AV × Hp):=
  match vlen x,saOf x with
  | some 2,none=>appR2 opt S e i s x
  | _,_=>appR1 opt S e i s x
theorem appN_or {opt:Bool} {S:Hp} {e:Nat} {i:TypeInfo} {s x:AV} {p:AV × Hp} (h:appN opt S e i s x=some p):appR1 opt S e i s x=some p∨(appR2 opt S e i s x=some p∧vlen x=some 2):=by
  unfold appN at h
  split at h
  · rename_i e1 _
    exact .inr ⟨h,e1⟩
  · exact .inl h
noncomputable def appRo (opt:Bool) (E:Env) (S:Hp) (sT xT:Nat) (s x:AV):Option (AV × Hp):=
  match und E sT,und E xT with
  | some (.slice e),some xd=>Bool.rec none (Bool.rec none (match info E e,zeroA E e with
      | some i,some zero=>Bool.rec none (Bool.rec none (Bool.rec none (appR1 opt S e i s x) (bigOk 1 i.bytes)) (Nat.blt 0 i.size)) (Nat.beq (cellsA zero).length i.size)
      | _,_=>none) (E.am e)) (notInt xd)
  | _,_=>none
noncomputable def appR (opt:Bool) (E:Env) (S:Hp) (sT xT:Nat) (s x:AV):Option (AV × Hp):=
  match und E sT,und E xT with
  | some (.slice e),some xd=>Bool.rec none (Bool.rec none (match info E e,zeroA E e with
      | some i,some zero=>Bool.rec none (Bool.rec none (Bool.rec none (appN opt S e i s x) (bigOk 1 i.bytes)) (Nat.blt 0 i.size)) (Nat.beq (cellsA zero).length i.size)
      | _,_=>none) (E.am e)) (notInt xd)
  | _,_=>none
noncomputable def appG1 (S:Hp) (i:TypeInfo) (s x:AV):Bool:=
  match saOf x with
  | some ⟨b2,_,_,m⟩=>(match T.get b2 S.hp with|some (.arr n _ _ _ _ _ _)=>band (Nat.blt 0 m) (band (Nat.ble m n) (bigG m i.bytes))|_=>true)
  | none=>(match s with|.sa b 0 n _=>(match T.get b S.hp with|some (.arr n' _ _ _ _ _ _)=>band (Nat.beq n n') (bigG (Nat.add n 1) i.bytes)|_=>true)|_=>true)
noncomputable def appG2 (S:Hp) (i:TypeInfo) (s:AV):Bool:=
  match s with|.sa b 0 n _=>(match T.get b S.hp with|some (.arr n' _ _ _ _ _ _)=>band (Nat.beq n n') (bigG (Nat.add n 2) i.bytes)|_=>true)|_=>true
noncomputable def appGN (S:Hp) (i:TypeInfo) (s x:AV):Bool:=
  match vlen x,saOf x with
  | some 2,none=>appG2 S i s
  | _,_=>appG1 S i s x
noncomputable def appG (E:Env) (S:Hp) (sT:Nat) (s x:AV):Bool:=
  match und E sT with
  | some (.slice e)=>Bool.rec true (match info E e with|some i=>appGN S i s x|none=>true) (E.am e)
  | _=>true
theorem app_g1 {S:Hp} {e:Nat} {i:TypeInfo} {s x:AV} (h:appG1 S i s x=true):appR1 false S e i s x=appR1 true S e i s x:=by
  unfold appR1
  split
  · rename_i b2 e2 m z
    split
    · rename_i n z2 f ov el ex sty hb
      unfold appG1 at h
      simp only [show saOf (.sa b2 0 m z)=some ⟨b2,0,z,m⟩ from rfl,hb] at h
      simp only [tst_t h]
    · rfl
  · rename_i hx
    split
    · rename_i new h1 h2
      have h':(match (generalizing:=false) s with|.sa b 0 n _=>(match T.get b S.hp with|some (.arr n' _ _ _ _ _ _)=>band (Nat.beq n n') (bigG (Nat.add n 1) i.bytes)|_=>true)|_=>true:Bool)=true:=by
        have hn:saOf x=none:=by cases x <;> first|rfl|exact absurd rfl (hx _ _ _ _)
        unfold appG1 at h
        rw [hn] at h
        exact h
      cases s <;> try rfl
      rename_i b e0 n z
      cases e0 with
      | succ q=>rfl
      | zero =>
        simp only at h' ⊢
        cases hb:T.get b S.hp with
        | none=>rfl
        | some o =>
          rw [hb] at h'
          cases o <;> try rfl
          simp only at h'
          simp only [tst_t h']
    · rfl
theorem app_g2 {S:Hp} {e:Nat} {i:TypeInfo} {s x:AV} (h:appG2 S i s=true):appR2 false S e i s x=appR2 true S e i s x:=by
  unfold appR2
  unfold appG2 at h
  cases hf:firstA S i.size 2 x with
  | none=>rfl
  | some new =>
    simp only
    cases hr:ltake i.size new with
    | none=>rfl
    | some r0 =>
      simp only
      cases s <;> try rfl
      rename_i b e0 n z
      cases e0 with
      | succ q=>rfl
      | zero =>
        simp only at h ⊢
        cases hb:T.get b S.hp with
        | none=>rfl
        | some o =>
          rw [hb] at h
          cases o <;> try rfl
          simp only at h
          simp only [tst_t h]
theorem app_gN {S:Hp} {e:Nat} {i:TypeInfo} {s x:AV} (h:appGN S i s x=true):appN false S e i s x=appN true S e i s x:=by
  unfold appN
  unfold appGN at h
  split at h
  · exact app_g2 h
  · exact app_g1 h
theorem app_g {S:Hp} {sT xT:Nat} {s x:AV} (h:appG E S sT s x=true):appR false E S sT xT s x=appR true E S sT xT s x:=by
  unfold appR
  unfold appG at h
  split
  · rename_i e xd hs hx
    rw [hs] at h
    simp only at h
    cases ha:E.am e with
    | false=>rfl
    | true =>
      rw [ha] at h
      simp only at h
      split
      · rename_i i zero hi hz
        rw [hi] at h
        simp only [app_gN (e:=e) h]
      · rfl
  · rfl
end
section
variable {z n:Nat} {f:Nat→List AV}
theorem flat_two {new r0 r1:List AV} (e:new=r0++r1):List.append (flat f n) new=flat (upd (upd f n r0) (n+1) r1) (n+2):=by
  subst e
  have h1:List.append (flat f n) r0=flat (upd f n r0) (n+1):=flat_snoc n r0
  have h2:List.append (flat (upd f n r0) (n+1)) r1=flat (upd (upd f n r0) (n+1) r1) (n+2):=flat_snoc (n+1) r1
  rw [← h2,← h1]
  exact (List.append_assoc _ _ _).symm
theorem appA_two {E:Env} {S:Hp} {b:Ps} {sT xT e:Nat} {xd:TypeDesc} {i:TypeInfo} {zero x:AV} {new r0 r1:List AV} {ex sty:Bool} (h1:und E sT=some (.slice e)) (h2:und E xT=some xd) (h3:notInt xd=true) (h4:info E e=some i) (h5:zeroA E e=some zero)
    (h6:vlen x=some 2) (h7:firstA S i.size 2 x=some new) (h8:bigOk (Nat.add n 2) i.bytes=true) (h9:Bool.and (Nat.blt 0 i.size) (isStr x i.size)=true) (h10:Nat.beq (cellsA zero).length i.size=true) (h0:0 < i.size)
    (hb:T.get b S.hp=some (.cells (flat f n) e ex sty 0 0)) (h:∀ j,j < n→(f j).length=i.size) (hfl:Nat.ble S.fl b.idx=true) (hsc:scals new=true) (hn:new=r0++r1) :
    appA E S sT xT (.su b 0 n i.size) x=some (.su S.nx 0 (Nat.add n 2) i.size,S.move b (.cells (flat (upd (upd f n r0) (n+1) r1) (n+2)) e false sty 0 0)):=by
  unfold appA
  rw [h1,h2]
  simp only
  rw [h3]
  show appB E S e (.su b 0 n i.size) x=_
  unfold appB
  rw [h4,h5,h6,show vlen (.su b 0 n i.size)=some n from rfl]
  simp only
  unfold appC
  rw [h7,h8,h9,h10]
  simp only
  unfold appD
  simp only
  rw [show Nat.beq i.size i.size=true from Nat.beq_refl _]
  simp only
  have hl:(flat f n).length=n * i.size:=flat_length h
  have hsure:sure S b 0 i.size n=n:=by
    unfold AM.sure
    rw [hb]
    show Nat.max n (((flat f n).length - 0) / i.size)=n
    rw [hl,Nat.sub_zero,Nat.mul_div_cancel _ h0]
    exact Nat.max_self n
  rw [hsure,show Nat.ble (Nat.add n 2) n=false from by rw [nat_ble_decide];exact decide_eq_false (by show ¬ n+2≤n;omega)]
  simp only
  rw [firstA_at hb h (Nat.le_refl n)]
  simp only
  rw [maybeA_eq]
  unfold maybeA0
  rw [hb]
  simp only
  rw [hfl,show Nat.ble 0 (flat f n).length=true from Nat.ble_eq_true_of_le (Nat.zero_le _),show Nat.beq e e=true from Nat.beq_refl _,show thaw 0 0 (Nat.add 0 (flat f n).length) new.length=true from rfl,show Bool.or (Nat.beq 0 0) (Nat.beq 0 0)=true from rfl,hsc,
    show Nat.ble (flat f n).length (Nat.add 0 (Nat.add (flat f n).length new.length))=true from Nat.ble_eq_true_of_le (by show (flat f n).length≤0+((flat f n).length+new.length);omega)]
  show some (AV.su S.nx 0 (n+2) i.size,S.move b (.cells (List.append (flat f n) new) e false sty (0 - 0) (0 - 0)))=_
  rw [flat_two hn]
end
section
variable {E:Env} (hE:E.Ok) {γ:Gm}
theorem move_get {S:Hp} {b c:Ps} {o x:AO} (h:(S.move b o).hp.get c=some x):(c=S.nx∧x=o)∨(c≠S.nx∧c≠b∧S.hp.get c=some x):=by
  by_cases e:c=S.nx
  · left;subst e;rw [show (S.move b o).hp.get S.nx=some o from T.get_set_same _ _ _] at h;cases h;exact ⟨rfl,rfl⟩
  · right
    rw [show (S.move b o).hp.get c=T.get c (T.del b S.hp) from T.get_set_ne (fun e'=>e e'.symm) _ _] at h
    by_cases e2:c=b
    · subst e2;rw [T.get_del_same] at h;cases h
    · rw [T.get_del_ne (fun e'=>e2 e'.symm)] at h;exact ⟨e,e2,h⟩
theorem get_move {S:Hp} {b:Ps} {o:AO}:(S.move b o).hp.get S.nx=some o:=T.get_set_same _ _ _
theorem get_move_ne {S:Hp} {b c:Ps} {o:AO} (h1:c≠S.nx) (h2:c≠b):(S.move b o).hp.get c=S.hp.get c:=by
  rw [show (S.move b o).hp.get c=T.get c (T.del b S.hp) from T.get_set_ne (fun e'=>h1 e'.symm) _ _,T.get_del_ne (fun e'=>h2 e'.symm)]
theorem alloc_put_dress {ng:Nat} {S:Hp} {w w':World} {γ':Gm} {b:Ps} {a c o o':AO} (hH:HR γ ng S w) (hb:S.hp.get b=some a) (h:HR γ' ng ((S.put b c).alloc o) w') (p:Pres (S.put b c) γ w ((S.put b c).alloc o) γ' w')
    (hc:∀ L ob,OR γ' L c ob→OR γ' L a ob) (ho:∀ L ob,OR γ' L o ob→OR γ' L o' ob):HR γ' ng (S.alloc o') w'∧Pres S γ w (S.alloc o') γ' w':=by
  have hlt:=hH.lt hb
  have e1:∀ x,(S.alloc x).hp.get b=S.hp.get b:=fun x=>get_alloc_ne (fun e=>by subst e;omega)
  have e2:((S.put b c).alloc o).hp.get b=some c:=by
    rw [get_alloc_ne (show b≠(S.put b c).nx from fun e=>by rw [e] at hlt;exact Nat.lt_irrefl _ hlt)];exact get_put
  refine ⟨h.same (fun k x hx=>?_) rfl,p.dress (fun k x hx=>?_) (fun k x hx=>?_) rfl rfl rfl rfl (fun k x hx hfl=>?_) (fun k x hx hfl hn=>?_)⟩
  · rcases alloc_get hx with ⟨rfl,rfl⟩|⟨hne,h2⟩
    · exact ⟨o,get_alloc (S:=S.put b c),ho⟩
    · by_cases e:k=b
      · subst e
        rw [hb] at h2;cases h2
        exact ⟨c,e2,hc⟩
      · exact ⟨x,by rw [get_alloc_ne (show k≠(S.put b c).nx from hne),get_put_ne e];exact h2,fun _ _ h=>h⟩
  · rcases put_get hx with ⟨rfl,rfl⟩|⟨_,h2⟩
    · exact ⟨_,hb⟩
    · exact ⟨_,h2⟩
  · rcases alloc_get hx with ⟨rfl,rfl⟩|⟨hne,h2⟩
    · exact ⟨o,get_alloc (S:=S.put b c)⟩
    · by_cases e:k=b
      · subst e;exact ⟨c,e2⟩
      · exact ⟨x,by rw [get_alloc_ne (show k≠(S.put b c).nx from hne),get_put_ne e];exact h2⟩
  · have:=hH.lt hx
    rw [get_alloc_ne (fun e=>by subst e;omega)];exact hx
  · rcases alloc_get hx with ⟨rfl,rfl⟩|⟨hne,h2⟩
    · omega
    · exact h2
theorem move_put_dress {ng:Nat} {S:Hp} {w w':World} {γ':Gm} {b:Ps} {a c o o':AO} (hH:HR γ ng S w) (hb:S.hp.get b=some a) (hbf:S.fl≤b.idx) (h:HR γ' ng ((S.put b c).move b o) w') (p:Pres (S.put b c) γ w ((S.put b c).move b o) γ' w')
    (ho:∀ L ob,OR γ' L o ob→OR γ' L o' ob):HR γ' ng (S.move b o') w'∧Pres S γ w (S.move b o') γ' w':=by
  have hlt:=hH.lt hb
  refine ⟨h.same (fun k x hx=>?_) rfl,p.dress (fun k x hx=>?_) (fun k x hx=>?_) rfl rfl rfl rfl (fun k x hx hfl=>?_) (fun k x hx hfl hn=>?_)⟩
  · rcases move_get hx with ⟨rfl,rfl⟩|⟨hne,hne2,h2⟩
    · exact ⟨o,get_move (S:=S.put b c),ho⟩
    · exact ⟨x,by rw [get_move_ne (show k≠(S.put b c).nx from hne) hne2,get_put_ne hne2];exact h2,fun _ _ h=>h⟩
  · rcases put_get hx with ⟨rfl,rfl⟩|⟨_,h2⟩
    · exact ⟨_,hb⟩
    · exact ⟨_,h2⟩
  · rcases move_get hx with ⟨rfl,rfl⟩|⟨hne,hne2,h2⟩
    · exact ⟨o,get_move (S:=S.put b c)⟩
    · exact ⟨x,by rw [get_move_ne (show k≠(S.put b c).nx from hne) hne2,get_put_ne hne2];exact h2⟩
  · have:=hH.lt hx
    rw [get_move_ne (fun e=>by subst e;omega) (fun e=>by subst e;omega)];exact hx
  · rcases move_get hx with ⟨rfl,rfl⟩|⟨hne,hne2,h2⟩
    · omega
    · exact h2
theorem firstA_put {S:Hp} {b:Ps} {n0 z0 el z n:Nat} {f:Nat→List AV} {ov:Option (Nat × List AV)} {ex sty:Bool} {c:AO} {x:AV} {l:List AV} (hb:T.get b S.hp=some (.arr n0 z0 f ov el ex sty)) (h:firstA S z n x=some l):firstA (S.put b c) z n x=some l:=by
  unfold firstA at h ⊢
  cases x <;> try exact h
  · rename_i b' o len cap
    simp only at h ⊢
    by_cases e:b'=b
    · subst e;rw [hb] at h;cases h
    · rw [show T.get b' (S.put b c).hp=T.get b' S.hp from get_put_ne e];exact h
  · rename_i b' o len cap
    simp only at h ⊢
    by_cases e:b'=b
    · subst e;rw [hb] at h;cases h
    · rw [show T.get b' (S.put b c).hp=T.get b' S.hp from get_put_ne e];exact h
include hE in
theorem appRo_ok {S S':Hp} {sT xT:Nat} {s x r:AV} (h:appRo false E S sT xT s x=some (r,S')) {s' x':Value} (hs:VR γ s s') (hx:VR γ x x') {ng:Nat} {ats:Array TypeId} (h0:ats[0]? = some sT) (h1:ats[1]? = some xT) (ty:TypeId)
    {args:Array Value} (ha0:args[0]? = some s') (ha1:args[1]? = some x'):Out E.P γ ng S (Builtin.append_ ats ty args) r S':=by
  intro w hH
  unfold appRo at h
  split at h
  · rename_i e xd hus hux
    obtain ⟨hni,hA⟩:=rec_some h
    obtain ⟨ham,hB⟩:=rec_some hA
    split at hB
    · rename_i i zero hi hz
      obtain ⟨hzl,hC⟩:=rec_some hB
      obtain ⟨hz0,hD⟩:=rec_some hC
      obtain ⟨hb1,hF⟩:=rec_some hD
      have hz0':0 < i.size:=by rw [nat_blt_decide] at hz0;exact of_decide_eq_true hz0
      clear h hA hB hC hD
      unfold appR1 at hF
      split at hF
      ·
        rename_i b2 e2 m z
        split at hF
        · rename_i n z2 f ov el ex sty hb
          obtain ⟨hzz,hG⟩:=rec_some hF
          obtain ⟨hem,hI⟩:=rec_some hG
          obtain ⟨hg,hJ⟩:=tst_f hI
          cases hJ
          obtain ⟨hzz1,hzz2⟩:=band_eq.1 hzz
          have hzz1':=Nat.eq_of_beq_eq_true hzz1
          have hzz2':=Nat.eq_of_beq_eq_true hzz2
          subst hzz2'
          subst hzz1'
          obtain ⟨g1,hg⟩:=band_eq.1 hg
          obtain ⟨g2,g3⟩:=band_eq.1 hg
          rw [nat_blt_decide] at g1
          have g1:=of_decide_eq_true g1
          have g2:m≤n:=Nat.le_of_ble_eq_true g2
          obtain ⟨d1,d2,d3⟩:=arr_dress hH hb
          obtain ⟨m',rfl⟩:∃ m',m=m'+1:=⟨m - 1,by omega⟩
          have hx1:VR γ (.su b2 0 (m'+1) i.size) x':=by have:=hx.sa_su;rw [Nat.zero_mul] at this;exact this
          have hfl:firstA (S.put b2 (.cells (flat (arrF f ov) n) el ex sty 0 0)) i.size (m'+1) (.su b2 0 (m'+1) i.size)=some (flat (arrF f ov) (m'+1)):=firstA_at get_put d3 g2
          have hold:∀ q,(s=.nils∨∃ b o,s=.sl b o 0 0∧∃ c e x y l h,T.get b S.hp=some (.cells c e x y l h))→vlen s=some 0∧appD (S.put b2 (.cells (flat (arrF f ov) n) el ex sty 0 0)) e i.size (m'+1) 0 s q=some (growA (S.put b2 (.cells (flat (arrF f ov) n) el ex sty 0 0)) e i.size (m'+1) [] q):=fun q hq=>by
            rcases hq with rfl|⟨b,o,rfl,c,e3,x3,y3,l3,h3,hbc⟩
            · exact ⟨rfl,rfl⟩
            · refine ⟨rfl,?_⟩
              have hne:b≠b2:=fun e=>by subst e;rw [hb] at hbc;cases hbc
              unfold appD
              simp only
              rw [show Nat.ble (Nat.add 0 (m'+1)) 0=false from by rw [nat_ble_decide];exact decide_eq_false (by show ¬ 0+(m'+1)≤0;omega)]
              simp only
              have:firstA (S.put b2 (.cells (flat (arrF f ov) n) el ex sty 0 0)) i.size 0 (.sl b o 0 0)=some []:=by
                unfold firstA
                simp only
                rw [show T.get b (S.put b2 _).hp=T.get b S.hp from get_put_ne hne,hbc]
                simp only
                rw [show Nat.mul 0 i.size=0 from Nat.zero_mul _]
                cases ldrop o c <;> rfl
              rw [this]
              simp only
              rw [show Nat.add 0 (m'+1)=m'+1 from Nat.zero_add _]
          have hs0:s=.nils∨∃ b o,s=.sl b o 0 0∧∃ c e x y l h,T.get b S.hp=some (.cells c e x y l h):=by
            unfold emptyS at hem
            split at hem
            · exact .inl rfl
            · rename_i b o
              split at hem
              · rename_i c e3 x3 y3 l3 h3 hbc
                exact .inr ⟨b,o,rfl,c,e3,x3,y3,l3,h3,hbc⟩
              · cases hem
            · cases hem
          obtain ⟨hvs,hD2⟩:=hold (flat (arrF f ov) (m'+1)) hs0
          have happ:appA E (S.put b2 (.cells (flat (arrF f ov) n) el ex sty 0 0)) sT xT s (.su b2 0 (m'+1) i.size)=some (growA (S.put b2 (.cells (flat (arrF f ov) n) el ex sty 0 0)) e i.size (m'+1) [] (flat (arrF f ov) (m'+1))):=by
            unfold appA
            rw [hus,hux]
            simp only
            rw [hni]
            show appB E _ e s (.su b2 0 (m'+1) i.size)=_
            unfold appB
            rw [hi,hz,show vlen (.su b2 0 (m'+1) i.size)=some (m'+1) from rfl,hvs]
            simp only
            unfold appC
            rw [hfl,show Nat.add 0 (m'+1)=m'+1 from Nat.zero_add _,show bigOk (m'+1) i.bytes=true from g3,hz0,show isStr (.su b2 0 (m'+1) i.size) i.size=true from rfl,hzl]
            exact hD2
          rw [growA_eq] at happ
          obtain ⟨γ',v,w',q1,q2,q3,q4⟩:=appA_ok hE happ hs hx1 h0 h1 ty ha0 ha1 (ng:=ng) w d1
          have hlen:∀ j,j < m'+1→(arrF f ov j).length=i.size:=fun j hj=>d3 j (by omega)
          obtain ⟨k1,k2⟩:=alloc_put_dress hH hb q3 q4 (o':=.arr (m'+1) i.size f ov e false false) (fun L ob ho=>OR.arr_of ho d2 d3) (fun L ob ho=>OR.arr_of ho hz0' hlen)
          refine ⟨γ',v,w',q1,?_,k1,k2⟩
          have:VR γ' (.su S.nx (0 * i.size) (m'+1) i.size) v:=by rw [Nat.zero_mul];exact q2
          exact this.su_sa
        · cases hF
      ·
        rename_i hns
        split at hF
        · rename_i new hv1 hf1
          obtain ⟨hstr,hG⟩:=rec_some hF
          have hnl:new.length=i.size:=by have:=firstA_length hf1 hstr (.inl hv1);rw [Nat.one_mul] at this;exact this
          split at hG
          · cases hG
            have happ:appA E S sT xT .nils x=some (growA S e i.size 1 [] new):=by
              unfold appA
              rw [hus,hux]
              simp only
              rw [hni]
              show appB E _ e .nils x=_
              unfold appB
              rw [hi,hz,hv1,show vlen .nils=some 0 from rfl]
              simp only
              unfold appC
              rw [hf1,show Nat.add 0 1=1 from rfl,hb1,hz0,hstr,hzl]
              rfl
            rw [growA_eq] at happ
            obtain ⟨γ',v,w',q1,q2,q3,q4⟩:=appA_ok hE happ hs hx h0 h1 ty ha0 ha1 (ng:=ng) w hH
            obtain ⟨k1,k2⟩:=alloc_dress hH q3 q4 (o':=.arr 1 i.size (fun _=>new) none e false false) (fun L ob ho=>OR.arr_of ho hz0' (fun _ _=>hnl))
            refine ⟨γ',v,w',q1,?_,k1,k2⟩
            have:VR γ' (.su S.nx (0 * i.size) 1 i.size) v:=by rw [Nat.zero_mul];exact q2
            exact this.su_sa
          · rename_i b n z
            split at hG
            · rename_i n' z2 f ov el ex sty hb
              obtain ⟨hcc,hI⟩:=rec_some hG
              obtain ⟨hg,hJ⟩:=tst_f hI
              cases hJ
              obtain ⟨c1,hcc⟩:=band_eq.1 hcc
              obtain ⟨c2,hcc⟩:=band_eq.1 hcc
              obtain ⟨c3,hcc⟩:=band_eq.1 hcc
              obtain ⟨c4,c5⟩:=band_eq.1 hcc
              have c1':=Nat.eq_of_beq_eq_true c1
              have c2':=Nat.eq_of_beq_eq_true c2
              have c3':=Nat.eq_of_beq_eq_true c3
              subst c2' c1' c3'
              obtain ⟨g1,g2⟩:=band_eq.1 hg
              have g1':=Nat.eq_of_beq_eq_true g1
              subst g1'
              obtain ⟨d1,d2,d3⟩:=arr_dress hH hb
              have hs1:VR γ (.su b 0 n i.size) s':=by have:=hs.sa_su;rw [Nat.zero_mul] at this;exact this
              have happ:=appA_upd (E:=E) (S:=S.put b (.cells (flat (arrF f ov) n) el ex sty 0 0)) (x:=x) (new:=new) hus hux hni hi hz hv1 (firstA_put hb hf1) g2 (by rw [hz0,hstr];rfl) hzl rfl hz0' get_put d3 c4 c5
              obtain ⟨γ',v,w',q1,q2,q3,q4⟩:=appA_ok hE happ hs1 hx h0 h1 ty ha0 ha1 (ng:=ng) w d1
              obtain ⟨k1,k2⟩:=move_put_dress hH hb (Nat.le_of_ble_eq_true c4) q3 q4 (o':=.arr (Nat.add n 1) i.size (foldF f ov) (some (n,new)) el false sty) (fun L ob ho=>by
                refine OR.arr_of ?_ hz0' (fun j hj=>?_)
                · show OR γ' L (.cells (flat (upd (foldF f ov) n new) (n+1)) el false sty 0 0) ob
                  rw [foldF_eq];exact ho
                · show (upd (foldF f ov) n new j).length=i.size
                  rw [foldF_eq]
                  by_cases e:j=n
                  · subst e;rw [upd_same];exact hnl
                  · rw [upd_ne e];exact d3 j (by have hj':j < n+1:=hj;omega))
              refine ⟨γ',v,w',q1,?_,k1,k2⟩
              have:VR γ' (.su S.nx (0 * i.size) (Nat.add n 1) i.size) v:=by rw [Nat.zero_mul];exact q2
              exact this.su_sa
            · cases hG
          · cases hG
        · cases hF
    · cases hB
  · cases h
include hE in
theorem appR_ok {S S' : Hp} {sT xT:Nat} {s x r:AV} (h:appR false E S sT xT s x=some (r,S')) {s' x':Value} (hs:VR γ s s') (hx:VR γ x x') {ng:Nat} {ats:Array TypeId} (h0:ats[0]? = some sT) (h1:ats[1]? = some xT) (ty:TypeId)
    {args:Array Value} (ha0:args[0]? = some s') (ha1:args[1]? = some x'):Out E.P γ ng S (Builtin.append_ ats ty args) r S':=by
  unfold appR at h
  split at h
  · rename_i e xd hus hux
    obtain ⟨hni,hA⟩:=rec_some h
    obtain ⟨ham,hB⟩:=rec_some hA
    split at hB
    · rename_i i zero hi hz
      obtain ⟨hzl,hC⟩:=rec_some hB
      obtain ⟨hz0,hD⟩:=rec_some hC
      obtain ⟨hb1,hF⟩:=rec_some hD
      have hz0':0 < i.size:=by rw [nat_blt_decide] at hz0;exact of_decide_eq_true hz0
      rcases appN_or hF with hF|⟨hF,hv2⟩
      · refine appRo_ok hE ?_ hs hx h0 h1 ty ha0 ha1
        unfold appRo
        rw [hus,hux]
        simp only
        rw [hni,ham,hi,hz]
        simp only
        rw [hzl,hz0,hb1]
        exact hF
      · intro w hH
        unfold appR2 at hF
        split at hF
        · rename_i new hf2
          split at hF
          · rename_i r0 hr0
            obtain ⟨hstr,hG⟩:=rec_some hF
            have hnl:new.length=2 * i.size:=firstA_length hf2 hstr (.inl hv2)
            obtain ⟨er0,hle⟩:=ltake_eq hr0
            have hd:ldrop i.size new=new.drop i.size:=ldrop_eq i.size new
            have hl0:r0.length=i.size:=by rw [er0,List.length_take];omega
            have hl1:(ldrop i.size new).length=i.size:=by rw [hd,List.length_drop];omega
            have hnew:new=r0++ldrop i.size new:=by rw [er0,hd];exact (List.take_append_drop _ _).symm
            generalize ldrop i.size new=r1 at hG hl1 hnew
            split at hG
            · obtain ⟨hb2,hJ⟩:=rec_some hG
              cases hJ
              have happ:appA E S sT xT .nils x=some (growA S e i.size 2 [] new):=by
                unfold appA
                rw [hus,hux]
                simp only
                rw [hni]
                show appB E _ e .nils x=_
                unfold appB
                rw [hi,hz,hv2,show vlen .nils=some 0 from rfl]
                simp only
                unfold appC
                rw [hf2,show Nat.add 0 2=2 from rfl,hb2,hz0,hstr,hzl]
                rfl
              rw [growA_eq] at happ
              obtain ⟨γ',v,w',q1,q2,q3,q4⟩:=appA_ok hE happ hs hx h0 h1 ty ha0 ha1 (ng:=ng) w hH
              obtain ⟨k1,k2⟩:=alloc_dress hH q3 q4 (o':=.arr 2 i.size (fun _=>r0) (some (1,r1)) e false false) (fun L ob ho=>OR.arr_of (by
                show OR γ' L (.cells (flat (upd (fun _=>r0) 1 r1) 2) e false false 0 0) ob
                have e2:flat (upd (fun _=>r0) 1 r1) 2=new:=by
                  rw [hnew]
                  show (([]++r0)++r1)=r0++r1
                  rw [List.nil_append]
                rw [e2];exact ho) hz0' (fun j _=>by
                show (upd (fun _=>r0) 1 r1 j).length=i.size
                unfold upd
                by_cases e:j=1
                · rw [if_pos e];exact hl1
                · rw [if_neg e];exact hl0))
              refine ⟨γ',v,w',q1,?_,k1,k2⟩
              have:VR γ' (.su S.nx (0 * i.size) 2 i.size) v:=by rw [Nat.zero_mul];exact q2
              exact this.su_sa
            · rename_i b n z _
              split at hG
              · rename_i n' z2 f ov el ex sty hb
                obtain ⟨hcc,hI⟩:=rec_some hG
                obtain ⟨hg,hJ⟩:=tst_f hI
                cases hJ
                obtain ⟨c1,hcc⟩:=band_eq.1 hcc
                obtain ⟨c2,hcc⟩:=band_eq.1 hcc
                obtain ⟨c3,hcc⟩:=band_eq.1 hcc
                obtain ⟨c4,c5⟩:=band_eq.1 hcc
                have c1':=Nat.eq_of_beq_eq_true c1
                have c2':=Nat.eq_of_beq_eq_true c2
                have c3':=Nat.eq_of_beq_eq_true c3
                subst c2' c1' c3'
                obtain ⟨g1,g2⟩:=band_eq.1 hg
                have g1':=Nat.eq_of_beq_eq_true g1
                subst g1'
                obtain ⟨d1,d2,d3⟩:=arr_dress hH hb
                have hs1:VR γ (.su b 0 n i.size) s':=by have:=hs.sa_su;rw [Nat.zero_mul] at this;exact this
                have happ:=appA_two (E:=E) (S:=S.put b (.cells (flat (arrF f ov) n) el ex sty 0 0)) (x:=x) (new:=new) (r0:=r0) (r1:=r1) hus hux hni hi hz hv2 (firstA_put hb hf2) g2 (by rw [hz0,hstr];rfl) hzl hz0' get_put d3 c4 c5 hnew
                obtain ⟨γ',v,w',q1,q2,q3,q4⟩:=appA_ok hE happ hs1 hx h0 h1 ty ha0 ha1 (ng:=ng) w d1
                have hfo:foldF (foldF f ov) (some (n,r0))=upd (arrF f ov) n r0:=by rw [foldF_eq,foldF_eq];rfl
                obtain ⟨k1,k2⟩:=move_put_dress hH hb (Nat.le_of_ble_eq_true c4) q3 q4 (o':=.arr (Nat.add n 2) i.size (foldF (foldF f ov) (some (n,r0))) (some (Nat.succ n,r1)) el false sty) (fun L ob ho=>by
                  refine OR.arr_of ?_ hz0' (fun j hj=>?_)
                  · show OR γ' L (.cells (flat (upd (foldF (foldF f ov) (some (n,r0))) (n+1) r1) (n+2)) el false sty 0 0) ob
                    rw [hfo];exact ho
                  · show (upd (foldF (foldF f ov) (some (n,r0))) (n+1) r1 j).length=i.size
                    rw [hfo]
                    by_cases e:j=n+1
                    · subst e;rw [upd_same];exact hl1
                    · rw [upd_ne e]
                      by_cases e2:j=n
                      · subst e2;rw [upd_same];exact hl0
                      · rw [upd_ne e2];exact d3 j (by have hj':j < n+2:=hj;omega))
                refine ⟨γ',v,w',q1,?_,k1,k2⟩
                have:VR γ' (.su S.nx (0 * i.size) (Nat.add n 2) i.size) v:=by rw [Nat.zero_mul];exact q2
                exact this.su_sa
              · cases hG
            · cases hG
          · cases hF
        · cases hF
    · cases hB
  · cases h
end
end Go.AM
end
