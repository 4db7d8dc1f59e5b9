/- A part of the proof of GlyphMoves; no condition. -/
import Derived.Test.YtoahnefofelglaaGlyphMoves03
set_option linter.unusedVariables false
set_option linter.unusedSimpArgs false
set_option linter.unusedSectionVars false
section
namespace Go.AM
noncomputable def eqR (E:Env) (op:BinOp) (t:Nat) (x y:Operand) (a b:AV):Option AV:=
  match a,b with
  | .sa k e n z,.nils=>bin E op t x y (.su k (e * z) n z) .nils
  | .nils,.sa k e n z=>bin E op t x y .nils (.su k (e * z) n z)
  | _,_=>none
noncomputable def lenR (E:Env) (S:Hp) (t:Nat) (x:AV):Option AV:=match x with|.sa k e n z=>lenA E S t (.su k (e * z) n z)|_=>none
noncomputable def builtR (opt:Bool) (E:Env) (S:Hp) (b:Builtin) (ts:List Nat) (args:List AV):Option RO:=
  match b with
  | .len=>(match ts,args with|t::_,x::_=>vS S (lenR E S t x)|_,_=>none)
  | .append=>(match ts,args with|s::t::_,x::y::_=>vP (appR opt E S s t x y)|_,_=>none)
  | _=>none
noncomputable def builtG (E:Env) (S:Hp) (b:Builtin) (ts:List Nat) (args:List AV):Bool:=
  match b with
  | .append=>(match ts,args with|s::_::_,x::y::_=>appG E S s x y|_,_=>true)
  | _=>true
noncomputable def gb1 (o:Option AV) (f:AV→Bool):Bool:=Option.rec true f o
noncomputable def evR (opt:Bool) (o:Op):Env→Tm→Hp→Option RO:=fun E tm S =>
  match o with
  | .indexAddr t x i=>b1 (evX E.ng tm x) fun a=>b1 (evX E.ng tm i) fun i=>vS S (iaddrR opt E t a i)
  | .fieldAddr t x f=>b1 (evX E.ng tm x) fun a=>vS S (faddrR E t a f)
  | .load t a=>b1 (evX E.ng tm a) fun a=>vS S (loadR opt E S t a)
  | .store t a x=>b1 (evX E.ng tm a) fun a=>b1 (evX E.ng tm x) fun v=>vU (storeR opt E S t a v)
  | .slice t x lo hi mx=>b1 (evX E.ng tm x) fun a=>(match evO E.ng tm lo,evO E.ng tm hi,evO E.ng tm mx with
      | some lo,some hi,some mx=>vS S (sliceR opt E S t a lo hi mx)
      | _,_,_=>none)
  | .makeSlice t l c=>b1 (evX E.ng tm l) fun l=>b1 (evX E.ng tm c) fun c=>vP (makeR opt E S t l c)
  | .binOp op t x y _=>b1 (evX E.ng tm x) fun a=>b1 (evX E.ng tm y) fun b=>vS S (eqR E op t x y a b)
  | .call c=>Option.rec none (fun args=>match c.callee with|.builtin b=>builtR opt E S b c.argTypes.toList args|_=>none) (evXs E.ng tm c.args.toList)
  | _=>none
noncomputable def gdR (o:Op):Env→Tm→Hp→Bool:=fun E tm S =>
  match o with
  | .indexAddr t x i=>gb1 (evX E.ng tm x) fun a=>gb1 (evX E.ng tm i) fun i=>iaddrG E t a i
  | .load _ a=>gb1 (evX E.ng tm a) fun a=>loadG S a
  | .store _ a _=>gb1 (evX E.ng tm a) fun a=>loadG S a
  | .slice _ x lo hi _=>gb1 (evX E.ng tm x) fun a=>(match evO E.ng tm lo,evO E.ng tm hi with|some lo,some hi=>sliceG a lo hi|_,_=>true)
  | .makeSlice t l c=>gb1 (evX E.ng tm l) fun l=>gb1 (evX E.ng tm c) fun c=>makeG E t l c
  | .call c=>Option.rec true (fun args=>match c.callee with|.builtin b=>builtG E S b c.argTypes.toList args|_=>true) (evXs E.ng tm c.args.toList)
  | _=>true
theorem b1_g {α:Type} {o:Option AV} {f g:AV→Option α} {k:AV→Bool} (h:gb1 o k=true) (hk:∀ x,k x=true→f x=g x):b1 o f=b1 o g:=by
  cases o with
  | none=>rfl
  | some x=>exact hk x h
theorem evR_g {o:Op} {E:Env} {tm:Tm} {S:Hp} (h:gdR o E tm S=true):evR false o E tm S=evR true o E tm S:=by
  cases o <;> try rfl
  case indexAddr t x i =>
    refine b1_g (o:=evX E.ng tm x) h (fun a ha=>b1_g (o:=evX E.ng tm i) ha (fun i hi=>?_))
    rw [iaddr_g hi]
  case load t a=>exact b1_g (o:=evX E.ng tm a) h (fun a ha=>by rw [load_g ha])
  case store t a x =>
    refine b1_g (o:=evX E.ng tm a) h (fun a ha=>?_)
    congr 1;funext v
    rw [store_g ha]
  case slice t x lo hi mx =>
    refine b1_g (o:=evX E.ng tm x) h (fun a ha=>?_)
    split
    · rename_i l h m h1 h2 h3
      rw [h1,h2] at ha
      rw [slice_g ha]
    · rfl
  case makeSlice t l c =>
    refine b1_g (o:=evX E.ng tm l) h (fun a ha=>b1_g (o:=evX E.ng tm c) ha (fun i hi=>?_))
    rw [make_g hi]
  case call c =>
    show (Option.rec none _ (evXs E.ng tm c.args.toList):Option RO)=Option.rec none _ (evXs E.ng tm c.args.toList)
    have h':(Option.rec true (fun args=>match c.callee with|.builtin b=>builtG E S b c.argTypes.toList args|_=>true) (evXs E.ng tm c.args.toList):Bool)=true:=h
    cases hx:evXs E.ng tm c.args.toList with
    | none=>rfl
    | some args =>
      rw [hx] at h'
      simp only at h' ⊢
      cases hc:c.callee with
      | builtin b =>
        rw [hc] at h'
        simp only at h' ⊢
        cases b <;> try rfl
        unfold builtR
        simp only
        unfold builtG at h'
        simp only at h'
        split
        · rename_i s t tl x y xl e1
          rw [e1] at h'
          simp only at h'
          rw [app_g h']
        · rfl
      | value f=>rfl
      | invoke r m=>rfl
noncomputable def rng (z:Int):Bool:=band (ile (Int.negSucc 9223372036854775807) z) (ile z (Int.ofNat 9223372036854775807))
theorem rng_wr {z:Int} (h:rng z=true):wr .i64 z=z:=by
  obtain ⟨h1,h2⟩:=band_eq.1 h
  rw [ile_eq] at h1 h2
  have h1:=of_decide_eq_true h1
  have h2:=of_decide_eq_true h2
  rw [wr_eq]
  refine wrap_of_range _ _ ?_ ?_
  · rw [show IntKind.i64.min=Int.negSucc 9223372036854775807 from by decide];exact h1
  · rw [show IntKind.i64.max=Int.ofNat 9223372036854775807 from by decide];exact h2
noncomputable def is64 (k:IntKind):Bool:=Nat.beq (kno k) 3
theorem is64_ok {k:IntKind} (h:is64 k=true):k=.i64:=by cases k <;> first|rfl|exact absurd h (by decide)
noncomputable def iBin (op:BinOp) (l:IntKind) (m n:Int):Option Int:=
  match op with
  | .add=>Bool.rec none (some (Int.add m n)) (is64 l)
  | .sub=>Bool.rec none (some (Int.sub m n)) (is64 l)
  | .mul=>Bool.rec none (some (Int.mul m n)) (is64 l)
  | .quo=>Bool.rec none (some (Int.tdiv m n)) (is64 l)
  | .rem=>Bool.rec none (some (Int.tmod m n)) (is64 l)
  | .shl=>some (Int.mul m (pow2 n .i64))
  | _=>none
noncomputable def gBin (op:BinOp) (m n:Int):Bool:=
  match op with
  | .add=>rng (Int.add m n)
  | .sub=>rng (Int.sub m n)
  | .mul=>rng (Int.mul m n)
  | .quo=>band (Bool.not (ieq n 0)) (rng (Int.tdiv m n))
  | .rem=>Bool.not (ieq n 0)
  | .shl=>band (Bool.not (ilt n 0)) (rng (Int.mul m (pow2 n .i64)))
  | _=>true
noncomputable def binV (op:BinOp) (a b:AV):Option AV:=
  match a with
  | .int k m=>(match b with|.int l n=>Bool.rec none (Option.rec none (fun z=>some (.int .i64 z)) (iBin op l m n)) (is64 k)|_=>none)
  | _=>none
noncomputable def binG (op:BinOp) (a b:AV):Bool:=
  match a with
  | .int k m=>(match b with|.int _ n=>Bool.rec true (gBin op m n) (is64 k)|_=>true)
  | _=>true
theorem not_t {b:Bool} (h:Bool.not b=true):b=false:=by cases b <;> first|rfl|cases h
theorem iBin_ok {op:BinOp} {l:IntKind} {m n z:Int} (h:iBin op l m n=some z) (hg:gBin op m n=true):intBin op .i64 m l n=some (.int .i64 z):=by
  cases op <;> simp only [iBin] at h <;> first
    | (cases h;done)
    | (obtain ⟨hl,h⟩:=rec_some h
       have:=is64_ok hl
       subst this
       cases h
       first
       | (show sameK .i64 .i64 (.int .i64 (wr .i64 _))=_
          rw [rng_wr hg];rfl)
       | (obtain ⟨h1,h2⟩:=band_eq.1 hg
          show (Bool.rec (sameK .i64 .i64 (.int .i64 (wr .i64 _))) none (ieq n 0):Option AV)=_
          rw [not_t h1,rng_wr h2];rfl)
       | (show (Bool.rec (sameK .i64 .i64 (.int .i64 _)) none (ieq n 0):Option AV)=_
          rw [not_t hg];rfl))
    | (cases h
       obtain ⟨h1,h2⟩:=band_eq.1 hg
       show (Bool.rec (some (.int .i64 (wr .i64 (Int.mul m (pow2 n .i64))))) none (ilt n 0):Option AV)=_
       rw [not_t h1,rng_wr h2])
theorem binV_ok {E:Env} {op:BinOp} {t:Nat} {x y:Operand} {a b r:AV} (h:binV op a b=some r) (hg:binG op a b=true):bin E op t x y a b=some r:=by
  unfold binV at h
  cases a <;> try (cases h;done)
  cases b <;> try (cases h;done)
  rename_i k m l n
  obtain ⟨h1,h2⟩:=rec_some (b:=is64 k) h
  have:=is64_ok h1
  subst this
  obtain ⟨z,h3,h4⟩:=recb_ok h2
  cases h4
  rw [bin_eq]
  exact iBin_ok h3 hg
noncomputable def negV (op:UnOp) (a:AV):Option AV:=match op with|.neg=>(match a with|.int k n=>Bool.rec none (some (.int .i64 (Int.sub 0 n))) (is64 k)|_=>none)|_=>none
noncomputable def negG (op:UnOp) (a:AV):Bool:=match op with|.neg=>(match a with|.int k n=>Bool.rec true (rng (Int.sub 0 n)) (is64 k)|_=>true)|_=>true
theorem negV_ok {op:UnOp} {a r:AV} (h:negV op a=some r) (hg:negG op a=true):un op a=some r:=by
  cases op <;> try (cases h;done)
  cases a <;> try (cases h;done)
  rename_i k n
  obtain ⟨h1,h2⟩:=rec_some (b:=is64 k) h
  have:=is64_ok h1
  subst this
  cases h2
  show some (AV.int .i64 (wr .i64 (Int.sub 0 n)))=_
  rw [rng_wr hg]
noncomputable def d64 (d:Option TypeDesc):Bool:=match d with|some (.int k)=>is64 k|_=>false
noncomputable def dInt (d:Option TypeDesc):Bool:=match d with|some (.int _)=>true|_=>false
noncomputable def convV (E:Env) (s d:Nat) (a:AV):Option AV:=match a with|.int _ n=>Bool.rec none (Bool.rec none (some (.int .i64 n)) (d64 (und E d))) (dInt (und E s))|_=>none
noncomputable def convG (E:Env) (s d:Nat) (a:AV):Bool:=match a with|.int _ n=>Bool.rec true (Bool.rec true (rng n) (d64 (und E d))) (dInt (und E s))|_=>true
theorem convV_ok {E:Env} {S:Hp} {s d:Nat} {a r:AV} (h:convV E s d a=some r) (hg:convG E s d a=true):conv3 E S s d a=some r:=by
  cases a <;> try (cases h;done)
  rename_i k n
  obtain ⟨h1,h2⟩:=rec_some (b:=dInt (und E s)) h
  obtain ⟨h3,h4⟩:=rec_some h2
  cases h4
  have hg':(Bool.rec true (Bool.rec true (rng n) (d64 (und E d))) (dInt (und E s)):Bool)=true:=hg
  rw [h1,h3] at hg'
  cases hs:und E s with
  | none=>rw [hs] at h1;cases h1
  | some S' =>
    cases S' <;> rw [hs] at h1 <;> try (cases h1;done)
    cases hd:und E d with
    | none=>rw [hd] at h3;cases h3
    | some D =>
      cases D <;> rw [hd] at h3 <;> try (cases h3;done)
      rename_i k2 k3
      have:=is64_ok h3
      subst this
      simp only [conv3,conv2,convA,convN,hs,hd,rng_wr hg']
      rfl
noncomputable def lookV (kd:TypeDesc) (k:AV) (z:Int) (es:List (AV × AV × Nat)):Option (Int × Bool):=
  List.rec (some (z,false)) (fun e _ ih=>match sameA kd k e.1 with
    | some b=>(match e.2.1 with
      | .int l v=>(match ih with|some p=>Bool.rec none (some (iite b v p.1,bite b true p.2)) (is64 l)|none=>none)
      | _=>none)
    | none=>none) es
noncomputable def lookI (E:Env) (S:Hp) (t:Nat) (x k:AV) (ok:Bool):Option AV:=
  match und E t with
  | some (.map kt et)=>(match und E kt,entriesA S x,zeroA E et with
      | some kd,some es,some (.int l z)=>Bool.rec none (Bool.rec none (match lookV kd k z es with|some p=>some (Bool.rec (.int .i64 p.1) (.tup [.int .i64 p.1,.bool p.2]) ok)|none=>none) (is64 l)) (simpleK kd)
      | _,_,_=>none)
  | _=>none
theorem lookV_ok {kd:TypeDesc} {k:AV} {z:Int}:∀ {es:List (AV × AV × Nat)} {V:Int} {B:Bool} (i:Nat),lookV kd k z es=some (V,B)→(findA kd k es i=some none∧V=z∧B=false)∨∃ j n,findA kd k es i=some (some (j,.int .i64 V,n))∧B=true
  | [],V,B,i,h=>by cases h;exact .inl ⟨rfl,rfl,rfl⟩
  | e :: es,V,B,i,h=>by
    have h':(match sameA kd k e.1 with
      | some b=>(match e.2.1 with
        | .int l v=>(match lookV kd k z es with|some p=>Bool.rec none (some (iite b v p.1,bite b true p.2)) (is64 l)|none=>none)
        | _=>none)
      | none=>none:Option (Int × Bool))=some (V,B):=h
    have hf:findA kd k (e::es) i=(match sameA kd k e.1 with|some true=>some (some (i,e.2.1,e.2.2))|some false=>findA kd k es (Nat.succ i)|none=>none):=rfl
    rw [hf]
    cases hs:sameA kd k e.1 with
    | none=>rw [hs] at h';cases h'
    | some b =>
      rw [hs] at h'
      simp only at h'
      split at h'
      · rename_i l v hv
        split at h'
        · rename_i p hp
          obtain ⟨h1,h2⟩:=rec_some h'
          have:=is64_ok h1
          subst this
          cases h2
          cases b with
          | true=>rw [hv];exact .inr ⟨_,_,rfl,rfl⟩
          | false=>exact lookV_ok (Nat.succ i) hp
        · cases h'
      · cases h'
theorem lookI_ok {E:Env} {S:Hp} {t:Nat} {x k r:AV} {ok:Bool} (h:lookI E S t x k ok=some r):lookupA E S t x k ok=some r:=by
  unfold lookI at h
  split at h
  · rename_i kt et hu
    split at h
    · rename_i kd es l z h1 h2 h3
      obtain ⟨g1,g2⟩:=rec_some h
      obtain ⟨g3,g4⟩:=rec_some g2
      have:=is64_ok g3
      subst this
      split at g4
      · rename_i p hp
        obtain ⟨V,B⟩:=p
        cases g4
        unfold lookupA
        rw [hu]
        simp only [h1,h2,g1]
        rcases lookV_ok 0 hp with ⟨e1,rfl,rfl⟩|⟨j,n,e1,rfl⟩
        · rw [e1];simp only [h3]
        · rw [e1]
      · cases g4
    · cases h
  · cases h
noncomputable def pickV (c a b:AV):Option AV:=
  match c with
  | .bool T=>(match a with
    | .int k x=>(match b with|.int l y=>Bool.rec none (some (.int k (iite T x y))) (Nat.beq (kno k) (kno l))|_=>none)
    | .bool x=>(match b with|.bool y=>some (.bool (bite T x y))|_=>none)
    | _=>none)
  | _=>none
noncomputable def evI (o:Op):Env→Tm→Hp→Option RO:=fun E tm S =>
  match o with
  | .binOp op _ x y _=>b1 (evX E.ng tm x) fun a=>b1 (evX E.ng tm y) fun b=>vS S (binV op a b)
  | .unOp op _ x=>b1 (evX E.ng tm x) fun a=>vS S (negV op a)
  | .convert s d x=>b1 (evX E.ng tm x) fun a=>vS S (convV E s d a)
  | .pick c a b=>b1 (evX E.ng tm c) fun c=>b1 (evX E.ng tm a) fun a=>b1 (evX E.ng tm b) fun b=>vS S (pickV c a b)
  | .lookup t x k ok=>b1 (evX E.ng tm x) fun x=>b1 (evX E.ng tm k) fun k=>vS S (lookI E S t x k ok)
  | _=>none
noncomputable def gdI (o:Op):Env→Tm→Bool:=fun E tm =>
  match o with
  | .binOp op _ x y _=>gb1 (evX E.ng tm x) fun a=>gb1 (evX E.ng tm y) fun b=>binG op a b
  | .unOp op _ x=>gb1 (evX E.ng tm x) fun a=>negG op a
  | .convert s d x=>gb1 (evX E.ng tm x) fun a=>convG E s d a
  | _=>true
theorem gb1_ok {o:Option AV} {f:AV→Bool} {x:AV} (h:gb1 o f=true) (hx:o=some x):f x=true:=by subst hx;exact h
theorem evI_g {o:Op} {E:Env} {tm:Tm} {S:Hp} {ty:Nat} {r:RO} (h:evI o E tm S=some r) (hg:gdI o E tm=true):evOp0 o E tm S ty=some r∧∀ opt,evR opt o E tm S=none:=by
  cases o <;> try (cases h;done)
  case binOp op t x y yt =>
    obtain ⟨a,h1,h2⟩:=b1_ok (o:=evX E.ng tm x) h
    obtain ⟨b,h3,h4⟩:=b1_ok h2
    obtain ⟨v,h5,rfl⟩:=vS_ok h4
    have hg1:=gb1_ok (gb1_ok (o:=evX E.ng tm x) hg h1) h3
    refine ⟨?_,fun opt=>?_⟩
    · show b1 (evX E.ng tm x) _=_
      rw [h1]
      show b1 (evX E.ng tm y) _=_
      rw [h3]
      show vS S (bin E op t x y a b)=_
      rw [binV_ok h5 hg1];rfl
    · show b1 (evX E.ng tm x) _=_
      rw [h1]
      show b1 (evX E.ng tm y) _=_
      rw [h3]
      show vS S (eqR E op t x y a b)=_
      have:eqR E op t x y a b=none:=by
        unfold binV at h5
        cases a <;> first|rfl|(cases h5;done)
      rw [this];rfl
  case unOp op t x =>
    obtain ⟨a,h1,h2⟩:=b1_ok (o:=evX E.ng tm x) h
    obtain ⟨v,h5,rfl⟩:=vS_ok h2
    have hg1:=gb1_ok (o:=evX E.ng tm x) hg h1
    refine ⟨?_,fun opt=>rfl⟩
    show b1 (evX E.ng tm x) _=_
    rw [h1]
    show vS S (un op a)=_
    rw [negV_ok h5 hg1];rfl
  case convert s d x =>
    obtain ⟨a,h1,h2⟩:=b1_ok (o:=evX E.ng tm x) h
    obtain ⟨v,h5,rfl⟩:=vS_ok h2
    have hg1:=gb1_ok (o:=evX E.ng tm x) hg h1
    refine ⟨?_,fun opt=>rfl⟩
    show b1 (evX E.ng tm x) _=_
    rw [h1]
    show vS S (conv3 E S s d a)=_
    rw [convV_ok h5 hg1];rfl
  case lookup t x k ok =>
    obtain ⟨a,h1,h2⟩:=b1_ok (o:=evX E.ng tm x) h
    obtain ⟨b,h3,h4⟩:=b1_ok h2
    obtain ⟨v,h5,rfl⟩:=vS_ok h4
    refine ⟨?_,fun opt=>rfl⟩
    show b1 (evX E.ng tm x) _=_
    rw [h1]
    show b1 (evX E.ng tm k) _=_
    rw [h3]
    show vS S (lookupA E S t a b ok)=_
    rw [lookI_ok h5];rfl
  case pick c a b =>
    obtain ⟨cv,h1,h2⟩:=b1_ok (o:=evX E.ng tm c) h
    obtain ⟨av,h3,h4⟩:=b1_ok h2
    obtain ⟨bv,h5,h6⟩:=b1_ok h4
    obtain ⟨v,h7,rfl⟩:=vS_ok h6
    refine ⟨?_,fun opt=>rfl⟩
    show b1 (evX E.ng tm c) _=_
    rw [h1]
    unfold pickV at h7
    cases cv <;> try (cases h7;done)
    rename_i T
    simp only at h7
    have key:v=Bool.rec bv av T:=by
      cases av <;> try (cases h7;done)
      · cases bv <;> try (cases h7;done)
        rename_i k m l n
        obtain ⟨g1,g2⟩:=rec_some (b:=Nat.beq (kno k) (kno l)) h7
        cases g2
        have:=kno_inj g1
        subst this
        cases T <;> rfl
      · cases bv <;> try (cases h7;done)
        cases h7
        cases T <;> rfl
    subst key
    cases T with
    | true=>show vS S (evX E.ng tm a)=_;rw [h3];rfl
    | false=>show vS S (evX E.ng tm b)=_;rw [h5];rfl
noncomputable def evA (opt:Bool) (o:Op):OpF:=fun E tm S t=>Option.rec (evOp0 o E tm S t) (fun r=>some r) (evR opt o E tm S)
noncomputable def evQ (o:Op):OpF:=fun E tm S t=>Option.rec (evA true o E tm S t) (fun r=>some r) (evI o E tm S)
noncomputable def gdOp (o:Op):Env→Tm→Hp→Bool:=fun E tm S=>band (gdR o E tm S) (gdI o E tm)
theorem ev_g {o:Op} {E:Env} {tm:Tm} {S:Hp} {t:Nat} (h:gdOp o E tm S=true):evA false o E tm S t=evQ o E tm S t:=by
  obtain ⟨h1,h2⟩:=band_eq.1 h
  unfold evQ
  cases hi:evI o E tm S with
  | none=>unfold evA;rw [evR_g h1]
  | some r =>
    obtain ⟨h3,h4⟩:=evI_g (ty:=t) hi h2
    unfold evA
    rw [h4 false,h3]
noncomputable def evOp (o:Op):OpF:=evA false o
noncomputable def evOpX (o:Op):OpF:=fun E tm S t=>Option.rec (evB o E tm S t) (fun r=>some r) (evOp o E tm S t)
section
variable {E:Env} (hE:E.Ok) {γ:Gm} {tm:Tm} {S:Hp} {fr:Frame} {w:World} (hT:TR γ tm fr.tmps) (hH:HR γ E.ng S w)
include hE hH in
theorem builtR_ok {b:Builtin} {ts:Array TypeId} {ty:TypeId} {consts:Array Bool} {args:List AV} {r:RO} (h:builtR false E S b ts.toList args=some r) {args':List Value} (ha:LR γ args args') :
    OpR E γ S w (builtin b ts ty consts ⟨args'⟩) r:=by
  have hts:∀ {t:Nat} {l:List Nat},ts.toList=t::l→ts[0]? = some t:=by
    intro t l e;rw [← Array.getElem?_toList,e];rfl
  have hts1:∀ {t u:Nat} {l:List Nat},ts.toList=t::u::l→ts[1]? = some u:=by
    intro t u l e;rw [← Array.getElem?_toList,e];rfl
  unfold builtR at h
  split at h
  · split at h
    · rename_i t tl x xl e1
      obtain ⟨y,h1,rfl⟩:=vS_ok h
      cases ha with
      | cons hx _ =>
        unfold lenR at h1
        split at h1
        · exact OpR.here hH (lenA_ok hE h1 hx.sa_su hH (hts e1) rfl)
        · cases h1
    · cases h
  · split at h
    · rename_i t u tl x y xl e1
      obtain ⟨z,S',h1,rfl⟩:=vP_ok h
      cases ha with
      | cons hx hl=>cases hl with
        | cons hy _=>exact (appR_ok hE h1 hx hy (hts e1) (hts1 e1) ty rfl rfl).opr hH
    · cases h
  · cases h
include hE hT hH in
theorem evR_ok {o:Oper} {r:RO} (h:evR false o.op E tm S=some r):OpR E γ S w (execOp fr.eval o) r:=by
  obtain ⟨dst,op,type,pos,after,guard⟩:=o
  have ev:=fun {x v} h=>ev_ok (E:=E) hT hH (x:=x) (v:=v) h
  cases op <;> try (cases h;done)
  case indexAddr t x i =>
    obtain ⟨a,h1,h2⟩:=b1_ok (o:=evX E.ng tm x) h
    obtain ⟨b,h3,h4⟩:=b1_ok h2
    obtain ⟨v,h5,rfl⟩:=vS_ok h4
    exact (iaddrR_ok hE h5 (ev h1) (ev h3)).opr hH
  case fieldAddr t x f =>
    obtain ⟨a,h1,h2⟩:=b1_ok (o:=evX E.ng tm x) h
    obtain ⟨v,h5,rfl⟩:=vS_ok h2
    exact (faddrR_ok hE h5 (ev h1)).opr hH
  case load t a =>
    obtain ⟨a',h1,h2⟩:=b1_ok (o:=evX E.ng tm a) h
    obtain ⟨v,h3,rfl⟩:=vS_ok h2
    exact OpR.here hH (loadR_ok hE hH h3 (ev h1))
  case store t a x =>
    obtain ⟨a',h1,h2⟩:=b1_ok (o:=evX E.ng tm a) h
    obtain ⟨x',h3,h4⟩:=b1_ok h2
    obtain ⟨S',h5,rfl⟩:=vU_ok h4
    exact (storeR_ok hE h5 (ev h1) (ev h3)).opr hH
  case slice t x lo hi mx =>
    obtain ⟨a,h1,h2⟩:=b1_ok (o:=evX E.ng tm x) h
    split at h2
    · rename_i lo' hi' mx' g1 g2 g3
      obtain ⟨v,h5,rfl⟩:=vS_ok h2
      exact OpR.here hH (sliceR_ok hE hH h5 (ev h1) (evO_ok hT hH g1) (evO_ok hT hH g2) (evO_ok hT hH g3))
    · cases h2
  case makeSlice t l c =>
    obtain ⟨a,h1,h2⟩:=b1_ok (o:=evX E.ng tm l) h
    obtain ⟨b,h3,h4⟩:=b1_ok h2
    obtain ⟨v,S',h5,rfl⟩:=vP_ok h4
    exact (makeR_ok hE h5 (ev h1) (ev h3)).opr hH
  case binOp op t x y yt =>
    obtain ⟨a,h1,h2⟩:=b1_ok (o:=evX E.ng tm x) h
    obtain ⟨b,h3,h4⟩:=b1_ok h2
    obtain ⟨v,h5,rfl⟩:=vS_ok h4
    unfold eqR at h5
    split at h5
    · exact (bin_ok hE h5 (ev h1).sa_su (ev h3)).opr hH
    · exact (bin_ok hE h5 (ev h1) (ev h3).sa_su).opr hH
    · cases h5
  case call c =>
    obtain ⟨args,h1,h2⟩:=recb_ok (o:=evXs E.ng tm c.args.toList) h
    have ha:=evs_ok hT hH h1
    have e1:c.args.map fr.eval=⟨c.args.toList.map fr.eval⟩:=amap _ _
    obtain ⟨callee,cargs,ats⟩:=c
    cases callee with
    | value f=>cases h2
    | invoke a n=>cases h2
    | builtin b =>
      show OpR E γ S w (do let d ← resolve fr.eval _ type;invoke d.target d.args) r
      simp only [resolve]
      rw [e1]
      simp only [pure_bind,invoke]
      exact builtR_ok hE hH h2 ha
include hE hT hH in
theorem evOp_ok {o:Oper} {r:RO} (h:evOp o.op E tm S o.type=some r):OpR E γ S w (execOp fr.eval o) r:=by
  have h':(Option.rec (evOp0 o.op E tm S o.type) (fun r=>some r) (evR false o.op E tm S):Option RO)=some r:=h
  cases he:evR false o.op E tm S with
  | none=>rw [he] at h';exact evOp0_ok hE hT hH h'
  | some r'=>rw [he] at h';cases h';exact evR_ok hE hT hH he
include hE hT hH in
theorem evOpX_ok {o:Oper} {r:RO} (h:evOpX o.op E tm S o.type=some r):OpR E γ S w (execOp fr.eval o) r:=by
  have h':(Option.rec (evB o.op E tm S o.type) (fun r=>some r) (evOp o.op E tm S o.type):Option RO)=some r:=h
  cases he:evOp o.op E tm S o.type with
  | none=>rw [he] at h';exact evB_ok hE hT hH h'
  | some r'=>rw [he] at h';cases h';exact evOp_ok hE hT hH he
end
section
variable {P:Program} {fr:Frame} {cs:List Frame} {w w':World} {k:List Item}
theorem s_op {ops:Array Oper} {i:Nat} {rest:List Nat} {o:Oper} (hm:fr.mode=.run) (ht:fr.todo=.inRegion ops (i::rest)::k) (ho:ops[i]? = some o) (hw:Region.wanted o (yielded ops fr.tmps)=true)
    (hd:fr.roundOf=none∨∀ c,o.op≠.defer c) :
    stepG P true { frame:=fr,callers:=cs,status:=.running,dying:=none } w=stepG.apply P true fr cs none (execOp fr.eval o) w:=by
  obtain ⟨fn,tmps,todo,defers,mode,kind,roundOf⟩:=fr
  simp only at hm ht hw hd
  subst hm ht
  simp only [stepG,stepG.exec,ho,Option.map_some,Option.getD_some,hw,if_true,stepG.oper,Frame.oper?]
  rcases hd with rfl|hd
  · rfl
  · cases roundOf with
    | none=>rfl
    | some l =>
      obtain ⟨dst,op,type,pos,after,guard⟩:=o
      cases op <;> first|rfl|exact absurd rfl (hd _)
theorem step_val {ops:Array Oper} {i:Nat} {rest:List Nat} {o:Oper} {v:Value} (hm:fr.mode=.run) (ht:fr.todo=.inRegion ops (i::rest)::k) (ho:ops[i]? = some o) (hw:Region.wanted o (yielded ops fr.tmps)=true)
    (hd:fr.roundOf=none∨∀ c,o.op≠.defer c) (hr:(execOp fr.eval o).run P w=.ok (.value v) w'∨((execOp fr.eval o).run P w=.ok .skip w'∧v=undef)) :
    step P (lone fr cs w)=.next (lone (fr.finish v) cs w'):=by
  refine step_lone_go ?_
  rw [s_op hm ht ho hw hd]
  rcases hr with hr|⟨hr,rfl⟩
  · simp [stepG.apply,Sem.runT_eq,hr]
  · simp [stepG.apply,Sem.runT_eq,hr]
theorem step_unwanted {ops:Array Oper} {i:Nat} {rest:List Nat} {o:Oper} (hm:fr.mode=.run) (ht:fr.todo=.inRegion ops (i::rest)::k) (ho:ops[i]? = some o) (hw:Region.wanted o (yielded ops fr.tmps)=false) :
    step P (lone fr cs w)=.next (lone (fr.finish undef) cs w):=by
  refine step_lone_go ?_
  obtain ⟨fn,tmps,todo,defers,mode,kind,roundOf⟩:=fr
  simp only at hm ht hw
  subst hm ht
  simp [stepG,stepG.exec,ho,hw]
theorem step_enter {ops:Array Oper} {i:Nat} {rest:List Nat} {o:Oper} {f:FuncId} {args:Array Value} (hm:fr.mode=.run) (ht:fr.todo=.inRegion ops (i::rest)::k) (ho:ops[i]? = some o) (hw:Region.wanted o (yielded ops fr.tmps)=true)
    (hd:fr.roundOf=none∨∀ c,o.op≠.defer c) (hr:(execOp fr.eval o).run P w=.ok (.enter f args) w') :
    step P (lone fr cs w)=.next (lone (Frame.enter P f args .normal) (fr::cs) w'):=by
  refine step_lone_go ?_
  rw [s_op hm ht ho hw hd]
  simp [stepG.apply,Sem.runT_eq,hr,ht]
theorem step_round {ops:Array Oper} {i:Nat} {rest:List Nat} {o:Oper} {l:Nat} {f:FuncId} {tmps:Array Value} {a b:Code} (hm:fr.mode=.run) (ht:fr.todo=.inRegion ops (i::rest)::k) (ho:ops[i]? = some o) (hw:Region.wanted o (yielded ops fr.tmps)=true)
    (hd:fr.roundOf=none∨∀ c,o.op≠.defer c) (hr:(execOp fr.eval o).run P w=.ok (.round l f tmps a b) w') :
    step P (lone fr cs w)=.next (lone (Frame.round l f tmps a b .normal) (fr::cs) w'):=by
  refine step_lone_go ?_
  rw [s_op hm ht ho hw hd]
  simp [stepG.apply,Sem.runT_eq,hr]
theorem step_defer {ops:Array Oper} {i:Nat} {rest:List Nat} {o:Oper} {d:Deferred} (hm:fr.mode=.run) (ht:fr.todo=.inRegion ops (i::rest)::k) (ho:ops[i]? = some o) (hw:Region.wanted o (yielded ops fr.tmps)=true)
    (hd:fr.roundOf=none) (hr:(execOp fr.eval o).run P w=.ok (.defer d) w') :
    step P (lone fr cs w)=.next (lone (({ fr with defers:=d::fr.defers }:Frame).finish undef) cs w'):=by
  refine step_lone_go ?_
  rw [s_op hm ht ho hw (.inl hd)]
  simp [stepG.apply,Sem.runT_eq,hr]
theorem step_panic {ops:Array Oper} {i:Nat} {rest:List Nat} {o:Oper} {v:Value} (hm:fr.mode=.run) (ht:fr.todo=.inRegion ops (i::rest)::k) (ho:ops[i]? = some o) (hw:Region.wanted o (yielded ops fr.tmps)=true)
    (hd:fr.roundOf=none∨∀ c,o.op≠.defer c) (hr:(execOp fr.eval o).run P w=.halt (.panic v) w') :
    step P (lone fr cs w)=.next (lone (fr.raise [{ v,recovered:=false }]) cs w'):=by
  refine step_lone_go ?_
  rw [s_op hm ht ho hw hd]
  simp [stepG.apply,Sem.runT_eq,hr]
theorem step_recover {ops:Array Oper} {i:Nat} {rest:List Nat} {o:Oper} (hm:fr.mode=.run) (ht:fr.todo=.inRegion ops (i::rest)::k) (ho:ops[i]? = some o) (hw:Region.wanted o (yielded ops fr.tmps)=true)
    (hd:fr.roundOf=none) (hr:(execOp fr.eval o).run P w=.ok .recover w') :
    step P (lone fr cs w)=.next (match tryRecover fr cs with|some (v,cs')=>lone (fr.finish v) cs' w'|none=>lone (fr.finish .nilIface) cs w'):=by
  cases ht2:tryRecover fr cs with
  | none =>
    refine step_lone_go ?_
    rw [s_op hm ht ho hw (.inl hd)]
    simp [stepG.apply,Sem.runT_eq,hr,hd,ht2]
  | some q =>
    obtain ⟨v,cs'⟩:=q
    refine step_lone_go ?_
    rw [s_op hm ht ho hw (.inl hd)]
    simp [stepG.apply,Sem.runT_eq,hr,hd,ht2]
theorem step_to {t t':List Item} (hm:fr.mode=.run) (ht:fr.todo=t) (h:∀ fn tmps defers kind roundOf,stepG.exec P true true { fn,tmps,todo:=t,defers,mode:=.run,kind,roundOf } cs none w =
      .go { frame:={ fn,tmps,todo:=t',defers,mode:=.run,kind,roundOf },callers:=cs,status:=.running,dying:=none } w) :
    step P (lone fr cs w)=.next (lone { fr with todo:=t' } cs w):=by
  obtain ⟨fn,tmps,todo,defers,mode,kind,roundOf⟩:=fr
  simp only at hm ht
  subst hm ht
  refine step_lone_go ?_
  simp [stepG,h]
theorem st_skip (hm:fr.mode=.run) (ht:fr.todo=.code .skip::k):step P (lone fr cs w)=.next (lone { fr with todo:=k } cs w):=step_to hm ht (fun _ _ _ _ _=>by simp [stepG.exec])
theorem st_label {l:Nat} (hm:fr.mode=.run) (ht:fr.todo=.code (.label l)::k):step P (lone fr cs w)=.next (lone { fr with todo:=k } cs w):=step_to hm ht (fun _ _ _ _ _=>by simp [stepG.exec])
theorem st_inBlock {l:Nat} (hm:fr.mode=.run) (ht:fr.todo=.inBlock l::k):step P (lone fr cs w)=.next (lone { fr with todo:=k } cs w):=step_to hm ht (fun _ _ _ _ _=>by simp [stepG.exec])
theorem st_inScope {c:Code} (hm:fr.mode=.run) (ht:fr.todo=.inScope c::k):step P (lone fr cs w)=.next (lone { fr with todo:=k } cs w):=step_to hm ht (fun _ _ _ _ _=>by simp [stepG.exec])
theorem st_seq {a b:Code} (hm:fr.mode=.run) (ht:fr.todo=.code (.seq a b)::k):step P (lone fr cs w)=.next (lone { fr with todo:=.code a::.code b::k } cs w):=step_to hm ht (fun _ _ _ _ _=>by simp [stepG.exec])
theorem st_block {id:Nat} {b:Code} (hm:fr.mode=.run) (ht:fr.todo=.code (.block id b)::k):step P (lone fr cs w)=.next (lone { fr with todo:=.code b::.inBlock id::k } cs w):=step_to hm ht (fun _ _ _ _ _=>by simp [stepG.exec])
theorem st_loop {b:Code} (hm:fr.mode=.run) (ht:fr.todo=.code (.loop b)::k):step P (lone fr cs w)=.next (lone { fr with todo:=.code b::.inLoop b::k } cs w):=step_to hm ht (fun _ _ _ _ _=>by simp [stepG.exec])
theorem st_inLoop {b:Code} (hm:fr.mode=.run) (ht:fr.todo=.inLoop b::k):step P (lone fr cs w)=.next (lone { fr with todo:=.code b::.inLoop b::k } cs w):=step_to hm ht (fun _ _ _ _ _=>by simp [stepG.exec])
theorem st_scope {b:Code} (hm:fr.mode=.run) (ht:fr.todo=.code (.scope b)::k):step P (lone fr cs w)=.next (lone { fr with todo:=.code b::.inScope b::k } cs w):=step_to hm ht (fun _ _ _ _ _=>by simp [stepG.exec])
theorem st_exit {id:Nat} {k':List Item} (hm:fr.mode=.run) (ht:fr.todo=.code (.exit id)::k) (h:exitTo id k=some k'):step P (lone fr cs w)=.next (lone { fr with todo:=k' } cs w):=step_to hm ht (fun _ _ _ _ _=>by simp [stepG.exec,h])
theorem st_region {id:Nat} {ops:Array Oper} (hm:fr.mode=.run) (ht:fr.todo=.code (.region id ops false)::k):step P (lone fr cs w)=.next (lone { fr with todo:=.inRegion ops (List.range ops.size)::k } cs w):=step_to hm ht (fun _ _ _ _ _=>by simp [stepG.exec])
theorem st_regionEnd {ops:Array Oper} (hm:fr.mode=.run) (ht:fr.todo=.inRegion ops []::k):step P (lone fr cs w)=.next (lone { fr with todo:=k } cs w):=step_to hm ht (fun _ _ _ _ _=>by simp [stepG.exec])
theorem st_cond {c:Operand} {a b:Code} {t:Bool} (hm:fr.mode=.run) (ht:fr.todo=.code (.cond c a b)::k) (hc:fr.eval c=.bool t):step P (lone fr cs w)=.next (lone { fr with todo:=.code (if t then a else b)::k } cs w):=by
  obtain ⟨fn,tmps,todo,defers,mode,kind,roundOf⟩:=fr
  simp only at hm ht
  subst hm ht
  refine step_lone_go ?_
  simp [stepG,stepG.exec,hc]
theorem st_draw {id:Nat} {ops:Array Oper} (hm:fr.mode=.run) (ht:fr.todo=.code (.region id ops true)::k) :
    step P (lone fr cs w)=.next (lone { fr with todo:=.inRegion ops (Region.schedule (P.follows .mixedOrders) ops (w.tape w.drawn (.order fr.fn id)))::k } cs { w with drawn:=w.drawn+1 }):=by
  obtain ⟨fn,tmps,todo,defers,mode,kind,roundOf⟩:=fr
  simp only at hm ht
  subst hm ht
  refine step_lone_go ?_
  simp [stepG,stepG.exec,choose,Sem.run,Question.forced,Question.cut]
theorem st_ret (hm:fr.mode=.run) (ht:fr.todo = []∨fr.todo=.code .ret::k) (hr:fr.roundOf=none):step P (lone fr cs w)=.next (lone { fr with mode:=.returning } cs w):=by
  obtain ⟨fn,tmps,todo,defers,mode,kind,roundOf⟩:=fr
  simp only at hm ht hr
  subst hm hr
  refine step_lone_go ?_
  rcases ht with rfl|rfl <;> simp [stepG,stepG.exec]
theorem st_take {b:Nat} {ds:List Deferred} (hm:fr.mode=.returning∨∃ c,fr.mode=.panicking c) (hd:fr.defers={ target:=.collected b,args:=#[] }::ds) (hb:w.heap[b]? = some (.deferred (some []))) :
    step P (lone fr cs w)=.next (lone { fr with defers:=ds } cs { w with heap:=w.heap.setIfInBounds b (.deferred none) }):=by
  obtain ⟨fn,tmps,todo,defers,mode,kind,roundOf⟩:=fr
  simp only at hm hd
  subst hd
  refine step_lone_go ?_
  have h1:(Instr.takeDeferred b).run P w=.ok [] { w with heap:=w.heap.setIfInBounds b (.deferred none) }:=by
    simp only [Instr.takeDeferred,Sem.run_bind,run_getObj hb (fun _ _ _ e=>by cases e),Result.andThen_ok]
    simp only [Go.setObj,Sem.run,hb,Result.andThen_ok,Sem.run_pure]
  rcases hm with rfl|⟨c,rfl⟩
  · simp [stepG,unwind,Sem.runT_eq,h1]
  · simp [stepG,unwind,Sem.runT_eq,h1]
theorem st_deferred {f:FuncId} {cap args:Array Value} {ds:List Deferred} (hm:fr.mode=.returning∨∃ c,fr.mode=.panicking c) (hd:fr.defers={ target:=.fn (.func f) cap,args:=args }::ds)
    (hr:∀ w,(callFunc f (args++cap)).run P w=.ok (.enter f (args++cap)) w) :
    step P (lone fr cs w)=.next (lone (Frame.enter P f (args++cap) .deferred) ({ fr with defers:=ds }::cs) w):=by
  obtain ⟨fn,tmps,todo,defers,mode,kind,roundOf⟩:=fr
  simp only at hm hd
  subst hd
  refine step_lone_go ?_
  rcases hm with rfl|⟨c,rfl⟩
  · simp [stepG,unwind,callDeferred,invoke,Sem.runT_eq,hr]
  · simp [stepG,unwind,callDeferred,invoke,Sem.runT_eq,hr]
theorem st_return {c:Frame} {fn:Func} {v:Value} (hm:fr.mode=.returning) (hd:fr.defers = []) (hf:P.funcs[fr.fn]? = some fn) (hk:fr.kind=.normal) (hr:(results fn fr.tmps).run P w=.ok v w) :
    step P (lone fr (c::cs) w)=.next (lone (c.finish v) cs w):=by
  refine step_lone_go ?_
  obtain ⟨fn',tmps,todo,defers,mode,kind,roundOf⟩:=fr
  simp only at hm hd hf hk hr
  subst hm hd hk
  simp [stepG,unwind,doReturn,hf,Sem.runT_eq,hr]
theorem st_returnD {c:Frame} {fn:Func} {v:Value} (hm:fr.mode=.returning) (hd:fr.defers = []) (hf:P.funcs[fr.fn]? = some fn) (hk:fr.kind=.deferred) (hr:(results fn fr.tmps).run P w=.ok v w) :
    step P (lone fr (c::cs) w)=.next (lone (match c.mode with
        | .panicking ({ recovered:=true,.. }::older)=>(match older.dropWhile (!·.goexit) with
          | []=>{ c with mode:=.returning }
          | rest=>{ c with mode:=.panicking rest })
        | _=>c) cs w):=by
  refine step_lone_go ?_
  obtain ⟨fn',tmps,todo,defers,mode,kind,roundOf⟩:=fr
  simp only at hm hd hf hk hr
  subst hm hd hk
  simp [stepG,unwind,doReturn,hf,Sem.runT_eq,hr]
  rfl
theorem st_raise {c:Frame} {ch:List PanicEntry} {fn:Func} (hm:fr.mode=.panicking ch) (hd:fr.defers = []) (hf:P.funcs[fr.fn]? = some fn):step P (lone fr (c::cs) w)=.next (lone (c.raise ch) cs w):=by
  refine step_lone_go ?_
  obtain ⟨fn',tmps,todo,defers,mode,kind,roundOf⟩:=fr
  simp only at hm hd hf
  subst hm hd
  simp [stepG,unwind,Frame.catches,hf]
theorem st_rangeFunc {f:Operand} {ps:Array Tmp} {a b:Code} {l:Nat} {mark:List Deferred} {w1:World} {g:FuncId} {args:Array Value} (hm:fr.mode=.run) (ht:fr.todo=.code (.rangeFunc f ps a b)::k)
    (he:(Instr.enterLoop fr.fn fr.tmps ps a b fr.roundOf).run P w=.ok (l,mark) w1)
    (hr:(do let d ← Deferred.ofValue (fr.eval f) #[.func (.yield l) #[] #[]];invoke d.target d.args:Sem Next).run P w1=.ok (.enter g args) w') :
    step P (lone fr cs w)=.next (lone (Frame.enter P g args .normal) ({ fr with todo:=.inRangeFunc l::k,defers:=mark++fr.defers }::cs) w'):=by
  refine step_lone_go ?_
  obtain ⟨fn,tmps,todo,defers,mode,kind,roundOf⟩:=fr
  simp only at hm ht he hr
  subst hm ht
  have h2:∀ (x:Operand),Frame.eval { fn,tmps,todo:=.inRangeFunc l::k,defers:=mark++defers,mode:=.run,kind,roundOf } x=Frame.eval { fn,tmps,todo:=.code (.rangeFunc f ps a b)::k,defers,mode:=.run,kind,roundOf } x:=by
    intro x;cases x <;> rfl
  have h3:(do let d ← resolve (Frame.eval { fn,tmps,todo:=.inRangeFunc l::k,defers:=mark++defers,mode:=.run,kind,roundOf }) { callee:=.value f,args:=#[.const (.func (.yield l) #[] #[])],argTypes:=#[] } 0;invoke d.target d.args:Sem Next).run P w1=.ok (.enter g args) w':=by
    rw [← hr]
    simp only [resolve,h2,List.map_toArray,List.map_cons,List.map_nil]
    rfl
  simp [stepG,stepG.exec,Sem.runT_eq,he,stepG.apply,h3]
theorem st_begin {l:Nat} {r:Loop} (hm:fr.mode=.run) (ht:fr.todo=.beginRound::k) (hl:fr.roundOf=some l) (hb:w.heap[l]? = some (.loop r)) (hs:r.state=.ready) :
    step P (lone fr cs w)=.next (lone { fr with todo:=k } cs { w with heap:=w.heap.setIfInBounds l (.loop { r with state:=.busy }) }):=by
  refine step_lone_go ?_
  obtain ⟨fn,tmps,todo,defers,mode,kind,roundOf⟩:=fr
  simp only at hm ht hl
  subst hm ht hl
  have h1:(Instr.beginRound l).run P w=.ok () { w with heap:=w.heap.setIfInBounds l (.loop { r with state:=.busy }) }:=by
    simp only [Instr.beginRound,Instr.getLoop,Sem.run_bind,run_getObj hb (fun _ _ _ e=>by cases e),Result.andThen_ok,Sem.run_pure]
    simp only [Go.setObj,Sem.run,hb,Result.andThen_ok,hs,Sem.run_pure]
  simp [stepG,stepG.exec,stepG.apply,Sem.runT_eq,h1,Frame.finish]
theorem run_endRound {l:Nat} {r:Loop} {jump:Option Code} (hb:w.heap[l]? = some (.loop r)) :
    (Instr.endRound l jump).run P w=.ok (.bool jump.isNone) { w with heap:=w.heap.setIfInBounds l (.loop { r with state:=if jump.isNone then .ready else .done,pending:=jump }) }:=by
  simp only [Instr.endRound,Instr.getLoop,Sem.run_bind,run_getObj hb (fun _ _ _ e=>by cases e),Result.andThen_ok,Sem.run_pure]
  simp only [Go.setObj,Sem.run,hb,Result.andThen_ok]
theorem st_endRound {c:Frame} {l:Nat} {r:Loop} {jump:Option Code} (hm:fr.mode=.run) (ht:(fr.todo = []∧jump=none)∨(fr.todo=.code .ret::k∧jump=some .ret)∨(∃ id,fr.todo=.code (.exit id)::k∧exitTo id k=none∧jump=some (.exit id)))
    (hl:fr.roundOf=some l) (hk:fr.kind=.normal) (hb:w.heap[l]? = some (.loop r)) :
    step P (lone fr (c::cs) w)=.next (lone (c.finish (.bool jump.isNone)) cs { w with heap:=w.heap.setIfInBounds l (.loop { r with state:=if jump.isNone then .ready else .done,pending:=jump }) }):=by
  refine step_lone_go ?_
  have h1:=run_endRound (P:=P) (jump:=jump) hb
  obtain ⟨fn,tmps,todo,defers,mode,kind,roundOf⟩:=fr
  simp only at hm ht hl hk
  subst hm hl hk
  rcases ht with ⟨rfl,rfl⟩|⟨rfl,rfl⟩|⟨id,rfl,h2,rfl⟩
  · simp [stepG,stepG.exec,Sem.runT_eq,h1,doReturn]
  · simp [stepG,stepG.exec,Sem.runT_eq,h1,doReturn]
  · simp [stepG,stepG.exec,Sem.runT_eq,h1,doReturn,h2]
theorem st_endLoop {l:Nat} {r:Loop} (hm:fr.mode=.run) (ht:fr.todo=.endRangeFunc l::k) (hb:w.heap[l]? = some (.loop r)) (hs:r.state≠.busy) :
    step P (lone fr cs w)=.next (lone { fr with todo:=(r.pending.map Item.code).toList++k } cs { w with heap:=w.heap.setIfInBounds l (.loop { r with state:=.exhausted }) }):=by
  refine step_lone_go ?_
  obtain ⟨fn,tmps,todo,defers,mode,kind,roundOf⟩:=fr
  simp only at hm ht
  subst hm ht
  have h1:(Instr.endLoop l).run P w=.ok r.pending { w with heap:=w.heap.setIfInBounds l (.loop { r with state:=.exhausted }) }:=by
    have h2:(r.state == LoopState.busy)=false:=by
      cases h:r.state <;> first|rfl|exact absurd h hs
    simp only [Instr.endLoop,Instr.getLoop,Sem.run_bind,run_getObj hb (fun _ _ _ e=>by cases e),Result.andThen_ok,Sem.run_pure,h2,Bool.false_eq_true,if_false]
    simp only [Go.setObj,Sem.run,hb,Result.andThen_ok]
  simp [stepG,stepG.exec,Sem.runT_eq,h1]
end
inductive AI where
  | code (c:Code)
  | blk (id:Nat)
  | lop (c:Code)
  | scp (c:Code)
  | reg (ops:Array Oper) (i:Nat) (rest:List Oper)
  | inRF (l:Ps)
  | endRF (l:Ps)
  | beg
inductive AMd where
  | run
  | ret
  | pan (v:AV) (rec:Bool)
structure AF where
  fn:Nat
  nt:Nat
  tm:Tm
  todo:List AI
  dfs:List AD
  md:AMd
  lost:Bool
  dk:Bool
  rd:Option Ps
inductive SR where
  | next (f:AF) (cs:List AF) (S:Hp)
  | fin (v:AV) (S:Hp)
  | finP (v:AV) (S:Hp)
  | bad
noncomputable def exitA (id:Nat) (l:List AI):Option (List AI):=
  List.rec none (fun x k ih=>match x with|.blk j=>Bool.rec ih (some k) (Nat.beq j id)|_=>ih) l
noncomputable def putD (nt:Nat) (d:Option Nat) (v:AV) (tm:Tm):Option (Tm):=
  Option.rec (some tm) (fun d=>Bool.rec none (some (tset d v tm)) (Nat.blt d nt)) d
abbrev FF:=Nat→Nat→Tm→List AD→AMd→Bool→Bool→Option Ps→AV→Option AF
noncomputable def fNo:FF:=fun _ _ _ _ _ _ _ _ _=>none
noncomputable def fNoK:List AI→FF:=fun _=>fNo
noncomputable def fReg (ops:Array Oper) (i:Nat) (rest:List Oper):List AI→FF:=fun k fn nt tm dfs md lost dk rd v =>
  List.rec none (fun o rest' _=>Option.rec none (fun tm'=>some ⟨fn,nt,tm',.reg ops (Nat.succ i) rest'::k,dfs,md,lost,dk,rd⟩) (putD nt o.dst v tm)) rest
noncomputable def fInRF (l:Ps):List AI→FF:=fun k fn nt tm dfs md lost dk rd _=>some ⟨fn,nt,tm,.endRF l::k,dfs,md,lost,dk,rd⟩
noncomputable def finishA (f:AF) (v:AV):Option AF:=
  AF.rec (motive:=fun _=>AV→Option AF) (fun fn nt tm todo dfs md lost dk rd v =>
    List.rec (motive:=fun _=>FF) fNo (fun x k _=>AI.rec (motive:=fun _=>List AI→FF) (fun _=>fNoK) (fun _=>fNoK) (fun _=>fNoK) (fun _=>fNoK) fReg fInRF (fun _=>fNoK) fNoK x k) todo fn nt tm dfs md lost dk rd v) f v
noncomputable def finishA0 (f:AF) (v:AV):Option AF:=
  match f with
  | ⟨fn,nt,tm,todo,dfs,md,lost,dk,rd⟩=>match todo with
    | .reg ops i (o::rest)::k=>(match putD nt o.dst v tm with|some tm'=>some ⟨fn,nt,tm',.reg ops (Nat.succ i) rest::k,dfs,md,lost,dk,rd⟩|none=>none)
    | .inRF l::k=>some ⟨fn,nt,tm,.endRF l::k,dfs,md,lost,dk,rd⟩
    | _=>none
theorem finishA_eq (f:AF) (v:AV):finishA f v=finishA0 f v:=by
  obtain ⟨fn,nt,tm,todo,dfs,md,lost,dk,rd⟩:=f
  unfold finishA0
  cases todo with
  | nil=>rfl
  | cons x k =>
    cases x with
    | reg ops i rest =>
      cases rest with
      | nil=>rfl
      | cons o rest =>
        show (Option.rec none (fun tm'=>some ⟨fn,nt,tm',.reg ops (Nat.succ i) rest::k,dfs,md,lost,dk,rd⟩) (putD nt o.dst v tm):Option AF)=_
        simp only
        cases putD nt o.dst v tm <;> rfl
    | _=>rfl
noncomputable def isRun (m:AMd):Bool:=match m with|.run=>true|_=>false
noncomputable def backA (v:AV) (cs:List AF) (S:Hp):SR:=
  List.rec (.fin v S) (fun c cs _=>Bool.rec .bad (Bool.rec (Option.rec .bad (fun c'=>.next c' cs S) (finishA c v)) .bad c.lost) (isRun c.md)) cs
noncomputable def backA0 (v:AV) (cs:List AF) (S:Hp):SR:=
  match cs with
  | []=>.fin v S
  | c::cs=>(match isRun c.md,c.lost,finishA c v with|true,false,some c'=>.next c' cs S|_,_,_=>.bad)
theorem backA_eq (v:AV) (cs:List AF) (S:Hp):backA v cs S=backA0 v cs S:=by
  cases cs with
  | nil=>rfl
  | cons c cs =>
    unfold backA backA0
    simp only
    cases isRun c.md <;> cases c.lost <;> cases finishA c v <;> rfl
noncomputable def wantG (nt:Nat) (ops:Array Oper) (tm:Tm) (g:Nat × Bool):Option Bool:=
  Prod.rec (fun j want=>Option.rec none (fun oj=>Option.rec none (fun d=>Bool.rec none (Option.rec (Bool.rec none (some false) (notAny (tget tm d))) (fun b=>some (b == want)) (boolOf (tget tm d))) (Nat.blt d nt)) oj.dst) (nth ops.toList j)) g
noncomputable def wantA (nt:Nat) (ops:Array Oper) (tm:Tm) (o:Oper):Option Bool:=Option.rec (some true) (fun g=>wantG nt ops tm g) o.guard
noncomputable def wantA0 (nt:Nat) (ops:Array Oper) (tm:Tm) (o:Oper):Option Bool:=
  match o.guard with
  | none=>some true
  | some (j,want)=>(match nth ops.toList j with
    | some oj=>(match oj.dst with
      | some d=>Bool.rec none (match tget tm d with|.bool b=>some (b == want)|.any=>none|_=>some false) (Nat.blt d nt)
      | none=>none)
    | none=>none)
theorem wantA_eq (nt:Nat) (ops:Array Oper) (tm:Tm) (o:Oper):wantA nt ops tm o=wantA0 nt ops tm o:=by
  unfold wantA wantA0
  cases o.guard with
  | none=>rfl
  | some g =>
    obtain ⟨j,want⟩:=g
    show wantG nt ops tm (j,want)=_
    unfold wantG
    simp only
    cases nth ops.toList j with
    | none=>rfl
    | some oj =>
      simp only
      cases oj.dst with
      | none=>rfl
      | some d =>
        simp only
        cases Nat.blt d nt with
        | false=>rfl
        | true=>simp only;cases tget tm d <;> rfl
inductive RS where
  | done (tm:Tm) (S:Hp)
  | stop (tm:Tm) (S:Hp) (i:Nat) (rest:List Oper) (r:RO)
  | bad
noncomputable def roV (r:RO):Option (AV × Hp):=RO.rec (fun x S=>some (x,S)) (fun _ _=>none) (fun _ _=>none) (fun _=>none) (fun _=>none) none r
noncomputable def goOn (nt:Nat) (d:Option Nat) (i:Nat) (tm:Tm) (go:Nat→Tm→Hp→RS) (x:AV) (S:Hp):RS:=Option.rec .bad (fun tm'=>go (Nat.succ i) tm' S) (putD nt d x tm)
noncomputable def opRes (nt:Nat) (o:Oper) (rest:List Oper) (i:Nat) (tm:Tm) (S:Hp) (go:Nat→Tm→Hp→RS) (r:RO):RS:=
  Option.rec (.stop tm S i (o::rest) r) (fun p=>Prod.rec (fun x S'=>goOn nt o.dst i tm go x S') p) (roV r)
noncomputable def runOp (E:Env) (nt:Nat) (ops:Array Oper) (o:Oper) (rest:List Oper) (i:Nat) (tm:Tm) (S:Hp) (go:Nat→Tm→Hp→RS):RS:=
  Option.rec .bad (fun w=>Bool.rec (goOn nt o.dst i tm go (.tup []) S) (Option.rec .bad (fun r=>opRes nt o rest i tm S go r) (evOpX o.op E tm S o.type)) w) (wantA nt ops tm o)
noncomputable def runOp0 (E:Env) (nt:Nat) (ops:Array Oper) (o:Oper) (rest:List Oper) (i:Nat) (tm:Tm) (S:Hp) (go:Nat→Tm→Hp→RS):RS:=
  match wantA nt ops tm o with
  | none=>.bad
  | some false=>(match putD nt o.dst (.tup []) tm with|some tm'=>go (Nat.succ i) tm' S|none=>.bad)
  | some true=>(match evOpX o.op E tm S o.type with
    | none=>.bad
    | some (.v x S')=>(match putD nt o.dst x tm with|some tm'=>go (Nat.succ i) tm' S'|none=>.bad)
    | some r=>.stop tm S i (o::rest) r)
theorem goOn_eq (nt:Nat) (d:Option Nat) (i:Nat) (tm:Tm) (go:Nat→Tm→Hp→RS) (x:AV) (S:Hp):goOn nt d i tm go x S=(match putD nt d x tm with|some tm'=>go (Nat.succ i) tm' S|none=>.bad):=by
  unfold goOn;cases putD nt d x tm <;> rfl
theorem runOp_eq (E:Env) (nt:Nat) (ops:Array Oper) (o:Oper) (rest:List Oper) (i:Nat) (tm:Tm) (S:Hp) (go:Nat→Tm→Hp→RS):runOp E nt ops o rest i tm S go=runOp0 E nt ops o rest i tm S go:=by
  unfold runOp runOp0
  cases wantA nt ops tm o with
  | none=>rfl
  | some b =>
    cases b with
    | false=>exact goOn_eq ..
    | true =>
      simp only
      cases evOpX o.op E tm S o.type with
      | none=>rfl
      | some r =>
        cases r with
        | v x S'=>exact goOn_eq ..
        | _=>rfl
noncomputable def runOps (E:Env) (nt:Nat) (ops:Array Oper) (l:List Oper):Nat→Tm→Hp→RS:=
  List.rec (motive:=fun _=>Nat→Tm→Hp→RS) (fun _ tm S=>.done tm S) (fun o rest ih i tm S=>runOp E nt ops o rest i tm S ih) l
noncomputable def argT (l:List AV):Nat→Tm→Tm:=
  List.rec (motive:=fun _=>Nat→Tm→Tm) (fun _ t=>t) (fun v _ ih i t=>ih (Nat.succ i) (tset i v t)) l
noncomputable def enterA (E:Env) (f:Nat) (args:List AV) (dk:Bool):Option AF:=
  match T.get (Ps.of f) E.funcs with
  | some (some i)=>Bool.rec none (some ⟨f,i.nt,argT args 0 te,[.code i.code],[],.run,false,dk,none⟩) (Nat.ble (llen args) i.nt)
  | _=>none
noncomputable def parT (nt:Nat) (ps:List Nat):List AV→Tm→Option (Tm):=
  List.rec (motive:=fun _=>List AV→Tm→Option (Tm)) (fun l t=>match l with|[]=>some t|_=>none)
    (fun p _ ih l t=>match l with|v::l=>Bool.rec none (ih l (tset p v t)) (Nat.blt p nt)|[]=>none) ps
noncomputable def roundA (E:Env) (S:Hp) (l:Ps) (args:List AV):Option AF:=
  match T.get l S.hp with
  | some (.loop _ _ fn nt tm ps a b _)=>(match parT nt ps args tm,T.get (Ps.of fn) E.funcs with|some tm',some (some _)=>some ⟨fn,nt,tm',[.code a,.beg,.code b],[],.run,false,false,some l⟩|_,_=>none)
  | _=>none
noncomputable def pushA (f:Option AF) (c:AF) (cs:List AF) (S:Hp):SR:=Option.rec .bad (fun f=>.next f (c::cs) S) f
noncomputable def recA (dk:Bool) (cs:List AF):Option (AV × List AF):=
  match dk with
  | false=>some (.nili,cs)
  | true=>(match cs with
    | []=>none
    | ⟨fn,nt,tm,todo,dfs,md,lost,dk,rd⟩::cs=>(match md with
      | .pan v false=>some (v,⟨fn,nt,tm,todo,dfs,.pan v true,lost,dk,rd⟩::cs)
      | _=>some (.nili,⟨fn,nt,tm,todo,dfs,md,lost,dk,rd⟩::cs)))
noncomputable def nextO (f:Option AF) (cs:List AF) (S:Hp):SR:=Option.rec .bad (fun f=>.next f cs S) f
abbrev SF:=Env→Nat→Nat→Tm→List AI→List AD→Bool→Option Ps→List AF→Hp→SR
abbrev SG:=Array Oper→Env→Nat→Nat→Tm→Hp→Nat→List Oper→List AI→List AD→Bool→Option Ps→List AF→SR
noncomputable def gCall (f:Nat) (args:List AV):SG:=fun ops E fn nt tm S i rest k dfs dk rd cs=>pushA (enterA E f args false) ⟨fn,nt,tm,.reg ops i rest::k,dfs,.run,false,dk,rd⟩ cs S
noncomputable def gYld (l:Ps) (args:List AV):SG:=fun ops E fn nt tm S i rest k dfs dk rd cs=>pushA (roundA E S l args) ⟨fn,nt,tm,.reg ops i rest::k,dfs,.run,false,dk,rd⟩ cs S
noncomputable def gDfr (d:AD):SG:=fun ops _ fn nt tm S i rest k dfs dk rd cs=>Option.rec (nextO (finishA ⟨fn,nt,tm,.reg ops i rest::k,d::dfs,.run,false,dk,rd⟩ (.tup [])) cs S) (fun _=>.bad) rd
noncomputable def gPan (v:AV):SG:=fun _ _ fn nt tm S _ _ _ dfs dk rd cs=>.next ⟨fn,nt,tm,[],dfs,.pan v false,false,dk,rd⟩ cs S
noncomputable def gRcv:SG:=fun ops _ fn nt tm S i rest k dfs dk rd cs =>
  (match rd,recA dk cs with|none,some (v,cs')=>nextO (finishA ⟨fn,nt,tm,.reg ops i rest::k,dfs,.run,false,dk,rd⟩ v) cs' S|_,_=>.bad)
noncomputable def gV (_:AV) (_:Hp):SG:=fun _ _ _ _ _ _ _ _ _ _ _ _ _=>.bad
noncomputable def afterOps (ops:Array Oper) (r:RS):SF:=fun E fn nt _ k dfs dk rd cs _ =>
  RS.rec (fun tm S=>.next ⟨fn,nt,tm,k,dfs,.run,false,dk,rd⟩ cs S)
    (fun tm S i rest ro=>RO.rec (motive:=fun _=>SG) gV gCall gYld gDfr gPan gRcv ro ops E fn nt tm S i rest k dfs dk rd cs) .bad r
noncomputable def afterOps0 (ops:Array Oper) (r:RS):SF:=fun E fn nt _ k dfs dk rd cs _ =>
  match r with
  | .done tm S=>.next ⟨fn,nt,tm,k,dfs,.run,false,dk,rd⟩ cs S
  | .bad=>.bad
  | .stop tm S i rest ro=>(match ro with
    | .call f args=>pushA (enterA E f args false) ⟨fn,nt,tm,.reg ops i rest::k,dfs,.run,false,dk,rd⟩ cs S
    | .yld l args=>pushA (roundA E S l args) ⟨fn,nt,tm,.reg ops i rest::k,dfs,.run,false,dk,rd⟩ cs S
    | .dfr d=>(match rd with|none=>nextO (finishA ⟨fn,nt,tm,.reg ops i rest::k,d::dfs,.run,false,dk,rd⟩ (.tup [])) cs S|some _=>.bad)
    | .pan v=>.next ⟨fn,nt,tm,[],dfs,.pan v false,false,dk,rd⟩ cs S
    | .rcv=>(match rd,recA dk cs with|none,some (v,cs')=>nextO (finishA ⟨fn,nt,tm,.reg ops i rest::k,dfs,.run,false,dk,rd⟩ v) cs' S|_,_=>.bad)
    | .v _ _=>.bad)
theorem afterOps_eq (ops:Array Oper) (r:RS):afterOps ops r=afterOps0 ops r:=by
  funext E fn nt tm0 k dfs dk rd cs S0
  cases r with
  | done tm S=>rfl
  | bad=>rfl
  | stop tm S i rest ro =>
    cases ro with
    | dfr d=>cases rd <;> rfl
    | _=>rfl
noncomputable def sReg (ops:Array Oper) (i:Nat) (rest:List Oper):SF:=fun E fn nt tm k dfs dk rd cs S=>afterOps ops (runOps E nt ops rest i tm S) E fn nt tm k dfs dk rd cs S
noncomputable def loopJump (j:Option Code):LoopState:=match j with|none=>.ready|some _=>.done
noncomputable def sLeave (j:Option Code):SF:=fun _ fn nt tm _ dfs dk rd cs S =>
  match rd with
  | none=>(match j with
    | none=>.next ⟨fn,nt,tm,[],dfs,.ret,false,dk,none⟩ cs S
    | some .ret=>.next ⟨fn,nt,tm,[],dfs,.ret,false,dk,none⟩ cs S
    | _=>.bad)
  | some l=>(match T.get l S.hp,Nat.ble S.fl l.idx,dk,dfs with
    | some (.loop _ _ lf ln lt ps a b d),true,false,[]=>backA (.bool j.isNone) cs (S.put l (.loop (loopJump j) j lf ln lt ps a b d))
    | _,_,_,_=>.bad)
noncomputable def sRet:SF:=sLeave (some .ret)
noncomputable def sSkip:SF:=fun _ fn nt tm k dfs dk rd cs S=>.next ⟨fn,nt,tm,k,dfs,.run,false,dk,rd⟩ cs S
noncomputable def sSeq (a b:Code):SF:=fun _ fn nt tm k dfs dk rd cs S=>.next ⟨fn,nt,tm,.code a::.code b::k,dfs,.run,false,dk,rd⟩ cs S
noncomputable def sCond (c:Operand) (a b:Code):SF:=fun E fn nt tm k dfs dk rd cs S =>
  Option.rec .bad (fun v=>Option.rec .bad (fun t=>.next ⟨fn,nt,tm,.code (Bool.rec b a t)::k,dfs,.run,false,dk,rd⟩ cs S) (boolOf v)) (evX E.ng tm c)
theorem sCond_eq (c:Operand) (a b:Code) (E:Env) (fn nt:Nat) (tm:Tm) (k:List AI) (dfs:List AD) (dk:Bool) (rd:Option Ps) (cs:List AF) (S:Hp):sCond c a b E fn nt tm k dfs dk rd cs S=(match evX E.ng tm c with
  | some (.bool t)=>.next ⟨fn,nt,tm,.code (Bool.rec b a t)::k,dfs,.run,false,dk,rd⟩ cs S
  | _=>.bad):=by
  unfold sCond
  cases evX E.ng tm c with
  | none=>rfl
  | some v=>cases v <;> rfl
noncomputable def sBlock (id:Nat) (b:Code):SF:=fun _ fn nt tm k dfs dk rd cs S=>.next ⟨fn,nt,tm,.code b::.blk id::k,dfs,.run,false,dk,rd⟩ cs S
noncomputable def sLoop (b:Code):SF:=fun _ fn nt tm k dfs dk rd cs S=>.next ⟨fn,nt,tm,.code b::.lop b::k,dfs,.run,false,dk,rd⟩ cs S
noncomputable def sScope (b:Code):SF:=fun _ fn nt tm k dfs dk rd cs S=>.next ⟨fn,nt,tm,.code b::.scp b::k,dfs,.run,false,dk,rd⟩ cs S
noncomputable def sExit (id:Nat):SF:=fun E fn nt tm k dfs dk rd cs S=>Option.rec (sLeave (some (.exit id)) E fn nt tm k dfs dk rd cs S) (fun k'=>.next ⟨fn,nt,tm,k',dfs,.run,false,dk,rd⟩ cs S) (exitA id k)
noncomputable def allocLoop (S:Hp) (fn nt:Nat) (tm:Tm) (ps:List Nat) (a b:Code) (d:Ps):Hp:=S.alloc (.loop .ready none fn nt tm ps a b d)
noncomputable def sRF (f:Operand) (ps:Array Tmp) (a b:Code):SF:=fun E fn nt tm k dfs dk rd cs S =>
  match evX E.ng tm f with
  | some (.fn g first cap)=>(match rd with
    | none=>pushA (enterA E g (lapp (lapp first [.yl (S.alloc (.dfr false)).nx]) cap) false) ⟨fn,nt,tm,.inRF (S.alloc (.dfr false)).nx::k,.mark S.nx::dfs,.run,false,dk,rd⟩ cs
        (allocLoop (S.alloc (.dfr false)) fn nt tm ps.toList a b S.nx)
    | some l=>(match T.get l S.hp with
      | some (.loop _ _ _ _ _ _ _ _ d)=>pushA (enterA E g (lapp (lapp first [.yl S.nx]) cap) false) ⟨fn,nt,tm,.inRF S.nx::k,dfs,.run,false,dk,rd⟩ cs (allocLoop S fn nt tm ps.toList a b d)
      | _=>.bad))
  | _=>.bad
abbrev DrawF:=Env→Nat→Nat→Tm→Array Oper→List AD→Bool→Option Ps→Hp→Option (Sum (Tm × Hp) (AV × Hp))
noncomputable def cellsR (l:List ResultVar):List Nat:=List.rec [] (fun r _ ih=>match r with|.cell a _=>a::ih|.tmp _=>ih) l
noncomputable def resCells (E:Env) (fn:Nat):List Nat:=match T.get (Ps.of fn) E.funcs with|some (some i)=>cellsR i.res|_=>[]
noncomputable def noDst (l:List Oper) (a:Nat):Bool:=List.rec true (fun o _ ih=>Bool.rec ih false (Option.rec false (fun e=>Nat.beq e a) o.dst)) l
noncomputable def resFree (E:Env) (fn:Nat) (ops:Array Oper):Bool:=List.rec true (fun a _ ih=>Bool.rec false ih (noDst ops.toList a)) (resCells E fn)
noncomputable def hasTmp (l:List ResultVar):Bool:=List.rec false (fun r _ ih=>match r with|.cell _ _=>ih|.tmp _=>true) l
noncomputable def sRegion (D:DrawF) (_:Nat) (ops:Array Oper) (draw:Bool):SF:=fun E fn nt tm k dfs dk rd cs S =>
  match draw with
  | false=>sReg ops 0 ops.toList E fn nt tm k dfs dk rd cs S
  | true=>(match D E fn nt tm ops dfs dk rd S with
    | some (.inl (tm',S'))=>.next ⟨fn,nt,tm',k,dfs,.run,false,dk,rd⟩ cs S'
    | some (.inr (v,S'))=>Bool.rec .bad (.next ⟨fn,nt,tm,[],dfs,.pan v false,true,dk,rd⟩ cs S') (resFree E fn ops)
    | none=>.bad)
noncomputable def sBad:SF:=fun _ _ _ _ _ _ _ _ _ _=>.bad
noncomputable def sCode (D:DrawF) (c:Code):SF:=
  Code.rec (motive:=fun _=>SF) sSkip (sRegion D) (fun a b _ _=>sSeq a b) (fun c a b _ _=>sCond c a b) (fun id b _=>sBlock id b) (fun b _=>sLoop b) (fun f ps a b _ _=>sRF f ps a b) sExit (fun b _=>sScope b) (fun _=>sSkip) (fun _=>sBad) sRet (fun _=>sBad) c
noncomputable def sEndRF (l:Ps):SF:=fun _ fn nt tm k dfs dk rd cs S =>
  match T.get l S.hp,Nat.ble S.fl l.idx with
  | some (.loop st pend lf ln lt ps a b d),true=>(match st with
    | .busy=>.bad
    | _=>.next ⟨fn,nt,tm,(match pend with|none=>k|some c=>.code c::k),dfs,.run,false,dk,rd⟩ cs (S.put l (.loop .exhausted pend lf ln lt ps a b d)))
  | _,_=>.bad
noncomputable def sBeg:SF:=fun _ fn nt tm k dfs dk rd cs S =>
  match rd with
  | none=>.bad
  | some l=>(match T.get l S.hp,Nat.ble S.fl l.idx with
    | some (.loop .ready pend lf ln lt ps a b d),true=>.next ⟨fn,nt,tm,k,dfs,.run,false,dk,rd⟩ cs (S.put l (.loop .busy pend lf ln lt ps a b d))
    | _,_=>.bad)
noncomputable def sItem (D:DrawF) (x:AI):SF:=
  AI.rec (motive:=fun _=>SF) (sCode D) (fun _=>sSkip) sLoop (fun _=>sSkip) sReg (fun _=>sBad) sEndRF sBeg x
noncomputable def sRun (D:DrawF) (todo:List AI) (E:Env) (fn nt:Nat) (tm:Tm) (dfs:List AD) (dk:Bool) (rd:Option Ps) (cs:List AF) (S:Hp):SR:=
  List.rec (motive:=fun _=>DrawF→SF) (fun _ E fn nt tm _ dfs dk rd cs S=>sLeave none E fn nt tm [] dfs dk rd cs S) (fun x k _ D E fn nt tm _ dfs dk rd cs S=>sItem D x E fn nt tm k dfs dk rd cs S) todo D E fn nt tm [] dfs dk rd cs S
noncomputable def res1 (E:Env) (S:Hp) (tm:Tm) (r:ResultVar):Option AV:=
  match r with
  | .tmp t=>some (tget tm t)
  | .cell a t=>(match tget tm a with|.ptr b o=>loadA E S t (.ptr b o)|_=>none)
noncomputable def resL (E:Env) (S:Hp) (tm:Tm) (l:List ResultVar):Option (List AV):=
  List.rec (some []) (fun r _ ih=>Option.rec none (fun x=>Option.rec none (fun t=>some (x::t)) ih) (res1 E S tm r)) l
noncomputable def resA (E:Env) (S:Hp) (tm:Tm) (l:List ResultVar):Option AV:=
  match resL E S tm l with
  | some [x]=>some x
  | some l=>some (.tup l)
  | none=>none
noncomputable def sReturn (E:Env) (fn:Nat) (tm:Tm) (lost dk:Bool) (cs:List AF) (S:Hp):SR:=
  match T.get (Ps.of fn) E.funcs with
  | some (some i)=>(match Bool.and lost (hasTmp i.res) with
    | true=>.bad
    | false=>(match resA E S tm i.res with
      | none=>.bad
      | some v=>(match dk with
        | false=>backA v cs S
        | true=>(match cs with
          | ⟨fn,nt,tm,todo,dfs,.pan _ true,lost,dk,rd⟩::cs=>.next ⟨fn,nt,tm,todo,dfs,.ret,lost,dk,rd⟩ cs S
          | c::cs=>.next c cs S
          | []=>.bad))))
  | _=>.bad
noncomputable def sDefers (E:Env) (fn nt:Nat) (tm:Tm) (todo:List AI) (dfs:List AD) (md:AMd) (lost dk:Bool) (rd:Option Ps) (cs:List AF) (S:Hp) (last:SR):SR:=
  match dfs with
  | []=>last
  | .mark b::ds=>(match T.get b S.hp,Nat.ble S.fl b.idx with
    | some (.dfr false),true=>.next ⟨fn,nt,tm,todo,ds,md,lost,dk,rd⟩ cs (S.put b (.dfr true))
    | _,_=>.bad)
  | .call f args cap::ds=>pushA (enterA E f (lapp args cap) true) ⟨fn,nt,tm,todo,ds,md,lost,dk,rd⟩ cs S
noncomputable def sRaise (v:AV) (cs:List AF) (S:Hp):SR:=
  match cs with
  | []=>.finP v S
  | ⟨fn,nt,tm,todo,dfs,.run,lost,dk,rd⟩::cs=>.next ⟨fn,nt,tm,todo,dfs,.pan v false,lost,dk,rd⟩ cs S
  | _=>.bad
abbrev SM:=DrawF→Env→Nat→Nat→Tm→List AI→List AD→Bool→Bool→Option Ps→List AF→Hp→SR
noncomputable def mRun:SM:=fun D E fn nt tm todo dfs lost dk rd cs S=>Bool.rec (sRun D todo E fn nt tm dfs dk rd cs S) .bad lost
noncomputable def mRet:SM:=fun _ E fn nt tm todo dfs lost dk rd cs S=>sDefers E fn nt tm todo dfs .ret lost dk rd cs S (sReturn E fn tm lost dk cs S)
noncomputable def mPan (v:AV) (r:Bool):SM:=fun _ E fn nt tm todo dfs lost dk rd cs S=>sDefers E fn nt tm todo dfs (.pan v r) lost dk rd cs S (match r with|false=>sRaise v cs S|true=>.bad)
noncomputable def stepA (D:DrawF) (E:Env) (f:AF) (cs:List AF) (S:Hp):SR:=
  AF.rec (motive:=fun _=>DrawF→Env→List AF→Hp→SR) (fun fn nt tm todo dfs md lost dk rd D E cs S=>AMd.rec (motive:=fun _=>SM) mRun mRet mPan md D E fn nt tm todo dfs lost dk rd cs S) f D E cs S
noncomputable def stepA0 (D:DrawF) (E:Env) (f:AF) (cs:List AF) (S:Hp):SR:=
  match f with
  | ⟨fn,nt,tm,todo,dfs,md,lost,dk,rd⟩=>match md with
    | .run=>(match lost with|false=>sRun D todo E fn nt tm dfs dk rd cs S|true=>.bad)
    | .ret=>sDefers E fn nt tm todo dfs .ret lost dk rd cs S (sReturn E fn tm lost dk cs S)
    | .pan v r=>sDefers E fn nt tm todo dfs (.pan v r) lost dk rd cs S (match r with|false=>sRaise v cs S|true=>.bad)
theorem stepA_eq (D:DrawF) (E:Env) (f:AF) (cs:List AF) (S:Hp):stepA D E f cs S=stepA0 D E f cs S:=by
  obtain ⟨fn,nt,tm,todo,dfs,md,lost,dk,rd⟩:=f
  cases md with
  | run=>cases lost <;> rfl
  | ret=>rfl
  | pan v r=>rfl
noncomputable def runA (D:DrawF) (E:Env) (n:Nat):AF→List AF→Hp→SR:=
  Nat.rec (motive:=fun _=>AF→List AF→Hp→SR) (fun f cs S=>.next f cs S) (fun _ ih f cs S=>SR.rec ih .fin .finP .bad (stepA D E f cs S)) n
end Go.AM
end
section
namespace Go.AM
inductive IR (γ:Gm):AI→Item→Prop where
  | code (c:Code):IR γ (.code c) (.code c)
  | blk (id:Nat):IR γ (.blk id) (.inBlock id)
  | lop (c:Code):IR γ (.lop c) (.inLoop c)
  | scp (c:Code):IR γ (.scp c) (.inScope c)
  | reg {ops:Array Oper} {i:Nat} {rest:List Oper} (h:ops.toList.drop i=rest):IR γ (.reg ops i rest) (.inRegion ops (List.range' i rest.length))
  | inRF {l:Ps} {L:Loc} (h:γ l=some L):IR γ (.inRF l) (.inRangeFunc L.blk)
  | endRF {l:Ps} {L:Loc} (h:γ l=some L):IR γ (.endRF l) (.endRangeFunc L.blk)
  | beg:IR γ .beg .beginRound
inductive IsR (γ:Gm):List AI→List Item→Prop where
  | nil:IsR γ [] []
  | cons {x:AI} {y:Item} {l:List AI} {l':List Item} (h:IR γ x y) (t:IsR γ l l'):IsR γ (x::l) (y::l')
inductive DsR (γ:Gm):List AD→List Deferred→Prop where
  | nil:DsR γ [] []
  | cons {x:AD} {y:Deferred} {l:List AD} {l':List Deferred} (h:DR γ x y) (t:DsR γ l l'):DsR γ (x::l) (y::l')
inductive MR (γ:Gm):AMd→FrameMode→Prop where
  | run:MR γ .run .run
  | ret:MR γ .ret .returning
  | pan {v:AV} {v':Value} (r:Bool) (h:VR γ v v'):MR γ (.pan v r) (.panicking [{ v:=v',recovered:=r }])
inductive RdR (γ:Gm):Option Ps→Option Nat→Prop where
  | none:RdR γ none none
  | some {l:Ps} {L:Loc} (h:γ l=some L):RdR γ (some l) (some L.blk)
def TmQ (γ:Gm) (E:Env) (fn:Nat) (lost:Bool) (tm:Tm) (tmps:Array Value):Prop:=
  match lost with
  | false=>TR γ tm tmps
  | true=>∀ a,a ∈ resCells E fn→VR γ (tget tm a) (tmps.getD a undef)
theorem TmQ.mono {γ γ':Gm} (hg:Gm.le γ γ') {E:Env} {fn:Nat} {lost:Bool} {tm:Tm} {tmps:Array Value} (h:TmQ γ E fn lost tm tmps):TmQ γ' E fn lost tm tmps:=by
  cases lost with
  | false=>exact TR.mono hg h
  | true=>exact fun a ha=>(h a ha).mono hg
structure FR (γ:Gm) (E:Env) (f:AF) (fr:Frame):Prop where
  fn:fr.fn=f.fn
  nt:fr.tmps.size=f.nt
  tm:TmQ γ E f.fn f.lost f.tm fr.tmps
  todo:f.md=.run→IsR γ f.todo fr.todo
  dfs:DsR γ f.dfs fr.defers
  md:MR γ f.md fr.mode
  kind:fr.kind=if f.dk then .deferred else .normal
  rd:RdR γ f.rd fr.roundOf
  fi:∃ i,T.get (Ps.of f.fn) E.funcs=some (some i)
inductive CsR (γ:Gm) (E:Env):List AF→List Frame→Prop where
  | nil:CsR γ E [] []
  | cons {x:AF} {y:Frame} {l:List AF} {l':List Frame} (h:FR γ E x y) (t:CsR γ E l l'):CsR γ E (x::l) (y::l')
section mono
variable {γ γ':Gm} (hg:Gm.le γ γ')
include hg
theorem IR.mono {x:AI} {y:Item} (h:IR γ x y):IR γ' x y:=by
  cases h with
  | code c=>exact .code c
  | blk id=>exact .blk id
  | lop c=>exact .lop c
  | scp c=>exact .scp c
  | reg h=>exact .reg h
  | inRF h=>exact .inRF (hg _ _ h)
  | endRF h=>exact .endRF (hg _ _ h)
  | beg=>exact .beg
theorem IsR.mono {x:List AI} {y:List Item} (h:IsR γ x y):IsR γ' x y:=by
  induction h with
  | nil=>exact .nil
  | cons h _ ih=>exact .cons (h.mono hg) ih
theorem DsR.mono {x:List AD} {y:List Deferred} (h:DsR γ x y):DsR γ' x y:=by
  induction h with
  | nil=>exact .nil
  | cons h _ ih=>exact .cons (h.mono hg) ih
theorem MR.mono {x:AMd} {y:FrameMode} (h:MR γ x y):MR γ' x y:=by
  cases h with
  | run=>exact .run
  | ret=>exact .ret
  | pan r h=>exact .pan r (h.mono hg)
theorem RdR.mono {x:Option Ps} {y:Option Nat} (h:RdR γ x y):RdR γ' x y:=by
  cases h with
  | none=>exact .none
  | some h=>exact .some (hg _ _ h)
theorem FR.mono {E:Env} {f:AF} {fr:Frame} (h:FR γ E f fr):FR γ' E f fr:=
  ⟨h.fn,h.nt,h.tm.mono hg,fun e=>(h.todo e).mono hg,h.dfs.mono hg,h.md.mono hg,h.kind,h.rd.mono hg,h.fi⟩
theorem CsR.mono {E:Env} {x:List AF} {y:List Frame} (h:CsR γ E x y):CsR γ' E x y:=by
  induction h with
  | nil=>exact .nil
  | cons h _ ih=>exact .cons (h.mono hg) ih
end mono
def lastF:Frame→List Frame→Nat × Option Nat
  | fr,[]=>(fr.fn,fr.roundOf)
  | _,c::cs=>lastF c cs
def Goes (E:Env) (γ:Gm) (S:Hp) (fr:Frame) (frs:List Frame) (w:World) (f':AF) (cs':List AF) (S':Hp):Prop:=
  ∀ bot,∃ γ' fr' frs' w',Steps E.P (lone fr (frs++bot) w) (lone fr' (frs'++bot) w')∧FR γ' E f' fr'∧CsR γ' E cs' frs'∧HR γ' E.ng S' w'∧Pres S γ w S' γ' w'∧lastF fr' frs'=lastF fr frs
section
variable {E:Env} {γ:Gm} {S:Hp} {fr:Frame} {frs:List Frame} {w:World}
theorem lastF_eq {fr fr':Frame} (h1:fr'.fn=fr.fn) (h2:fr'.roundOf=fr.roundOf) (frs:List Frame):lastF fr' frs=lastF fr frs:=by
  cases frs with
  | nil=>simp [lastF,h1,h2]
  | cons c cs=>rfl
theorem RdR.eq {γ γ':Gm} (hg:Gm.le γ γ') {r:Option Ps} {a b:Option Nat} (h:RdR γ r a) (k:RdR γ' r b):b=a:=by
  cases h with
  | none=>cases k;rfl
  | some h=>cases k with|some k=>rw [hg _ _ h] at k;cases k;rfl
theorem Goes.here {f f':AF} {cs:List AF} {S':Hp} (hf:FR γ E f fr) (hc:CsR γ E cs frs) (hfn:f'.fn=f.fn) (hrd:f'.rd=f.rd)
    (h:∀ cs,∃ γ' fr' w',Steps E.P (lone fr cs w) (lone fr' cs w')∧FR γ' E f' fr'∧HR γ' E.ng S' w'∧Pres S γ w S' γ' w'):Goes E γ S fr frs w f' cs S':=by
  intro bot
  obtain ⟨γ',fr',w',h1,h2,h3,h4⟩:=h (frs++bot)
  refine ⟨γ',fr',frs,w',h1,h2,hc.mono h4.ext,h3,h4,lastF_eq ?_ ?_ frs⟩
  · rw [h2.fn,hf.fn,hfn]
  · have:=h2.rd
    rw [hrd] at this
    exact RdR.eq h4.ext hf.rd this
theorem FR.to {f:AF} (h:FR γ E f fr) {t:List AI} {t':List Item} (ht:IsR γ t t'):FR γ E { f with todo:=t } { fr with todo:=t' }:=
  ⟨h.fn,h.nt,h.tm,fun _=>ht,h.dfs,h.md,h.kind,h.rd,h.fi⟩
theorem FR.tr {f:AF} (h:FR γ E f fr) (hl:f.lost=false):TR γ f.tm fr.tmps:=by
  have:=h.tm
  rw [hl] at this
  exact this
theorem FR.mode {f:AF} (h:FR γ E f fr) (hm:f.md=.run):fr.mode=.run:=by
  have:=h.md
  rw [hm] at this
  generalize fr.mode=m at this
  cases this;rfl
theorem exitA_ok {id:Nat} {l:List AI} {l':List Item} (h:IsR γ l l'):(∀ k,exitA id l=some k→∃ k',exitTo id l'=some k'∧IsR γ k k')∧(exitA id l=none→exitTo id l'=none):=by
  induction h with
  | nil=>exact ⟨fun k e=>(by cases e),fun _=>rfl⟩
  | @cons x y l l' hx t ih =>
    cases hx with
    | blk j =>
      have e:exitA id (.blk j::l)=Bool.rec (exitA id l) (some l) (Nat.beq j id):=rfl
      rw [e]
      have e2:exitTo id (.inBlock j::l')=if j == id then some l' else exitTo id l':=rfl
      rw [e2]
      rw [nat_beq_decide]
      by_cases hj:j=id
      · simp only [hj,decide_true,beq_self_eq_true,if_true]
        exact ⟨fun k e=>(by cases e;exact ⟨l',rfl,t⟩),fun e=>(by cases e)⟩
      · have:(j == id)=false:=by simpa using hj
        simp only [hj,decide_false,this,Bool.false_eq_true,if_false]
        exact ih
    | code c=>exact ih
    | lop c=>exact ih
    | scp c=>exact ih
    | reg h=>exact ih
    | inRF h=>exact ih
    | endRF h=>exact ih
    | beg=>exact ih
def setD (d:Option Nat) (v:Value) (t:Array Value):Array Value:=match d with|some d=>t.setIfInBounds d v|none=>t
theorem putD_ok {nt:Nat} {d:Option Nat} {v:AV} {tm tm':Tm} (h:putD nt d v tm=some tm') {tmps:Array Value} (hs:tmps.size=nt) (ht:TR γ tm tmps) {v':Value} (hv:VR γ v v') :
    TR γ tm' (setD d v' tmps):=by
  cases d with
  | none=>cases h;exact ht
  | some d =>
    obtain ⟨h1,h2⟩:=rec_some (b:=Nat.blt d nt) h
    cases h2
    rw [nat_blt_decide] at h1
    exact ht.set (by rw [hs];exact of_decide_eq_true h1) hv
theorem range'_cons (i:Nat) (o:Oper) (rest:List Oper):List.range' i (o::rest).length=i::List.range' (i+1) rest.length:=by
  rw [List.length_cons,List.range'_succ]
theorem drop_cons {ops:Array Oper} {i:Nat} {o:Oper} {rest:List Oper} (h:ops.toList.drop i=o::rest):ops[i]? = some o∧ops.toList.drop (i+1)=rest:=by
  constructor
  · have:(ops.toList.drop i)[0]? = some o:=by rw [h];rfl
    rw [List.getElem?_drop] at this
    simpa using this
  · have:(ops.toList.drop i).drop 1=rest:=by rw [h];rfl
    rw [List.drop_drop] at this
    exact this
theorem finishA_ok {f f':AF} {v:AV} (h:finishA f v=some f') (hf:FR γ E f fr) (hm:f.md=.run) (hl:f.lost=false) {v':Value} (hv:VR γ v v'):FR γ E f' (fr.finish v'):=by
  obtain ⟨fn,nt,tm,todo,dfs,md,lost,dk,rd⟩:=f
  simp only at hm hl
  subst hm hl
  rw [finishA_eq] at h;unfold finishA0 at h
  simp only at h
  have hto:=hf.todo rfl
  simp only at hto
  split at h
  · rename_i ops i o rest k
    split at h
    · rename_i tm' hp
      cases h
      generalize hft:fr.todo=ft at hto
      cases hto with
      | cons hx ht =>
        cases hx with
        | reg hd =>
          obtain ⟨ho,hd2⟩:=drop_cons hd
          rw [range'_cons] at hft
          have h2:=putD_ok hp hf.nt (hf.tr rfl) hv
          refine ⟨?_,?_,?_,fun _=>?_,?_,?_,?_,?_,hf.fi⟩
          · simp only [Frame.finish,hft];exact hf.fn
          · simp only [Frame.finish,hft,ho,Option.bind_some]
            have:=hf.nt
            cases o.dst <;> simp [this]
          · show TR γ tm' _
            simp only [Frame.finish,hft,ho,Option.bind_some]
            show TR γ tm' (setD o.dst v' fr.tmps)
            exact h2
          · simp only [Frame.finish,hft];exact .cons (.reg hd2) ht
          · simp only [Frame.finish,hft];exact hf.dfs
          · simp only [Frame.finish,hft];exact hf.md
          · simp only [Frame.finish,hft];exact hf.kind
          · simp only [Frame.finish,hft];exact hf.rd
    · cases h
  · rename_i l k
    cases h
    generalize hft:fr.todo=ft at hto
    cases hto with
    | cons hx ht =>
      cases hx with
      | inRF hL =>
        refine ⟨?_,?_,?_,fun _=>?_,?_,?_,?_,?_,hf.fi⟩
        · simp only [Frame.finish,hft];exact hf.fn
        · simp only [Frame.finish,hft];exact hf.nt
        · show TR γ tm _
          simp only [Frame.finish,hft];exact hf.tr rfl
        · simp only [Frame.finish,hft];exact .cons (.endRF hL) ht
        · simp only [Frame.finish,hft];exact hf.dfs
        · simp only [Frame.finish,hft];exact hf.md
        · simp only [Frame.finish,hft];exact hf.kind
        · simp only [Frame.finish,hft];exact hf.rd
  · cases h
end
end Go.AM
end
section
namespace Go.AM
def In (E:Env) (fr:Frame) (w:World) (Q:Gm→Frame→World→Prop):Prop:=
  ∃ γ' fr' w',(∀ cs,Steps E.P (lone fr cs w) (lone fr' cs w'))∧Q γ' fr' w'
section
variable {E:Env} (hE:E.Ok) {γ:Gm} {S:Hp} {fr:Frame} {w:World}
theorem wantA_ok {nt:Nat} {ops:Array Oper} {tm:Tm} {o:Oper} {b:Bool} (h:wantA nt ops tm o=some b) {tmps:Array Value} (hs:tmps.size=nt) (ht:TR γ tm tmps):Region.wanted o (yielded ops tmps)=b:=by
  rw [wantA_eq] at h;unfold wantA0 at h
  unfold Region.wanted
  split at h
  · rename_i hg;rw [hg];cases h;rfl
  · rename_i j want hg
    rw [hg]
    simp only
    split at h
    · rename_i oj hj
      rw [nth_eq,Array.getElem?_toList] at hj
      split at h
      · rename_i d hd
        obtain ⟨h1,h2⟩:=rec_some h
        rw [nat_blt_decide] at h1
        have hlt:d < tmps.size:=by rw [hs];exact of_decide_eq_true h1
        have hv:=ht d
        have hy:yielded ops tmps j=(match tmps[d] with|.bool b=>some b|_=>none):=by
          unfold yielded
          simp only [hj,hd,Option.bind_some,Array.getElem?_eq_getElem hlt]
          cases tmps[d] <;> rfl
        have hget:tmps.getD d Go.undef=tmps[d]:=by simp [Array.getD,hlt]
        rw [hget] at hv
        rw [hy]
        split at h2
        · rename_i c hc
          rw [hc] at hv
          cases h2
          generalize tmps[d]=u at hv
          cases hv
          cases c <;> cases want <;> rfl
        · cases h2
        · rename_i hnb hna
          cases h2
          generalize tmps[d]=u at hv
          generalize tget tm d=t at hv hnb hna
          cases hv <;> first|exact absurd rfl (hnb _)|exact absurd rfl hna|rfl
      · cases h
    · cases h
theorem todo_reg {γ:Gm} {E:Env} {fn nt:Nat} {tm:Tm} {ops:Array Oper} {i:Nat} {o:Oper} {rest:List Oper} {k:List AI} {dfs:List AD} {lost dk:Bool} {rd:Option Ps} {fr:Frame}
    (h:FR γ E ⟨fn,nt,tm,.reg ops i (o::rest)::k,dfs,.run,lost,dk,rd⟩ fr):∃ k',fr.todo=.inRegion ops (i::List.range' (i+1) rest.length)::k'∧ops[i]? = some o:=by
  have:=h.todo rfl
  simp only at this
  generalize fr.todo=ft at this
  cases this with
  | cons hx ht =>
    cases hx with
    | reg hd =>
      obtain ⟨ho,_⟩:=drop_cons hd
      exact ⟨_,by rw [range'_cons],ho⟩
theorem rd_or {γ:Gm} {E:Env} {f:AF} {fr:Frame} (h:FR γ E f fr) (hr:f.rd=none):fr.roundOf=none:=by
  have:=h.rd
  rw [hr] at this
  generalize fr.roundOf=r at this
  cases this;rfl
theorem evOp_noDefer {o:Oper} {E:Env} {tm:Tm} {S:Hp} {r:RO} (h:evOp o.op E tm S o.type=some r) (hr:∀ d,r≠.dfr d):∀ c,o.op≠.defer c:=by
  intro c e
  rw [e] at h
  have h:evOp0 (.defer c) E tm S o.type=some r:=h
  obtain ⟨args,h1,h2⟩:=recb_ok (o:=evXs E.ng tm c.args.toList) h
  cases hc:c.callee with
  | value f =>
    rw [hc] at h2
    obtain ⟨fv,h3,h4⟩:=b1_ok h2
    split at h4
    · cases h4;exact hr _ rfl
    · cases h4
  | invoke a b=>rw [hc] at h2;cases h2
  | builtin b=>rw [hc] at h2;cases h2
theorem evOpX_noDefer {o:Oper} {E:Env} {tm:Tm} {S:Hp} {r:RO} (h:evOpX o.op E tm S o.type=some r) (hr:∀ d,r≠.dfr d):∀ c,o.op≠.defer c:=by
  have h':(Option.rec (evB o.op E tm S o.type) (fun r=>some r) (evOp o.op E tm S o.type):Option RO)=some r:=h
  cases he:evOp o.op E tm S o.type with
  | none=>rw [he] at h';exact evB_noDefer h'
  | some r'=>rw [he] at h';cases h';exact evOp_noDefer he hr
inductive RegQ (E:Env) (S:Hp) (γ:Gm) (w:World) (fn nt:Nat) (k:List AI) (dfs:List AD) (dk:Bool) (rd:Option Ps) (ops:Array Oper):RS→Gm→Frame→World→Prop where
  | done {tm:Tm} {S':Hp} {i:Nat} {γ':Gm} {fr':Frame} {w':World} (hf:FR γ' E ⟨fn,nt,tm,.reg ops i []::k,dfs,.run,false,dk,rd⟩ fr') (hH:HR γ' E.ng S' w') (hP:Pres S γ w S' γ' w') :
      RegQ E S γ w fn nt k dfs dk rd ops (.done tm S') γ' fr' w'
  | stop {tm:Tm} {S':Hp} {i:Nat} {o:Oper} {rest:List Oper} {r:RO} {γ':Gm} {fr':Frame} {w':World} (hf:FR γ' E ⟨fn,nt,tm,.reg ops i (o::rest)::k,dfs,.run,false,dk,rd⟩ fr') (hH:HR γ' E.ng S' w')
      (hP:Pres S γ w S' γ' w') (hw:Region.wanted o (yielded ops fr'.tmps)=true) (he:evOpX o.op E tm S' o.type=some r) (hr:∀ x S,r≠.v x S):RegQ E S γ w fn nt k dfs dk rd ops (.stop tm S' i (o::rest) r) γ' fr' w'
include hE in
theorem runOps_ok {fn nt:Nat} {k:List AI} {dfs:List AD} {dk:Bool} {rd:Option Ps} {ops:Array Oper}:∀ (rest:List Oper) (i:Nat) (tm:Tm) (S:Hp) (γ:Gm) (fr:Frame) (w:World),
    FR γ E ⟨fn,nt,tm,.reg ops i rest::k,dfs,.run,false,dk,rd⟩ fr→HR γ E.ng S w→(runOps E nt ops rest i tm S=.bad)∨In E fr w (RegQ E S γ w fn nt k dfs dk rd ops (runOps E nt ops rest i tm S))
  | [],i,tm,S,γ,fr,w,hf,hH=>.inr ⟨γ,fr,w,fun cs=>Steps.refl _ _,.done hf hH (Pres.refl _ _ _)⟩
  | o :: rest,i,tm,S,γ,fr,w,hf,hH=>by
    have e:runOps E nt ops (o::rest) i tm S=runOp E nt ops o rest i tm S (fun i tm S=>runOps E nt ops rest i tm S):=rfl
    rw [e]
    obtain ⟨k',ht,ho⟩:=todo_reg hf
    have hm:=hf.mode rfl
    have hT:=hf.tr rfl
    rw [runOp_eq];unfold runOp0
    cases hw:wantA nt ops tm o with
    | none=>exact .inl rfl
    | some b =>
      have hwd:=wantA_ok hw hf.nt hT
      cases b with
      | false =>
        simp only
        cases hp:putD nt o.dst (.tup []) tm with
        | none=>exact .inl rfl
        | some tm' =>
          simp only
          have hfin:finishA ⟨fn,nt,tm,.reg ops i (o::rest)::k,dfs,.run,false,dk,rd⟩ (.tup [])=some ⟨fn,nt,tm',.reg ops (i+1) rest::k,dfs,.run,false,dk,rd⟩:=by
            simp only [finishA_eq,finishA0,hp]
          have hf2:=finishA_ok hfin hf rfl rfl .undef
          rcases runOps_ok rest (i+1) tm' S γ _ w hf2 hH with h|⟨γ',fr',w',h1,h2⟩
          · exact .inl h
          · exact .inr ⟨γ',fr',w',fun cs=>Steps.head (step_unwanted hm ht ho hwd) (h1 cs),h2⟩
      | true =>
        simp only
        cases hev:evOpX o.op E tm S o.type with
        | none=>exact .inl rfl
        | some r =>
          have hop:=evOpX_ok hE hT hH hev
          cases r with
          | v x S' =>
            simp only
            cases hp:putD nt o.dst x tm with
            | none=>exact .inl rfl
            | some tm' =>
              simp only
              obtain ⟨γ₁,v,w₁,hr,hv,hH1,hP1⟩:=hop
              have hfin:finishA ⟨fn,nt,tm,.reg ops i (o::rest)::k,dfs,.run,false,dk,rd⟩ x=some ⟨fn,nt,tm',.reg ops (i+1) rest::k,dfs,.run,false,dk,rd⟩:=by
                simp only [finishA_eq,finishA0,hp]
              have hf2:=finishA_ok hfin (hf.mono hP1.ext) rfl rfl hv
              rcases runOps_ok rest (i+1) tm' S' γ₁ _ w₁ hf2 hH1 with h|⟨γ',fr',w',h1,h2⟩
              · exact .inl h
              · refine .inr ⟨γ',fr',w',fun cs=>Steps.head (step_val hm ht ho hwd (.inr (evOpX_noDefer hev (fun d e=>by cases e))) hr) (h1 cs),?_⟩
                generalize runOps E nt ops rest (i+1) tm' S'=rs at h2
                cases h2 with
                | done a b c=>exact .done a b (hP1.trans c)
                | stop a b c d e f=>exact .stop a b (hP1.trans c) d e f
          | call f args=>exact .inr ⟨γ,fr,w,fun cs=>Steps.refl _ _,.stop hf hH (Pres.refl _ _ _) hwd hev (fun _ _ e=>by cases e)⟩
          | yld l args=>exact .inr ⟨γ,fr,w,fun cs=>Steps.refl _ _,.stop hf hH (Pres.refl _ _ _) hwd hev (fun _ _ e=>by cases e)⟩
          | dfr d=>exact .inr ⟨γ,fr,w,fun cs=>Steps.refl _ _,.stop hf hH (Pres.refl _ _ _) hwd hev (fun _ _ e=>by cases e)⟩
          | pan v=>exact .inr ⟨γ,fr,w,fun cs=>Steps.refl _ _,.stop hf hH (Pres.refl _ _ _) hwd hev (fun _ _ e=>by cases e)⟩
          | rcv=>exact .inr ⟨γ,fr,w,fun cs=>Steps.refl _ _,.stop hf hH (Pres.refl _ _ _) hwd hev (fun _ _ e=>by cases e)⟩
end
section
variable {E:Env} (hE:E.Ok) {γ:Gm} {S:Hp} {fr:Frame} {frs:List Frame} {w:World}
def Fin (E:Env) (γ:Gm) (S:Hp) (fr:Frame) (w:World) (v:AV) (S':Hp):Prop:=
  (fr.roundOf=none→∀ bot,∃ γ' v' fr' w' fn,Steps E.P (lone fr bot w) (lone fr' bot w')∧fr'.mode=.returning∧fr'.defers = []∧fr'.kind=.normal∧fr'.fn=fr.fn∧E.P.funcs[fr'.fn]? = some fn ∧
    (results fn fr'.tmps).run E.P w'=.ok v' w'∧VR γ' v v'∧HR γ' E.ng S' w'∧Pres S γ w S' γ' w') ∧
  (∀ c bot,∃ γ' v' w',Steps E.P (lone fr (c::bot) w) (lone (c.finish v') bot w')∧VR γ' v v'∧HR γ' E.ng S' w'∧Pres S γ w S' γ' w')
def FinP (E:Env) (γ:Gm) (S:Hp) (fr:Frame) (w:World) (v:AV) (S':Hp):Prop:=
  ∀ c bot,∃ γ' v' w',Steps E.P (lone fr (c::bot) w) (lone (c.raise [{ v:=v',recovered:=false }]) bot w')∧VR γ' v v'∧HR γ' E.ng S' w'∧Pres S γ w S' γ' w'
def StepQ (E:Env) (γ:Gm) (S:Hp) (fr:Frame) (frs:List Frame) (w:World):SR→Prop
  | .next f cs S'=>Goes E γ S fr frs w f cs S'
  | .fin v S'=>frs = []∧Fin E γ S fr w v S'
  | .finP v S'=>frs = []∧FinP E γ S fr w v S'
  | .bad=>True
theorem StepQ.ahead {γ₁:Gm} {S₁:Hp} {fr₁:Frame} {w₁:World} {r:SR} (hs:∀ cs,Steps E.P (lone fr cs w) (lone fr₁ cs w₁)) (hP:Pres S γ w S₁ γ₁ w₁) (hfn:fr₁.fn=fr.fn) (hrd:fr₁.roundOf=fr.roundOf)
    (h:StepQ E γ₁ S₁ fr₁ frs w₁ r):StepQ E γ S fr frs w r:=by
  cases r with
  | next f cs S' =>
    intro bot
    obtain ⟨γ',fr',frs',w',h1,h2,h3,h4,h5,h6⟩:=h bot
    exact ⟨γ',fr',frs',w',Steps.trans (hs _) h1,h2,h3,h4,hP.trans h5,h6.trans (lastF_eq hfn hrd frs)⟩
  | fin v S' =>
    obtain ⟨h0,h1,h2⟩:=h
    refine ⟨h0,fun hr bot=>?_,fun c bot=>?_⟩
    · obtain ⟨γ',v',fr',w',fn,g1,g2,g3,g4,g5,g6,g7,g8,g9,g10⟩:=h1 (by rw [hrd];exact hr) bot
      exact ⟨γ',v',fr',w',fn,Steps.trans (hs _) g1,g2,g3,g4,g5.trans hfn,g6,g7,g8,g9,hP.trans g10⟩
    · obtain ⟨γ',v',w',g1,g2,g3,g4⟩:=h2 c bot
      exact ⟨γ',v',w',Steps.trans (hs _) g1,g2,g3,hP.trans g4⟩
  | finP v S' =>
    obtain ⟨h0,h2⟩:=h
    refine ⟨h0,fun c bot=>?_⟩
    obtain ⟨γ',v',w',g1,g2,g3,g4⟩:=h2 c bot
    exact ⟨γ',v',w',Steps.trans (hs _) g1,g2,g3,hP.trans g4⟩
  | bad=>trivial
theorem tget_argT (l:List AV):∀ (j:Nat) (t:Tm) (i:Nat),tget (argT l j t) i=if j≤i∧i < j+l.length then (l[i - j]?).getD (.tup []) else tget t i:=by
  induction l with
  | nil =>
    intro j t i
    show tget t i=_
    rw [if_neg (fun h=>by simp only [List.length_nil] at h;omega)]
  | cons v l ih =>
    intro j t i
    show tget (argT l (j+1) (tset j v t)) i=_
    rw [ih (j+1)]
    by_cases e:i=j
    · subst e
      rw [if_neg (by omega),if_pos (by simp)]
      rw [tget_same];simp
    · by_cases h:j+1≤i∧i < j+1+l.length
      · rw [if_pos h,if_pos (by simp;omega)]
        rw [show i - j=(i - (j+1))+1 from by omega];simp
      · rw [if_neg h,if_neg (by simp;omega)]
        rw [tget_ne (fun e'=>e e'.symm)]
theorem argT_ok {l:List AV} {l':List Value} (h:LR γ l l') (n:Nat):TR γ (argT l 0 te) ((⟨l'⟩:Array Value)++Array.replicate n undef):=by
  intro i
  rw [tget_argT]
  have hl:=h.length
  by_cases e:i < l.length
  · rw [if_pos ⟨Nat.zero_le _,by omega⟩,Nat.sub_zero]
    have hx:l[i]? = some l[i]:=List.getElem?_eq_getElem e
    obtain ⟨y,hy,hv⟩:=h.nth i hx
    rw [hx]
    have:((⟨l'⟩:Array Value)++Array.replicate n undef).getD i Go.undef=y:=by
      rw [Array.getD_eq_getD_getElem?,Array.getElem?_append_left (by simp;omega),List.getElem?_toArray,hy];rfl
    rw [this];exact hv
  · rw [if_neg (by omega)]
    have h1:tget te i=.tup []:=tget_te i
    have h2:((⟨l'⟩:Array Value)++Array.replicate n undef).getD i Go.undef=Go.undef:=by
      rw [Array.getD_eq_getD_getElem?,Array.getElem?_append_right (by simp;omega)]
      rw [Array.getElem?_replicate]
      split <;> rfl
    rw [h1,h2];exact .undef
include hE in
theorem enterA_ok {f:Nat} {args:List AV} {dk:Bool} {f':AF} (h:enterA E f args dk=some f') {args':List Value} (ha:LR γ args args'):FR γ E f' (Frame.enter E.P f ⟨args'⟩ (if dk then .deferred else .normal)):=by
  unfold enterA at h
  split at h
  · rename_i i hi
    obtain ⟨h1,h2⟩:=rec_some h
    cases h2
    rw [llen_eq] at h1
    have hle:=Nat.le_of_ble_eq_true h1
    obtain ⟨fn,g1,g2,g3,g4,g5⟩:=hE.funcs f i hi
    have hl:=ha.length
    refine ⟨rfl,?_,?_,fun _=>?_,.nil,.run,rfl,.none,i,hi⟩
    · simp only [Frame.enter,g1,Option.map_some,Option.getD_some,g3]
      simp;omega
    · show TR γ _ _
      exact argT_ok ha _
    · simp only [Frame.enter,g1,Option.bind_some,g2,Option.getD_some]
      exact .cons (.code _) .nil
  · cases h
include hE in
theorem pushA_ok {f':Option AF} {c:AF} {cs:List AF} {S':Hp} {g:Nat} {args:List AV} {dk:Bool} (hf':f'=enterA E g args dk) {γ':Gm} {c':Frame} {w':World} {args':List Value} (ha:LR γ' args args')
    (hc:FR γ' E c c') (hcs:CsR γ E cs frs) (hH:HR γ' E.ng S' w') (hP:Pres S γ w S' γ' w')
    (hs:∀ cs,Steps E.P (lone fr cs w) (lone (Frame.enter E.P g ⟨args'⟩ (if dk then .deferred else .normal)) (c'::cs) w')) (hfn:c'.fn=fr.fn) (hrd:c'.roundOf=fr.roundOf) :
    StepQ E γ S fr frs w (pushA f' c cs S'):=by
  subst hf'
  cases h:enterA E g args dk with
  | none=>trivial
  | some f' =>
    intro bot
    exact ⟨γ',_,c'::frs,w',hs _,enterA_ok hE h ha,.cons hc (hcs.mono hP.ext),hH,hP,lastF_eq hfn hrd frs⟩
theorem parT_ok {nt:Nat} {ps:List Nat}:∀ {args:List AV} {tm tm':Tm} {args':List Value} {tmps:Array Value},parT nt ps args tm=some tm'→LR γ args args'→TR γ tm tmps→tmps.size=nt →
    args'.length=ps.length∧TR γ tm' ((ps.zip args').foldl (fun (a:Array Value) (p:Nat × Value)=>a.setIfInBounds p.1 p.2) tmps)∧((ps.zip args').foldl (fun (a:Array Value) (p:Nat × Value)=>a.setIfInBounds p.1 p.2) tmps).size=nt:=by
  induction ps with
  | nil =>
    intro args tm tm' args' tmps h ha ht hs
    cases ha with
    | nil=>cases h;exact ⟨rfl,ht,hs⟩
    | cons _ _=>cases h
  | cons p ps ih =>
    intro args tm tm' args' tmps h ha ht hs
    cases ha with
    | nil=>cases h
    | @cons x y l l' hv htl =>
      obtain ⟨h1,h2⟩:=rec_some (b:=Nat.blt p nt) h
      rw [nat_blt_decide] at h1
      have hlt:p < tmps.size:=by rw [hs];exact of_decide_eq_true h1
      obtain ⟨g1,g2,g3⟩:=ih (tmps:=tmps.setIfInBounds p y) h2 htl (ht.set hlt hv) (by simpa using hs)
      exact ⟨by simp [g1],g2,g3⟩
theorem HR.loop {ng:Nat} (h:HR γ ng S w) {l:Ps} {st:LoopState} {pend:Option Code} {fn nt:Nat} {tm:Tm} {ps:List Nat} {a b:Code} {d:Ps} {L:Loc} (hl:T.get l S.hp=some (.loop st pend fn nt tm ps a b d)) (hL:γ l=some L) :
    ∃ tmps D,w.heap[L.blk]? = some (.loop { state:=st,pending:=pend,fn:=fn,tmps:=tmps,params:=⟨ps⟩,assign:=a,body:=b,defers:=D.blk })∧TR γ tm tmps∧γ d=some D∧tmps.size=nt:=by
  obtain ⟨M,ob,h1,h2,tmps,D,rfl,h3,h4,h5⟩:=h.obj l _ hl
  rw [hL] at h1;cases h1
  exact ⟨tmps,D,h2,h3,h4,h5⟩
theorem roundA_ok {l:Ps} {args:List AV} {f':AF} (h:roundA E S l args=some f') (hH:HR γ E.ng S w) {args':List Value} (ha:LR γ args args') {L:Loc} (hL:γ l=some L) :
    ∃ fn tmps a b,(Instr.yield L.blk ⟨args'⟩).run E.P w=.ok (.round L.blk fn tmps a b) w∧FR γ E f' (Frame.round L.blk fn tmps a b .normal):=by
  unfold roundA at h
  split at h
  · rename_i st pend fn nt tm ps a b d hl
    split at h
    · rename_i tm' i hp hi
      cases h
      obtain ⟨tmps,D,h1,h2,h3,h4⟩:=hH.loop hl hL
      obtain ⟨g1,g2,g3⟩:=parT_ok hp ha h2 h4
      refine ⟨fn,_,a,b,?_,⟨rfl,g3,(show TR γ _ _ from g2),fun _=>.cons (.code a) (.cons .beg (.cons (.code b) .nil)),.nil,.run,rfl,.some hL,i,hi⟩⟩
      simp only [Instr.yield,Instr.getLoop,Sem.run_bind,run_getObj h1 (fun _ _ _ e=>by cases e),Result.andThen_ok,Sem.run_pure]
      rw [if_neg (by simp [g1])]
      simp only [Sem.run_pure]
      congr 2
      rw [← Array.foldl_toList,Array.toList_zip]
    · cases h
  · cases h
end
section
variable {E:Env} (hE:E.Ok) {γ:Gm} {S:Hp} {fr:Frame} {frs:List Frame} {w:World}
theorem recA_ok {dk:Bool} {cs cs':List AF} {v:AV} (h:recA dk cs=some (v,cs')) (hcs:CsR γ E cs frs) (hk:fr.kind=if dk then .deferred else .normal) (bot:List Frame) :
    ∃ v' frs',VR γ v v'∧CsR γ E cs' frs'∧(∀ g,lastF g frs'=lastF g frs)∧(tryRecover fr (frs++bot)=some (v',frs'++bot)∨(tryRecover fr (frs++bot)=none∧v'=.nilIface∧frs'=frs)):=by
  cases dk with
  | false =>
    cases h
    refine ⟨.nilIface,frs,.nili,hcs,fun _=>rfl,.inr ⟨?_,rfl,rfl⟩⟩
    obtain ⟨fn,tmps,todo,defers,mode,kind,roundOf⟩:=fr
    simp at hk
    subst hk
    simp [tryRecover]
  | true =>
    obtain ⟨fn,tmps,todo,defers,mode,kind,roundOf⟩:=fr
    simp at hk
    subst hk
    cases hcs with
    | nil=>cases h
    | @cons x y l l' hx ht =>
      obtain ⟨xfn,xnt,xtm,xtodo,xdfs,xmd,xlost,xdk,xrd⟩:=x
      have hmd:=hx.md
      simp only at hmd
      have other:(∀ u,y.mode≠.panicking [{ v:=u,recovered:=false }])→(∀ e o,y.mode=.panicking (e::o)→o = []∧e.goexit=false)→recA true (⟨xfn,xnt,xtm,xtodo,xdfs,xmd,xlost,xdk,xrd⟩::l)=some (.nili,⟨xfn,xnt,xtm,xtodo,xdfs,xmd,xlost,xdk,xrd⟩::l) →
          ∃ v' frs',VR γ v v'∧CsR γ E cs' frs'∧(∀ g,lastF g frs'=lastF g (y::l'))∧(tryRecover { fn,tmps,todo,defers,mode,kind:=.deferred,roundOf } (y::l'++bot)=some (v',frs'++bot)∨(tryRecover { fn,tmps,todo,defers,mode,kind:=.deferred,roundOf } (y::l'++bot)=none∧v'=.nilIface∧frs'=y::l')):=by
        intro h1 h2 h3
        rw [h3] at h
        cases h
        refine ⟨.nilIface,y::l',.nili,.cons hx ht,fun _=>rfl,.inr ⟨?_,rfl,rfl⟩⟩
        simp only [tryRecover,List.cons_append]
        split
        · rename_i u o hm
          have:=h2 _ _ hm
          obtain ⟨rfl,_⟩:=this
          exact absurd hm (h1 u)
        · rfl
      cases hmd2:y.mode with
      | run =>
        rw [hmd2] at hmd
        cases hmd
        exact other (fun u e=>by rw [hmd2] at e;cases e) (fun e o e'=>by rw [hmd2] at e';cases e') rfl
      | returning =>
        rw [hmd2] at hmd
        cases hmd
        exact other (fun u e=>by rw [hmd2] at e;cases e) (fun e o e'=>by rw [hmd2] at e';cases e') rfl
      | panicking ch =>
        rw [hmd2] at hmd
        cases hmd with
        | @pan u u' r hu =>
          cases r with
          | true =>
            exact other (fun u e=>by rw [hmd2] at e;simp at e) (fun e o e'=>by rw [hmd2] at e';simp at e';obtain ⟨rfl,rfl⟩:=e';exact ⟨rfl,rfl⟩) rfl
          | false =>
            cases h
            refine ⟨u',{ y with mode:=.panicking [{ v:=u',recovered:=true }] }::l',hu,.cons ⟨hx.fn,hx.nt,hx.tm,fun e=>(by cases e),hx.dfs,.pan true hu,hx.kind,hx.rd,hx.fi⟩ ht,?_,.inl ?_⟩
            · intro g
              show lastF { y with mode:=.panicking [{ v:=u',recovered:=true }] } l'=lastF y l'
              exact lastF_eq (fr:=y) (fr':={ y with mode:=.panicking [{ v:=u',recovered:=true }] }) rfl rfl l'
            · simp only [tryRecover,List.cons_append,hmd2]
include hE in
theorem afterOps_ok {fn nt:Nat} {k:List AI} {dfs:List AD} {dk:Bool} {rd:Option Ps} {ops:Array Oper} {tm0:Tm} {S0:Hp} {γ₀:Gm} {w₀:World} {cs:List AF} {rs:RS} (hq:RegQ E S0 γ₀ w₀ fn nt k dfs dk rd ops rs γ fr w)
    (hcs:CsR γ E cs frs):∃ S₁,Pres S0 γ₀ w₀ S₁ γ w∧StepQ E γ S₁ fr frs w (afterOps ops rs E fn nt tm0 k dfs dk rd cs S0):=by
  cases hq with
  | @done tm S' i _ _ _ hf hH hP =>
    refine ⟨S',hP,?_⟩
    have hto:=hf.todo rfl
    simp only at hto
    generalize hft:fr.todo=ft at hto
    cases hto with
    | @cons _ y _ k' hx ht =>
      cases hx with
      | reg hd =>
        refine Goes.here hf hcs rfl rfl (fun cs=>⟨γ,{ fr with todo:=k' },w,Steps.one (st_regionEnd (ops:=ops) (hf.mode rfl) hft),?_,hH,Pres.refl _ _ _⟩)
        exact hf.to ht
  | @stop tm S' i o rest r _ _ _ hf hH hP hw he hr =>
    refine ⟨S',hP,?_⟩
    obtain ⟨k',ht,ho⟩:=todo_reg hf
    have hm:=hf.mode rfl
    have hT:=hf.tr rfl
    have hop:=evOpX_ok hE hT hH he
    cases r with
    | v x S2=>exact absurd rfl (hr _ _)
    | call f args =>
      obtain ⟨vs,h1,h2,_⟩:=hop
      exact pushA_ok hE (dk:=false) rfl h2 hf hcs hH (Pres.refl _ _ _) (fun cs=>Steps.one (step_enter hm ht ho hw (.inr (evOpX_noDefer he (fun d e=>by cases e))) h1)) rfl rfl
    | yld l args =>
      obtain ⟨L,vs,hL,h2,h3⟩:=hop
      show StepQ E γ S' fr frs w (pushA (roundA E S' l args) ⟨fn,nt,tm,.reg ops i (o::rest)::k,dfs,.run,false,dk,rd⟩ cs S')
      cases hra:roundA E S' l args with
      | none=>trivial
      | some f' =>
        obtain ⟨lf,tmps,a,b,g1,g2⟩:=roundA_ok hra hH h2 hL
        intro bot
        exact ⟨γ,_,fr::frs,w,Steps.one (step_round hm ht ho hw (.inr (evOpX_noDefer he (fun d e=>by cases e))) ((h3 w).trans g1)),g2,.cons hf hcs,hH,Pres.refl _ _ _,rfl⟩
    | dfr d =>
      obtain ⟨d',h1,h2⟩:=hop
      cases rd with
      | some l=>trivial
      | none =>
        show StepQ E γ S' fr frs w (nextO (finishA ⟨fn,nt,tm,.reg ops i (o::rest)::k,d::dfs,.run,false,dk,none⟩ (.tup [])) cs S')
        cases hfi:finishA ⟨fn,nt,tm,.reg ops i (o::rest)::k,d::dfs,.run,false,dk,none⟩ (.tup []) with
        | none=>trivial
        | some f' =>
          have hf2:FR γ E ⟨fn,nt,tm,.reg ops i (o::rest)::k,d::dfs,.run,false,dk,none⟩ { fr with defers:=d'::fr.defers }:=⟨hf.fn,hf.nt,hf.tm,hf.todo,.cons h2 hf.dfs,hf.md,hf.kind,hf.rd,hf.fi⟩
          have hf3:=finishA_ok hfi hf2 rfl rfl .undef
          have e1:f'.fn=fn∧f'.rd=none:=by
            simp only [finishA_eq,finishA0] at hfi
            split at hfi
            · cases hfi;exact ⟨rfl,rfl⟩
            · cases hfi
          exact Goes.here hf hcs e1.1 e1.2 (fun cs=>⟨γ,_,w,Steps.one (step_defer hm ht ho hw (rd_or hf rfl) h1),hf3,hH,Pres.refl _ _ _⟩)
    | pan v =>
      obtain ⟨v',h1,h2⟩:=hop
      refine Goes.here hf hcs rfl rfl (fun cs=>⟨γ,_,w,Steps.one (step_panic hm ht ho hw (.inr (evOpX_noDefer he (fun d e=>by cases e))) h1),?_,hH,Pres.refl _ _ _⟩)
      have hr:fr.raise [{ v:=v',recovered:=false }]={ fr with mode:=.panicking [{ v:=v',recovered:=false }] }:=by simp [Frame.raise,hm]
      rw [hr]
      exact ⟨hf.fn,hf.nt,hf.tm,fun e=>(by cases e),hf.dfs,.pan false h2,hf.kind,hf.rd,hf.fi⟩
    | rcv =>
      cases rd with
      | some l=>trivial
      | none =>
        simp only [afterOps_eq,afterOps0]
        cases hrec:recA dk cs with
        | none=>trivial
        | some q =>
          obtain ⟨v,cs'⟩:=q
          simp only
          cases hfi:finishA ⟨fn,nt,tm,.reg ops i (o::rest)::k,dfs,.run,false,dk,none⟩ v with
          | none=>trivial
          | some f' =>
            intro bot
            obtain ⟨v',frs',g1,g2,g3,g4⟩:=recA_ok hrec hcs hf.kind bot
            have hf3:=finishA_ok hfi hf rfl rfl g1
            have hst:=step_recover (cs:=frs++bot) hm ht ho hw (rd_or hf rfl) hop
            refine ⟨γ,fr.finish v',frs',w,Steps.one ?_,hf3,g2,hH,Pres.refl _ _ _,?_⟩
            · rw [hst]
              rcases g4 with g4|⟨g4,rfl,rfl⟩
              · rw [g4]
              · rw [g4]
            · rw [g3]
              refine lastF_eq ?_ ?_ frs
              · unfold Frame.finish;rw [ht]
              · unfold Frame.finish;rw [ht]
end
section
variable {E:Env} (hE:E.Ok) {γ:Gm} {S:Hp} {fr:Frame} {frs:List Frame} {w:World}
theorem finish_fn (fr:Frame) (v:Value):(fr.finish v).fn=fr.fn∧(fr.finish v).roundOf=fr.roundOf:=by
  unfold Frame.finish;split <;> exact ⟨rfl,rfl⟩
theorem backA_ok {v:AV} {v':Value} {S':Hp} {γ':Gm} {w':World} {cs:List AF} (hcs:CsR γ E cs frs) (hv:VR γ' v v') (hH:HR γ' E.ng S' w') (hP:Pres S γ w S' γ' w')
    (hs:∀ c cs,Steps E.P (lone fr (c::cs) w) (lone (c.finish v') cs w'))
    (h1:fr.roundOf=none→∀ bot,∃ fr' fn,Steps E.P (lone fr bot w) (lone fr' bot w')∧fr'.mode=.returning∧fr'.defers = []∧fr'.kind=.normal∧fr'.fn=fr.fn∧E.P.funcs[fr'.fn]? = some fn ∧
      (results fn fr'.tmps).run E.P w'=.ok v' w'):StepQ E γ S fr frs w (backA v cs S'):=by
  cases hcs with
  | nil =>
    refine ⟨rfl,fun hr bot=>?_,fun c bot=>⟨γ',v',w',hs c bot,hv,hH,hP⟩⟩
    obtain ⟨fr',fn,g1,g2,g3,g4,g5,g6,g7⟩:=h1 hr bot
    exact ⟨γ',v',fr',w',fn,g1,g2,g3,g4,g5,g6,g7,hv,hH,hP⟩
  | @cons x y l l' hx ht =>
    rw [backA_eq];unfold backA0
    simp only
    split
    · rename_i c' e1 e2 e3
      have hmd:x.md=.run:=by
        cases h:x.md <;> rw [h] at e1 <;> first|rfl|cases e1
      have hf:=finishA_ok e3 (hx.mono hP.ext) hmd e2 hv
      intro bot
      refine ⟨γ',y.finish v',l',w',hs y (l'++bot),hf,ht.mono hP.ext,hH,hP,?_⟩
      show lastF (y.finish v') l'=lastF y l'
      exact lastF_eq (finish_fn y v').1 (finish_fn y v').2 l'
    · trivial
theorem put_loop {l:Ps} {L:Loc} {st st':LoopState} {pend pend':Option Code} {fn nt:Nat} {tm:Tm} {ps:List Nat} {a b:Code} {d:Ps} (hH:HR γ E.ng S w) (hl:T.get l S.hp=some (.loop st pend fn nt tm ps a b d)) (hL:γ l=some L)
    (hf:Nat.ble S.fl l.idx=true) {tmps:Array Value} {D:Loc} (h2:w.heap[L.blk]? = some (.loop { state:=st,pending:=pend,fn:=fn,tmps:=tmps,params:=⟨ps⟩,assign:=a,body:=b,defers:=D.blk })) (h3:TR γ tm tmps) (h4:γ d=some D) (h5:tmps.size=nt) :
    HR γ E.ng (S.put l (.loop st' pend' fn nt tm ps a b d)) { w with heap:=w.heap.setIfInBounds L.blk (.loop { state:=st',pending:=pend',fn:=fn,tmps:=tmps,params:=⟨ps⟩,assign:=a,body:=b,defers:=D.blk }) } ∧
    Pres S γ w (S.put l (.loop st' pend' fn nt tm ps a b d)) γ { w with heap:=w.heap.setIfInBounds L.blk (.loop { state:=st',pending:=pend',fn:=fn,tmps:=tmps,params:=⟨ps⟩,assign:=a,body:=b,defers:=D.blk }) }:=by
  have hlt:L.blk < w.heap.size:=(Array.getElem?_eq_some_iff.1 h2).1
  refine hH.put hl hL (Nat.le_of_ble_eq_true hf) (by simp) (fun r hr=>?_) ?_ ⟨tmps,D,rfl,h3,h4,h5⟩ rfl rfl
  · show (w.heap.setIfInBounds L.blk _)[r]? = _
    rw [Array.getElem?_setIfInBounds_ne (fun e=>hr e.symm)]
  · show (w.heap.setIfInBounds L.blk _)[L.blk]? = _
    rw [Array.getElem?_setIfInBounds_self_of_lt hlt]
theorem sLeave_ok {j:Option Code} {fn nt:Nat} {tm:Tm} {t k:List AI} {dfs:List AD} {dk:Bool} {rd:Option Ps} {cs:List AF} {k':List Item}
    (hf:FR γ E ⟨fn,nt,tm,t,dfs,.run,false,dk,rd⟩ fr) (hcs:CsR γ E cs frs) (hH:HR γ E.ng S w)
    (ht:(fr.todo = []∧j=none)∨(fr.todo=.code .ret::k'∧j=some .ret)∨(∃ id,fr.todo=.code (.exit id)::k'∧exitTo id k'=none∧j=some (.exit id))) :
    StepQ E γ S fr frs w (sLeave j E fn nt tm k dfs dk rd cs S):=by
  have hm:=hf.mode rfl
  cases rd with
  | none =>
    have key:∀ (k':List Item),(fr.todo = []∨fr.todo=.code .ret::k')→StepQ E γ S fr frs w (.next ⟨fn,nt,tm,[],dfs,.ret,false,dk,none⟩ cs S):=fun k' ht=>by
      refine Goes.here hf hcs rfl rfl (fun cs=>⟨γ,{ fr with mode:=.returning },w,Steps.one (st_ret hm ht (rd_or hf rfl)),?_,hH,Pres.refl _ _ _⟩)
      exact ⟨hf.fn,hf.nt,hf.tm,fun e=>(by cases e),hf.dfs,.ret,hf.kind,hf.rd,hf.fi⟩
    rcases ht with ⟨h1,rfl⟩|⟨h1,rfl⟩|⟨id,h1,h2,rfl⟩
    · exact key [] (.inl h1)
    · exact key k' (.inr h1)
    · trivial
  | some l =>
    have hrd:∃ L,fr.roundOf=some L.blk∧γ l=some L:=by
      have:=hf.rd
      simp only at this
      generalize fr.roundOf=q at this
      cases this with
      | some h=>exact ⟨_,rfl,h⟩
    obtain ⟨L,hr,hL⟩:=hrd
    unfold sLeave
    simp only
    split
    · rename_i st pend lf ln lt ps a b d h1 h2
      obtain ⟨tmps,D,g1,g2,g3,g4⟩:=hH.loop h1 hL
      obtain ⟨p1,p2⟩:=put_loop (st':=loopJump j) (pend':=j) hH h1 hL h2 g1 g2 g3 g4
      have e:(if j.isNone then LoopState.ready else .done)=loopJump j:=by cases j <;> rfl
      have hk:fr.kind=.normal:=hf.kind
      refine backA_ok hcs (.bool j.isNone) p1 p2 (fun c cs=>Steps.one ?_) (fun e=>by rw [hr] at e;cases e)
      have:=st_endRound (P:=E.P) (c:=c) (cs:=cs) (jump:=j) hm ht hr hk g1
      rw [e] at this
      exact this
    · trivial
theorem IsR.code {γ:Gm} {c:Code} {k:List AI} {l:List Item} (h:IsR γ (.code c::k) l):∃ k',l=.code c::k'∧IsR γ k k':=by
  cases h with
  | cons hx ht=>cases hx with|code=>exact ⟨_,rfl,ht⟩
theorem to_ok {fn nt:Nat} {tm:Tm} {t k:List AI} {dfs:List AD} {dk:Bool} {rd:Option Ps} {cs:List AF} {k':List Item}
    (hf:FR γ E ⟨fn,nt,tm,t,dfs,.run,false,dk,rd⟩ fr) (hcs:CsR γ E cs frs) (hH:HR γ E.ng S w) (hk:IsR γ k k') (hs:∀ cs,step E.P (lone fr cs w)=.next (lone { fr with todo:=k' } cs w)) :
    StepQ E γ S fr frs w (.next ⟨fn,nt,tm,k,dfs,.run,false,dk,rd⟩ cs S):=
  Goes.here hf hcs rfl rfl (fun cs=>⟨γ,{ fr with todo:=k' },w,Steps.one (hs cs),hf.to hk,hH,Pres.refl _ _ _⟩)
def slotR (r:ResultVar):Nat:=match r with|.tmp t=>t|.cell a _=>a
theorem res1_ok (hH:HR γ E.ng S w) {tm:Tm} {tmps:Array Value} {r:ResultVar} (ht:VR γ (tget tm (slotR r)) (tmps.getD (slotR r) undef)) {x:AV} (hE:E.Ok) (h:res1 E S tm r=some x) :
    ∃ v,((match r with|.tmp t=>pure (tmps.getD t undef)|.cell a t=>do loadVar t (← asAddr (tmps.getD a undef)):Sem Value)).run E.P w=.ok v w∧VR γ x v:=by
  cases r with
  | tmp t=>cases h;exact ⟨_,rfl,ht⟩
  | cell a t =>
    have ha:VR γ (tget tm a) (tmps.getD a undef):=ht
    unfold res1 at h
    simp only at h ⊢
    generalize tmps.getD a undef=u at ha
    split at h
    · rename_i b o e
      rw [e] at ha
      obtain ⟨v,h1,h2⟩:=loadA_ok hE hH h ha
      cases ha with
      | ptr o hL =>
        refine ⟨v,?_,h2⟩
        simp only [Instr.loadAt,Instr.sureAddr,Sem.run_bind,Sem.run_pure,Result.andThen_ok] at h1
        simp only [asAddr,Sem.run_bind,Sem.run_pure,Result.andThen_ok]
        exact h1
    · cases h
theorem resL_ok (hH:HR γ E.ng S w) {tm:Tm} {tmps:Array Value} (hE:E.Ok):∀ {l:List ResultVar} {xs:List AV},(∀ r,r ∈ l→VR γ (tget tm (slotR r)) (tmps.getD (slotR r) undef))→resL E S tm l=some xs →
    ∃ vs,(l.mapM (fun r=>match r with|.tmp t=>pure (tmps.getD t undef)|.cell a t=>do loadVar t (← asAddr (tmps.getD a undef)):ResultVar→Sem Value)).run E.P w=.ok vs w∧LR γ xs vs
  | [],xs,_,h=>by cases h;exact ⟨[],rfl,.nil⟩
  | r::l,xs,ht,h=>by
    have h':(Option.rec none (fun x=>Option.rec none (fun t=>some (x::t)) (resL E S tm l)) (res1 E S tm r):Option (List AV))=some xs:=h
    obtain ⟨x,h1,h2⟩:=recb_ok h'
    obtain ⟨t,h3,h4⟩:=recb_ok h2
    cases h4
    obtain ⟨v,g1,g2⟩:=res1_ok hH (ht r (List.mem_cons_self ..)) hE h1
    obtain ⟨vs,g3,g4⟩:=resL_ok hH hE (fun r hr=>ht r (List.mem_cons_of_mem _ hr)) h3
    refine ⟨v::vs,?_,.cons g2 g4⟩
    rw [List.mapM_cons]
    simp only [Sem.run_bind,g1,g3,Result.andThen_ok,Sem.run_pure]
theorem resA_ok (hH:HR γ E.ng S w) {tm:Tm} {tmps:Array Value} (hE:E.Ok) {fn:Func} (ht:∀ r,r ∈ fn.results.toList→VR γ (tget tm (slotR r)) (tmps.getD (slotR r) undef)) {x:AV} (h:resA E S tm fn.results.toList=some x) :
    ∃ v,(results fn tmps).run E.P w=.ok v w∧VR γ x v:=by
  unfold resA at h
  have hrun:∀ {vs:List Value},(fn.results.toList.mapM (fun r=>match r with|.tmp t=>pure (tmps.getD t undef)|.cell a t=>do loadVar t (← asAddr (tmps.getD a undef)):ResultVar→Sem Value)).run E.P w=.ok vs w →
      (results fn tmps).run E.P w=.ok (if h:vs.length=1 then vs[0] else .tuple ⟨vs⟩) w:=by
    intro vs hv
    have hm:(fn.results.mapM (fun r=>match r with|.tmp t=>pure (tmps.getD t undef)|.cell a t=>do loadVar t (← asAddr (tmps.getD a undef)):ResultVar→Sem Value)).run E.P w=.ok ⟨vs⟩ w:=by
      rw [← Array.toArray_toList (xs:=fn.results),List.mapM_toArray,Sem.run_map,hv];rfl
    unfold results
    rw [Sem.run_bind]
    refine (congrArg (fun r=>Result.andThen r _) hm).trans ?_
    simp only [Result.andThen_ok,Sem.run_pure]
    rfl
  split at h
  · rename_i x' e
    cases h
    obtain ⟨vs,h1,h2⟩:=resL_ok hH hE ht e
    cases h2 with
    | cons hx hn=>cases hn with
      | nil=>exact ⟨_,hrun h1,hx⟩
  · rename_i l hn e
    cases h
    obtain ⟨vs,h1,h2⟩:=resL_ok hH hE ht e
    refine ⟨_,hrun h1,?_⟩
    have:vs.length≠1:=fun e1=>by
      have hl:=h2.length
      rw [e1] at hl
      cases l with
      | nil=>cases hl
      | cons a l=>cases l with
        | nil=>exact hn a rfl
        | cons b l=>simp at hl
    rw [dif_neg this]
    exact .tup h2
  · cases h
end
section
variable {E:Env} (hE:E.Ok) {γ:Gm} {S:Hp} {fr:Frame} {frs:List Frame} {w:World}
theorem enterA_fi {f:Nat} {args:List AV} {dk:Bool} {f':AF} (h:enterA E f args dk=some f'):∃ i,T.get (Ps.of f) E.funcs=some (some i):=by
  unfold enterA at h
  split at h
  · rename_i i hi;exact ⟨i,hi⟩
  · cases h
include hE in
theorem invoke_run {g:Nat} {i:FI} (hi:T.get (Ps.of g) E.funcs=some (some i)) {first cap args:Array Value} (w:World) :
    (do let d ← Deferred.ofValue (.func (.func g) first cap) args;invoke d.target d.args:Sem Next).run E.P w=.ok (.enter g (first++args++cap)) w:=by
  obtain ⟨fn,g1,g2,g3,g4,g5⟩:=hE.funcs g i hi
  simp only [Deferred.ofValue,Sem.run_bind,Sem.run_pure,Result.andThen_ok,invoke,callFunc,Go.program,Sem.run,g1]
  simp [g5,g2]
include hE in
theorem callFunc_run {g:Nat} {i:FI} (hi:T.get (Ps.of g) E.funcs=some (some i)) (args:Array Value) (w:World):(callFunc g args).run E.P w=.ok (.enter g args) w:=by
  obtain ⟨fn,g1,g2,g3,g4,g5⟩:=hE.funcs g i hi
  simp only [Sem.run_bind,Result.andThen_ok,callFunc,Go.program,Sem.run,g1]
  simp [g5,g2]
include hE in
theorem sRF_ok {f:Operand} {ps:Array Tmp} {a b:Code} {fn nt:Nat} {tm:Tm} {t k:List AI} {dfs:List AD} {dk:Bool} {rd:Option Ps} {cs:List AF} {k':List Item}
    (hf:FR γ E ⟨fn,nt,tm,t,dfs,.run,false,dk,rd⟩ fr) (hcs:CsR γ E cs frs) (hH:HR γ E.ng S w) (ht:fr.todo=.code (.rangeFunc f ps a b)::k') (hk:IsR γ k k') :
    StepQ E γ S fr frs w (sRF f ps a b E fn nt tm k dfs dk rd cs S):=by
  have hm:=hf.mode rfl
  have hT:=hf.tr rfl
  unfold sRF
  split
  · rename_i g first cap hev
    have hv:=evX_ok (fr:=fr) hT hH.glob hev
    generalize hfe:fr.eval f=fv at hv
    cases hv with
    | @fn _ _ first' cap' _ hfi hca =>
      cases rd with
      | none =>
        simp only
        cases hen:enterA E g (lapp (lapp first [.yl (S.alloc (.dfr false)).nx]) cap) false with
        | none=>trivial
        | some f' =>
          obtain ⟨i,hi⟩:=enterA_fi hen
          obtain ⟨hH1,hP1⟩:=hH.alloc (w':={ w with heap:=w.heap.push (.deferred (some [])) }) (o:=.dfr false) (ob:=.deferred (some [])) (siz:=0) rfl rfl rfl rfl
          obtain ⟨hH2,hP2⟩:=hH1.alloc (w':={ w with heap:=(w.heap.push (.deferred (some []))).push (.loop { state:=.ready,pending:=none,fn:=fr.fn,tmps:=fr.tmps,params:=ps,assign:=a,body:=b,defers:=w.heap.size }) })
            (o:=.loop .ready none fn nt tm ps.toList a b S.nx) (ob:=.loop { state:=.ready,pending:=none,fn:=fr.fn,tmps:=fr.tmps,params:=ps,assign:=a,body:=b,defers:=w.heap.size }) (siz:=0) rfl rfl rfl
            ⟨fr.tmps,⟨w.heap.size,0,0⟩,by rw [hf.fn],(hT.mono (hP1.ext)).mono (Gm.le_with hH1.nx_none),by
              rw [Gm.with_ne _ _ (fun e=>by have:=congrArg Ps.idx e;rw [show (S.alloc (.dfr false)).nx=Ps.succ S.nx from rfl,Ps.idx_succ] at this;omega)];exact Gm.with_same _ _ _,hf.nt⟩
          have hP:=hP1.trans hP2
          rw [← hen]
          refine pushA_ok hE (dk:=false) (c':={ fr with todo:=.inRangeFunc (w.heap.size+1)::k',defers:={ target:=.collected w.heap.size,args:=#[] }::fr.defers }) rfl
            (args':=first'++[.func (.yield (w.heap.size+1)) #[] #[]]++cap') (((hfi.mono hP.ext).lapp (.cons (.yl (L:=⟨w.heap.size+1,0,0⟩) ?_) .nil)).lapp (hca.mono hP.ext)) ?_ hcs hH2 hP (fun cs=>Steps.one ?_) rfl rfl
          · rw [Gm.with_same];simp
          · refine ⟨hf.fn,hf.nt,(show TR _ _ _ from hT.mono hP.ext),fun _=>.cons (.inRF (L:=⟨w.heap.size+1,0,0⟩) ?_) (hk.mono hP.ext),.cons (.mark (L:=⟨w.heap.size,0,0⟩) ?_) (hf.dfs.mono hP.ext),hf.md.mono hP.ext,hf.kind,?_,hf.fi⟩
            · rw [Gm.with_same];simp
            · exact hP2.ext _ _ (Gm.with_same _ _ _)
            · exact hf.rd.mono hP.ext
          · have hr:=rd_or hf rfl
            refine st_rangeFunc (mark:=[{ target:=.collected w.heap.size,args:=#[] }]) (w1:={ w with heap:=(w.heap.push (.deferred (some []))).push (.loop { state:=.ready,pending:=none,fn:=fr.fn,tmps:=fr.tmps,params:=ps,assign:=a,body:=b,defers:=w.heap.size }) }) hm ht ?_ ?_
            · rw [hr]
              simp only [Instr.enterLoop,Sem.run_bind,run_newObj,Result.andThen_ok,Sem.run_pure]
              simp
            · rw [hfe,invoke_run hE hi]
              simp
      | some l =>
        simp only
        split
        · rename_i st pend lf ln lt lps la lb d hl
          cases hen:enterA E g (lapp (lapp first [.yl S.nx]) cap) false with
          | none=>trivial
          | some f' =>
            obtain ⟨i,hi⟩:=enterA_fi hen
            have hrd:∃ L,fr.roundOf=some L.blk∧γ l=some L:=by
              have:=hf.rd
              simp only at this
              generalize fr.roundOf=q at this
              cases this with
              | some h=>exact ⟨_,rfl,h⟩
            obtain ⟨L,hr,hL⟩:=hrd
            obtain ⟨tmps,D,g1,g2,g3,g4⟩:=hH.loop hl hL
            obtain ⟨hH2,hP⟩:=hH.alloc (w':={ w with heap:=w.heap.push (.loop { state:=.ready,pending:=none,fn:=fr.fn,tmps:=fr.tmps,params:=ps,assign:=a,body:=b,defers:=D.blk }) })
              (o:=.loop .ready none fn nt tm ps.toList a b d) (ob:=.loop { state:=.ready,pending:=none,fn:=fr.fn,tmps:=fr.tmps,params:=ps,assign:=a,body:=b,defers:=D.blk }) (siz:=0) rfl rfl rfl
              ⟨fr.tmps,D,by rw [hf.fn],hT.mono (Gm.le_with hH.nx_none),Gm.le_with hH.nx_none _ _ g3,hf.nt⟩
            rw [← hen]
            refine pushA_ok hE (dk:=false) (c':={ fr with todo:=.inRangeFunc w.heap.size::k' }) rfl
              (args':=first'++[.func (.yield w.heap.size) #[] #[]]++cap') (((hfi.mono hP.ext).lapp (.cons (.yl (L:=⟨w.heap.size,0,0⟩) (Gm.with_same _ _ _)) .nil)).lapp (hca.mono hP.ext)) ?_ hcs hH2 hP (fun cs=>Steps.one ?_) rfl rfl
            · exact ⟨hf.fn,hf.nt,(show TR _ _ _ from hT.mono hP.ext),fun _=>.cons (.inRF (L:=⟨w.heap.size,0,0⟩) (Gm.with_same _ _ _)) (hk.mono hP.ext),hf.dfs.mono hP.ext,hf.md.mono hP.ext,hf.kind,hf.rd.mono hP.ext,hf.fi⟩
            · refine st_rangeFunc (mark:=[]) (w1:={ w with heap:=w.heap.push (.loop { state:=.ready,pending:=none,fn:=fr.fn,tmps:=fr.tmps,params:=ps,assign:=a,body:=b,defers:=D.blk }) }) hm ht ?_ ?_
              · rw [hr]
                simp only [Instr.enterLoop,Instr.getLoop,Sem.run_bind,run_getObj g1 (fun _ _ _ e=>by cases e),run_newObj,Result.andThen_ok,Sem.run_pure]
              · rw [hfe,invoke_run hE hi]
                simp
        · trivial
  · trivial
theorem sEndRF_ok {l:Ps} {fn nt:Nat} {tm:Tm} {t k:List AI} {dfs:List AD} {dk:Bool} {rd:Option Ps} {cs:List AF} {k':List Item} {L:Loc}
    (hf:FR γ E ⟨fn,nt,tm,t,dfs,.run,false,dk,rd⟩ fr) (hcs:CsR γ E cs frs) (hH:HR γ E.ng S w) (ht:fr.todo=.endRangeFunc L.blk::k') (hL:γ l=some L) (hk:IsR γ k k') :
    StepQ E γ S fr frs w (sEndRF l E fn nt tm k dfs dk rd cs S):=by
  have hm:=hf.mode rfl
  unfold sEndRF
  split
  · rename_i st pend lf ln lt ps a b d h1 h2
    obtain ⟨tmps,D,g1,g2,g3,g4⟩:=hH.loop h1 hL
    obtain ⟨p1,p2⟩:=put_loop (st':=.exhausted) (pend':=pend) hH h1 hL h2 g1 g2 g3 g4
    split
    · trivial
    · rename_i hb
      refine Goes.here hf hcs rfl rfl (fun cs=>⟨γ,{ fr with todo:=(pend.map Item.code).toList++k' },_,Steps.one (st_endLoop hm ht g1 hb),?_,p1,p2⟩)
      refine hf.to ?_
      cases pend with
      | none=>exact hk
      | some c=>exact .cons (.code c) hk
  · trivial
theorem sBeg_ok {fn nt:Nat} {tm:Tm} {t k:List AI} {dfs:List AD} {dk:Bool} {rd:Option Ps} {cs:List AF} {k':List Item}
    (hf:FR γ E ⟨fn,nt,tm,t,dfs,.run,false,dk,rd⟩ fr) (hcs:CsR γ E cs frs) (hH:HR γ E.ng S w) (ht:fr.todo=.beginRound::k') (hk:IsR γ k k') :
    StepQ E γ S fr frs w (sBeg E fn nt tm k dfs dk rd cs S):=by
  have hm:=hf.mode rfl
  unfold sBeg
  cases rd with
  | none=>trivial
  | some l =>
    have hrd:∃ L,fr.roundOf=some L.blk∧γ l=some L:=by
      have:=hf.rd
      simp only at this
      generalize fr.roundOf=q at this
      cases this with
      | some h=>exact ⟨_,rfl,h⟩
    obtain ⟨L,hr,hL⟩:=hrd
    simp only
    split
    · rename_i pend lf ln lt ps a b d h1 h2
      obtain ⟨tmps,D,g1,g2,g3,g4⟩:=hH.loop h1 hL
      obtain ⟨p1,p2⟩:=put_loop (st':=.busy) (pend':=pend) hH h1 hL h2 g1 g2 g3 g4
      exact Goes.here hf hcs rfl rfl (fun cs=>⟨γ,{ fr with todo:=k' },_,Steps.one (st_begin hm ht hr g1 rfl),hf.to hk,p1,p2⟩)
    · trivial
end
section
variable {E:Env} (hE:E.Ok) {γ:Gm} {S:Hp} {fr:Frame} {frs:List Frame} {w:World}
theorem MR.not_run {m:AMd} {m':FrameMode} (h:MR γ m m') (hn:m≠.run):m'=.returning∨∃ c,m'=.panicking c:=by
  cases h with
  | run=>exact absurd rfl hn
  | ret=>exact .inl rfl
  | pan r h=>exact .inr ⟨_,rfl⟩
include hE in
theorem sDefers_ok {fn nt:Nat} {tm:Tm} {todo:List AI} {dfs:List AD} {md:AMd} {lost dk:Bool} {rd:Option Ps} {cs:List AF} {last:SR}
    (hf:FR γ E ⟨fn,nt,tm,todo,dfs,md,lost,dk,rd⟩ fr) (hn:md≠.run) (hcs:CsR γ E cs frs) (hH:HR γ E.ng S w) (hl:dfs = []→fr.defers = []→StepQ E γ S fr frs w last) :
    StepQ E γ S fr frs w (sDefers E fn nt tm todo dfs md lost dk rd cs S last):=by
  have hd:=hf.dfs
  have hmd:=hf.md.not_run hn
  simp only at hd
  unfold sDefers
  generalize hfd:fr.defers=fd at hd
  cases hd with
  | nil=>exact hl rfl hfd
  | @cons x y l l' hx htl =>
    cases hx with
    | @mark b L hL =>
      simp only
      split
      · rename_i h1 h2
        obtain ⟨M,ob,g1,g2,g3⟩:=hH.obj b _ h1
        rw [hL] at g1;cases g1
        have g3':ob=.deferred (some []):=g3
        subst g3'
        have hlt:L.blk < w.heap.size:=(Array.getElem?_eq_some_iff.1 g2).1
        obtain ⟨p1,p2⟩:=hH.put (w':={ w with heap:=w.heap.setIfInBounds L.blk (.deferred none) }) (o':=.dfr true) (ob':=.deferred none) h1 hL (Nat.le_of_ble_eq_true h2) (by simp)
          (fun r hr=>by
            show (w.heap.setIfInBounds L.blk _)[r]? = _
            rw [Array.getElem?_setIfInBounds_ne (fun e=>hr e.symm)])
          (by
            show (w.heap.setIfInBounds L.blk _)[L.blk]? = _
            rw [Array.getElem?_setIfInBounds_self_of_lt hlt]) rfl rfl rfl
        refine Goes.here hf hcs rfl rfl (fun cs=>⟨γ,{ fr with defers:=l' },_,Steps.one (st_take hmd hfd g2),?_,p1,p2⟩)
        exact ⟨hf.fn,hf.nt,hf.tm,fun e=>absurd e hn,htl,hf.md,hf.kind,hf.rd,hf.fi⟩
      · trivial
    | @call a c a' c' f ha hc =>
      simp only
      cases hen:enterA E f (lapp a c) true with
      | none=>trivial
      | some f' =>
        obtain ⟨i,hi⟩:=enterA_fi hen
        rw [← hen]
        refine pushA_ok hE (dk:=true) (c':={ fr with defers:=l' }) rfl (args':=a'++c') (ha.lapp hc) ?_ hcs hH (Pres.refl _ _ _) (fun cs=>Steps.one ?_) rfl rfl
        · exact ⟨hf.fn,hf.nt,hf.tm,fun e=>absurd e hn,htl,hf.md,hf.kind,hf.rd,hf.fi⟩
        · have:=st_deferred (P:=E.P) (fr:=fr) (cs:=cs) (w:=w) hmd hfd (fun w=>callFunc_run hE hi _ w)
          simpa using this
omit hE in
theorem cellsR_mem:∀ {l:List ResultVar} {r:ResultVar},hasTmp l=false→r ∈ l→slotR r ∈ cellsR l
  | [],r,_,h=>by cases h
  | .tmp t::l,r,h,_=>by cases h
  | .cell a t::l,r,h,hr=>by
    have h':hasTmp l=false:=h
    show slotR r ∈ a::cellsR l
    rcases List.mem_cons.1 hr with rfl|hr
    · exact List.mem_cons_self ..
    · exact List.mem_cons_of_mem _ (cellsR_mem h' hr)
include hE in
theorem sReturn_ok {fn nt:Nat} {tm:Tm} {todo:List AI} {lost dk:Bool} {rd:Option Ps} {cs:List AF}
    (hf:FR γ E ⟨fn,nt,tm,todo,[],.ret,lost,dk,rd⟩ fr) (hcs:CsR γ E cs frs) (hH:HR γ E.ng S w) (hd:fr.defers = []):StepQ E γ S fr frs w (sReturn E fn tm lost dk cs S):=by
  unfold sReturn
  split
  · rename_i i hi
    cases hlost:Bool.and lost (hasTmp i.res) with
    | true=>trivial
    | false =>
      simp only
      cases hv:resA E S tm i.res with
      | none=>trivial
      | some v =>
        obtain ⟨fu,g1,g2,g3,g4,g5⟩:=hE.funcs fn i hi
        have hslots:∀ r,r ∈ i.res→VR γ (tget tm (slotR r)) (fr.tmps.getD (slotR r) undef):=by
          cases lost with
          | false=>exact fun r _=>(hf.tr rfl) (slotR r)
          | true =>
            have hnt:hasTmp i.res=false:=hlost
            have hrc:resCells E fn=cellsR i.res:=by unfold resCells;rw [hi]
            have htm:∀ a,a ∈ resCells E fn→VR γ (tget tm a) (fr.tmps.getD a undef):=hf.tm
            rw [hrc] at htm
            exact fun r hr=>htm _ (cellsR_mem hnt hr)
        rw [← g4] at hv hslots
        obtain ⟨v',r1,r2⟩:=resA_ok hH hE hslots hv
        have hfu:E.P.funcs[fr.fn]? = some fu:=by rw [hf.fn];exact g1
        have hm:fr.mode=.returning:=by
          have:=hf.md
          simp only at this
          generalize fr.mode=m at this
          cases this;rfl
        cases dk with
        | false =>
          have hk:fr.kind=.normal:=hf.kind
          exact backA_ok hcs r2 hH (Pres.refl _ _ _) (fun c cs=>Steps.one (st_return hm hd hfu hk r1)) (fun _ bot=>⟨fr,fu,Steps.refl _ _,hm,hd,hk,rfl,hfu,r1⟩)
        | true =>
          have hk:fr.kind=.deferred:=hf.kind
          cases hcs with
          | nil=>trivial
          | @cons x y l l' hx ht =>
            obtain ⟨xfn,xnt,xtm,xtodo,xdfs,xmd,xlost,xdk,xrd⟩:=x
            have hst:=fun cs=>st_returnD (P:=E.P) (c:=y) (cs:=cs) hm hd hfu hk r1
            have hmd:=hx.md
            simp only at hmd
            have same:(∀ cs,step E.P (lone fr (y::cs) w)=.next (lone y cs w))→StepQ E γ S fr (y::l') w (.next ⟨xfn,xnt,xtm,xtodo,xdfs,xmd,xlost,xdk,xrd⟩ l S):=fun hs bot =>
              ⟨γ,y,l',w,Steps.one (hs (l'++bot)),hx,ht,hH,Pres.refl _ _ _,rfl⟩
            cases xmd with
            | run =>
              refine same (fun cs=>?_)
              rw [hst]
              have:y.mode=.run:=hx.mode rfl
              rw [this]
            | ret =>
              refine same (fun cs=>?_)
              rw [hst]
              generalize y.mode=m at hmd
              cases hmd;rfl
            | pan u r =>
              generalize hym:y.mode=m at hmd
              cases hmd with
              | @pan _ u' _ hu =>
                cases r with
                | false =>
                  refine same (fun cs=>?_)
                  rw [hst,hym]
                | true =>
                  intro bot
                  refine ⟨γ,{ y with mode:=.returning },l',w,Steps.one ?_,⟨hx.fn,hx.nt,hx.tm,fun e=>(by cases e),hx.dfs,.ret,hx.kind,hx.rd,hx.fi⟩,ht,hH,Pres.refl _ _ _,?_⟩
                  · show step E.P (lone fr (y::(l'++bot)) w)=_
                    rw [hst,hym]
                    rfl
                  · show lastF { y with mode:=.returning } l'=lastF y l'
                    exact lastF_eq (fr:=y) (fr':={ y with mode:=.returning }) rfl rfl l'
  · trivial
include hE in
theorem sRaise_ok {fn nt:Nat} {tm:Tm} {todo:List AI} {lost dk:Bool} {rd:Option Ps} {cs:List AF} {v:AV}
    (hf:FR γ E ⟨fn,nt,tm,todo,[],.pan v false,lost,dk,rd⟩ fr) (hcs:CsR γ E cs frs) (hH:HR γ E.ng S w) (hd:fr.defers = []):StepQ E γ S fr frs w (sRaise v cs S):=by
  obtain ⟨i,hi⟩:=hf.fi
  obtain ⟨fu,g1,_⟩:=hE.funcs fn i hi
  have hfu:E.P.funcs[fr.fn]? = some fu:=by rw [hf.fn];exact g1
  have hmd:=hf.md
  simp only at hmd
  generalize hfm:fr.mode=m at hmd
  cases hmd with
  | @pan _ v' _ hv =>
    unfold sRaise
    cases hcs with
    | nil=>exact ⟨rfl,fun c bot=>⟨γ,v',w,Steps.one (st_raise hfm hd hfu),hv,hH,Pres.refl _ _ _⟩⟩
    | @cons x y l l' hx ht =>
      obtain ⟨xfn,xnt,xtm,xtodo,xdfs,xmd,xlost,xdk,xrd⟩:=x
      cases xmd with
      | ret=>trivial
      | pan _ _=>trivial
      | run =>
        have hym:y.mode=.run:=hx.mode rfl
        have hr:y.raise [{ v:=v',recovered:=false }]={ y with mode:=.panicking [{ v:=v',recovered:=false }] }:=by simp [Frame.raise,hym]
        intro bot
        refine ⟨γ,{ y with mode:=.panicking [{ v:=v',recovered:=false }] },l',w,Steps.one ?_,⟨hx.fn,hx.nt,hx.tm,fun e=>(by cases e),hx.dfs,.pan false hv,hx.kind,hx.rd,hx.fi⟩,ht,hH,Pres.refl _ _ _,?_⟩
        · show step E.P (lone fr (y::(l'++bot)) w)=_
          rw [st_raise hfm hd hfu,hr]
        · show lastF { y with mode:=.panicking _ } l'=lastF y l'
          exact lastF_eq (fr:=y) (fr':={ y with mode:=.panicking _ }) rfl rfl l'
end
end Go.AM
end
