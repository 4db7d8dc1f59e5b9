/- A part of the proof of GlyphCovers; no condition. -/
import Derived.Test.YtoahnefofelglaaGlyphCovers01
import Derived.Lib.SlBytesConst
import Derived.Laws.BytesString
import Derived.Lib.UnsafeStr
set_option linter.unusedVariables false
set_option linter.unusedSimpArgs false
set_option linter.unusedSectionVars false
noncomputable section
section
namespace Go.AM
section
variable {E:i3} (hE:E.Ok) {γ:Gm}
def G3 (E:i3) (t:Nat):Option AV:=match info E t with|some i=>(match i.zero with|some v=>rM 4 v|none=>none)|none=>none
theorem uM {t:Nat} {x:AV} (h:G3 E t=some x):∃ i v,info E t=some i∧i.zero=some v∧rM 4 v=some x:=by
 unfold G3 at h
 split at h
 ·rename_i i hi
  split at h
  ·rename_i v hv;exact ⟨i,v,hi,hv,h⟩
  ·cases h
 ·cases h
theorem V2 {t:Nat} {x:AV} (h:G3 E t=some x):D6 x=true:=by
 obtain ⟨i,v,_,_,hv⟩:=uM h
 exact GG 4 _ _ hv
include hE in
theorem N4 {t:Nat} {x:AV} (h:G3 E t=some x) (γ:Gm):∃ v,(∀ w,(Go.zeroValue t).run E.P w=.ok v w)∧VR γ x v:=by
 obtain ⟨i,v,hi,hz,hv⟩:=uM h
 exact ⟨v,fun w=>by simp only [Go.zeroValue,Sem.run_bind,aO hE hi,Result.andThen_ok,hz];rfl,Le 4 _ _ hv⟩
def rW (E:i3) (t i:Nat):Option (Nat × Nat):=match T3 E t i with|some g=>(match q7 E g.type with|some z=>some (g.offset,z)|none=>none)|none=>none
def lH (E:i3) (fs:List Field):Bool:=List.rec true (fun g _ ih=>match q7 E g.type with|some _=>ih|none=>false) fs
def yO (E:i3) (t:Nat) (parts:List (Nat × AV)):Option AV:=
 match A4 E t,G3 E t with
 | some (.struct fs),some z=>(match lH E fs.toList,uK (rW E t) parts (j1 z) with|true,some r=>some (.agg r)|_,_=>none)
 | some (.array _ e),some z=>(match q7 E e with
  | some n=>(match uK (fun i=>some (Nat.mul i n,n)) parts (j1 z) with|some r=>some (.agg r)|none=>none)
  | none=>none)
 | _,_=>none
include hE in
theorem Gv {fs:List Field} (h:lH E fs=true) (w:World):∃ l:List (Nat × Nat),(fs.mapM (fun f=>do pure (f.offset,← Go.sizeOf f.type):Field→Sem (Nat × Nat))).run E.P w=.ok l w ∧
 ∀ i:Nat,l[i]? = (match (fs[i]? : Option Field) with|some g=>(match q7 E g.type with|some z=>some (g.offset,z)|none=>none)|none=>none):=by
 induction fs with
 | nil=>exact ⟨[],rfl,fun i=>by simp⟩
 | cons g fs ih =>
   have h':(match q7 E g.type with|some _=>lH E fs|none=>false)=true:=h
   cases hs:q7 E g.type with
   | none=>rw [hs] at h';cases h'
   | some z =>
     rw [hs] at h'
     obtain ⟨l,hl,hi⟩:=ih h'
     refine ⟨(g.offset,z)::l,?_,fun i=>?_⟩
     ·simp only [List.mapM_cons,Sem.run_bind,q6 hE hs,Result.andThen_ok,Sem.run_pure,hl]
     ·cases i with
      | zero=>simp [hs]
      | succ i=>simpa using hi i
include hE in
theorem Gw {t:Nat} {parts:List (Nat × AV)} {r:AV} (h:yO E t parts=some r) {parts':List (Nat × Value)} (hp:PR γ parts parts'):u0 E.P γ (Instr.build t ⟨parts'⟩) r:=by
 unfold yO at h
 simp only [uL] at h
 split at h
 ·rename_i fs z hu hz
  split at h
  ·rename_i r' hs hf
   cases h
   obtain ⟨v,hv,hr⟩:=N4 hE hz γ
   intro w
   obtain ⟨l,hl,hi⟩:=Gv hE hs w
   have hpl:∀ i:Nat,rW E t i=l[i]?:=by
    intro i
    rw [hi i]
    unfold rW T3
    rw [hu]
    simp only [H8]
   have hf':eF (fun i:Nat=>l[i]?) parts (j1 z)=some r':=by rw [show (fun i:Nat=>l[i]?)=rW E t from funext fun i=>(hpl i).symm];exact hf
   obtain ⟨out,ho,hro⟩:=lG hp (N3 hr (V2 hz)) hf'
   refine ⟨.agg ⟨out⟩,?_,.agg hro⟩
   simp only [Instr.build,Sem.run_bind,hv w,Result.andThen_ok,i5 hE hu]
   have hm:(fs.mapM (fun f=>do pure (f.offset,← Go.sizeOf f.type):Field→Sem (Nat × Nat))).run E.P w=.ok ⟨l⟩ w:=by
    rw [← Array.toArray_toList (xs:=fs),List.mapM_toArray,Sem.run_map,hl];rfl
   rw [hm]
   simp only [Result.andThen_ok]
   have e:(fun x:Nat=>(⟨l⟩:Array (Nat × Nat))[x]?)=(fun i:Nat=>l[i]?):=by funext i;simp
   rw [e]
   rw [show v.cells=⟨v.cells.toList⟩ from rfl,ho]
   rfl
  ·cases h
 ·rename_i len e z hu hz
  split at h
  ·rename_i n hs
   split at h
   ·rename_i r' hf
    cases h
    obtain ⟨v,hv,hr⟩:=N4 hE hz γ
    intro w
    obtain ⟨out,ho,hro⟩:=lG hp (N3 hr (V2 hz)) hf
    refine ⟨.agg ⟨out⟩,?_,.agg hro⟩
    simp only [Instr.build,Sem.run_bind,hv w,Result.andThen_ok,i5 hE hu,q6 hE hs]
    rw [show v.cells=⟨v.cells.toList⟩ from rfl]
    rw [show (fun i=>some (i * n,n))=(fun i=>some (Nat.mul i n,n)) from rfl,ho]
    rfl
   ·cases h
  ·cases h
 ·cases h
def Vd (E:i3) (S:Hp) (t:Nat) (x:AV):Option AV:=
 match A4 E t with
 | some .string=>(match x with|.str s=>some (.int .i64 (Int.ofNat s.length))|_=>none)
 | some (.array n _)=>some (.int .i64 (Int.ofNat n))
 | some (.pointer a)=>(match A4 E a with|some (.array n _)=>some (.int .i64 (Int.ofNat n))|_=>none)
 | some (.slice _)=>(match x with
  | .nils=>some (.int .i64 0)
  | .sl _ _ n _=>some (.int .i64 (Int.ofNat n))
  | .su _ _ n _=>some (.int .i64 (Int.ofNat n))
  | _=>none)
 | some (.map _ _)=>(match x with
  | .nilm=>some (.int .i64 0)
  | .mp b=>(match T.get b S.hp with|some (.map es _)=>some (.int .i64 (Int.ofNat es.length))|_=>none)
  | _=>none)
 | _=>none
theorem ER.length {l:List (AV × AV × Nat)} {l':List MapEntry} (h:ER γ l l'):l'.length=l.length:=by
 induction h with
 | nil=>rfl
 | cons n hk hv _ ih=>simp [ih]
theorem HR.map {ng:Nat} {S:Hp} {w:World} (h:HR γ ng S w) {b:Ps} {es:List (AV × AV × Nat)} {clock:Nat} {L:Loc} (hb:T.get b S.hp=some (.map es clock)) (hL:γ b=some L) :
 ∃ es',w.heap[L.blk]? = some (.map ⟨es'⟩ clock)∧ER γ es es':=by
 obtain ⟨M,ob,h1,h2,es',rfl,h3⟩:=h.obj b _ hb
 rw [hL] at h1;cases h1
 exact ⟨es',h2,h3⟩
theorem A6 {P:Program} {w:World} {r:Nat} {o:Obj} (h:w.heap[r]? = some o) (hc:∀ c e f,o≠.cells c e f):(Go.getObj r).run P w=.ok o w:=by
 simp only [Go.getObj,Sem.run,h]
 all_goals (cases o <;> first|rfl|exact absurd rfl (hc _ _ _))
include hE in
theorem Ve {t:Nat} {D:TypeDesc} (hu:A4 E t=some D) (x':Value) (ty:TypeId) {ats:Array TypeId} (ha:ats[0]? = some t) {args:Array Value} (hargs:args[0]? = some x') (w:World) :
 (Builtin.len_ ats ty args).run E.P w=((match D,x' with
  | .string,.string s=>pure (goInt s.size)
  | .array n _,_=>pure (goInt n)
  | .pointer arr,_=>do
    let .array n _ ← underlying arr|stuck "len: pointer to array expected"
    pure (goInt n)
  | .slice _,.slice _ n _=>pure (goInt n)
  | .map _ _,.map none|.chan _ _,.chan none=>pure (goInt 0)
  | .map _ _,.map (some r)=>do
    let .map entries _ ← getObj r|stuck "len: map expected"
    pure (goInt entries.size)
  | .chan _ _,.chan (some r)=>do
    let .chan _ buf _ _ _ timer ← getObj r|stuck "len: channel expected"
    pure (goInt (if timer then 0 else buf.size))
  | _,_=>stuck "len: string, array, pointer to array, slice, map or channel expected"):Sem Value).run E.P w:=by
 unfold Builtin.len_
 simp only [ha,hargs,Sem.run_bind,i5 hE hu,Result.andThen_ok]
 rfl
include hE in
theorem Dn {S:Hp} {t:Nat} {x r:AV} (h:Vd E S t x=some r) {x':Value} (hx:VR γ x x') {ng:Nat} {w:World} (hH:HR γ ng S w) {ty:TypeId} {ats:Array TypeId} (ha:ats[0]? = some t) {args:Array Value} (hargs:args[0]? = some x') :
 ∃ v,(Builtin.len_ ats ty args).run E.P w=.ok v w∧VR γ r v:=by
 unfold Vd at h
 cases hu:A4 E t with
 | none=>rw [hu] at h;cases h
 | some D =>
   rw [hu] at h
   have hrun:=Ve hE hu x' ty ha hargs w
   rw [hrun]
   cases D <;> simp only at h <;> first
    | (cases h;done)
    | skip
   ·split at h
    ·cases h;cases hx with
     | str s=>exact ⟨_,rfl,by rw [y4];exact .int _ _⟩
    ·cases h
   ·rename_i a
    split at h
    ·rename_i n e ha
     cases h
     refine ⟨_,?_,.int _ _⟩
     simp only [Sem.run_bind,i5 hE ha,Result.andThen_ok]
     rfl
    ·cases h
   ·split at h
    ·cases h;cases hx;exact ⟨_,rfl,.int _ _⟩
    ·cases h;cases hx;exact ⟨_,rfl,.int _ _⟩
    ·cases h;cases hx;exact ⟨_,rfl,.int _ _⟩
    ·cases h
   ·cases h;exact ⟨_,rfl,.int _ _⟩
   ·split at h
    ·cases h;cases hx;exact ⟨_,rfl,.int _ _⟩
    ·rename_i b
     split at h
     ·rename_i es clock hb
      cases h
      cases hx with
      | mp hL =>
        obtain ⟨es',h1,h2⟩:=hH.map hb hL
        refine ⟨goInt es'.length,?_,by rw [h2.length];exact .int _ _⟩
        simp only [Sem.run_bind,A6 h1 (fun _ _ _ e=>by cases e),Result.andThen_ok]
        rfl
     ·cases h
    ·cases h
def Ls (a b:AV):Option AV:=
 match a,b with
 | .int k x,.int _ y=>some (.int k (d7 (i4 x y) y x))
 | .str s,.str u=>some (.str (Bool.rec s u (Ld s u)))
 | _,_=>none
def Lt (a b:AV):Option AV:=
 match a,b with
 | .int k x,.int _ y=>some (.int k (d7 (i4 y x) y x))
 | .str s,.str u=>some (.str (Bool.rec u s (Bool.or (Ld s u) (seq s u))))
 | _,_=>none
theorem Lu {P:Program} {a b r:AV} (h:Ls a b=some r) {a' b':Value} (ha:VR γ a a') (hb:VR γ b b'):u0 P γ (Builtin.max2 a' b') r:=by
 unfold Ls at h
 split at h
 ·rename_i k x l y
  cases h;cases ha;cases hb
  refine .mk (v:=.int k (if y > x then y else x)) (fun w=>rfl) ?_
  rw [aM]
  by_cases e:x < y
  ·rw [if_pos e,decide_eq_true e];exact .int _ _
  ·rw [if_neg e,decide_eq_false e];exact .int _ _
 ·rename_i s u
  cases h;cases ha with
  | str s=>cases hb with
    | str u =>
      refine .mk (v:=.string (if !(Op.bytesLess s.toList u.toList) then s else u)) (fun w=>?_) ?_
      ·simp [Builtin.max2,Op.stringOp,asBool]
      ·rw [Q6]
       cases Ld (j5 s) (j5 u) <;> exact .str _
 ·cases h
theorem Lv {P:Program} {a b r:AV} (h:Lt a b=some r) {a' b':Value} (ha:VR γ a a') (hb:VR γ b b'):u0 P γ (Builtin.min2 a' b') r:=by
 unfold Lt at h
 split at h
 ·rename_i k x l y
  cases h;cases ha;cases hb
  refine .mk (v:=.int k (if y < x then y else x)) (fun w=>rfl) ?_
  rw [aM]
  by_cases e:y < x
  ·rw [if_pos e,decide_eq_true e];exact .int _ _
  ·rw [if_neg e,decide_eq_false e];exact .int _ _
 ·rename_i s u
  cases h;cases ha with
  | str s=>cases hb with
    | str u =>
      refine .mk (v:=.string (if (Op.bytesLess s.toList u.toList || (s.toList == u.toList)) then s else u)) (fun w=>?_) ?_
      ·simp [Builtin.min2,Op.stringOp,asBool]
      ·rw [Q6,v7]
       cases Ld (j5 s) (j5 u) <;> cases seq (j5 s) (j5 u) <;> exact .str _
 ·cases h
end
def xZ (γ:Gm):Option AV→Option Value→Prop
 | none,none=>True
 | some a,some b=>VR γ a b
 | _,_=>False
section
variable {E:i3} (hE:E.Ok) {γ:Gm}
def CR (i:AV) (n:Nat):Option Nat:=
 match i with
 | .int _ z=>Int.rec (fun m=>Bool.rec none (some m) (Nat.ble m n)) (fun _=>none) z
 | _=>none
theorem rX {i:AV} {n m:Nat} (h:CR i n=some m) {i':Value} (hi:VR γ i i'):∃ k,i'=.int k (Int.ofNat m)∧m≤n:=by
 unfold CR at h
 cases hi with
 | int k z =>
   cases z with
   | ofNat q =>
     obtain ⟨h1,h2⟩:=d5 (b:=Nat.ble q n) h
     cases h2
     exact ⟨k,rfl,Nat.le_of_ble_eq_true h1⟩
   | negSucc q=>cases h
 | _=>cases h
def Up (i:Option AV) (d n:Nat):Option Nat:=match i with|none=>some d|some v=>CR v n
theorem I0 {P:Program} {k:IntKind} {m y:Nat} (h:m≤y) (code:BoundsCode) (w:World):(Instr.sliceBound (.int k (Int.ofNat m)) y code).run P w=.ok m w:=by
 simp only [Instr.sliceBound,asIntOf,Sem.run_bind,Sem.run_pure,Result.andThen_ok]
 rw [if_pos ⟨Int.natCast_nonneg m,Int.ofNat_le.2 h⟩];rfl
theorem yP {P:Program} {isSlice:Bool} {len cap:Nat} {lo hi mx:Option AV} {lo' hi' mx':Option Value} (hlo:xZ γ lo lo') (hhi:xZ γ hi hi') (hmx:xZ γ mx mx') (hm3:mx.isSome=true→hi.isSome=true)
 {l h m:Nat} (hcm:∀ v,mx=some v→CR v m=some m∧m≤cap) (hcm':mx=none→m=cap) (hch:(hi=none→h=len)∧∀ v,hi=some v→CR v h=some h∧h≤m) (hcl:Up lo 0 h=some l) (w:World) :
 (Instr.sliceBounds isSlice len cap lo' hi' mx').run P w=.ok (l,h,m) w:=by
 have hlo2:∀ code:BoundsCode,(match lo' with|some v=>Instr.sliceBound v h code|none=>(pure 0:Sem Nat)).run P w=.ok l w:=by
  intro code
  cases lo with
  | none=>cases lo' with
    | none=>cases hcl;rfl
    | some v=>exact hlo.elim
  | some a=>cases lo' with
    | none=>exact hlo.elim
    | some v =>
      obtain ⟨k,rfl,hle⟩:=rX hcl hlo
      exact I0 hle code w
 cases mx with
 | none=>cases mx' with
   | some v=>exact hmx.elim
   | none =>
     obtain rfl:=hcm' rfl
     cases hi with
     | none=>cases hi' with
       | some v=>exact hhi.elim
       | none =>
         obtain rfl:=hch.1 rfl
         have:=hlo2 .sliceB
         unfold Instr.sliceBounds
         simp only [Sem.run_bind,Sem.run_pure,Result.andThen_ok]
         cases lo' <;> simp_all
     | some a=>cases hi' with
       | none=>exact hhi.elim
       | some v =>
         obtain ⟨hle1,hle⟩:=hch.2 a rfl
         obtain ⟨k,rfl,_⟩:=rX hle1 hhi
         have:=hlo2 .sliceB
         unfold Instr.sliceBounds
         simp only [Sem.run_bind,Sem.run_pure,Result.andThen_ok,I0 hle]
         cases lo' <;> simp_all
 | some b=>cases mx' with
   | none=>exact hmx.elim
   | some u =>
     obtain ⟨hm1,hm2⟩:=hcm b rfl
     obtain ⟨k,rfl,_⟩:=rX hm1 hmx
     cases hi with
     | none=>simp at hm3
     | some a=>cases hi' with
       | none=>exact hhi.elim
       | some v =>
         obtain ⟨hle1,hle⟩:=hch.2 a rfl
         obtain ⟨k2,rfl,_⟩:=rX hle1 hhi
         have:=hlo2 .slice3C
         unfold Instr.sliceBounds
         simp only [Sem.run_bind,Result.andThen_ok,I0 hle,I0 hm2]
         cases lo' <;> simp_all
def lI (len cap:Nat) (lo hi mx:Option AV):Option (Nat × Nat × Nat):=
 match Up mx cap cap with
 | none=>none
 | some m=>(match Up hi len m with
   | none=>none
   | some h=>(match Up lo 0 h with
     | none=>none
     | some l=>(match mx,hi with|some _,none=>none|_,_=>Bool.rec none (some (l,h,m)) (Nat.ble h m))))
theorem eG {v:AV} {n m:Nat} (h:CR v n=some m):CR v m=some m∧m≤n:=by
 unfold CR at *
 cases v with
 | int k z =>
   cases z with
   | ofNat q =>
     obtain ⟨h1,h2⟩:=d5 (b:=Nat.ble q n) h
     cases h2
     refine ⟨?_,Nat.le_of_ble_eq_true h1⟩
     show (Bool.rec none (some m) (Nat.ble m m):Option Nat)=some m
     rw [l8];simp
   | negSucc q=>cases h
 | _=>cases h
def GN (mx:Option AV) (cap m:Nat):Nat:=match mx with|none=>cap|some _=>m
theorem gM {P:Program} {isSlice:Bool} {len lim cap:Nat} {lo hi mx:Option AV} {lo' hi' mx':Option Value} (hlo:xZ γ lo lo') (hhi:xZ γ hi hi') (hmx:xZ γ mx mx') (hlim:lim≤cap) {l h m:Nat}
 (hb:lI len lim lo hi mx=some (l,h,m)) (w:World):(Instr.sliceBounds isSlice len cap lo' hi' mx').run P w=.ok (l,h,GN mx cap m) w∧l≤h∧h≤m∧m≤lim∧(mx=none→m=lim):=by
 unfold lI at hb
 cases h1:Up mx lim lim with
 | none=>rw [h1] at hb;cases hb
 | some m1 =>
   rw [h1] at hb
   simp only at hb
   cases h2:Up hi len m1 with
   | none=>rw [h2] at hb;cases hb
   | some h' =>
     rw [h2] at hb
     simp only at hb
     cases h3:Up lo 0 h' with
     | none=>rw [h3] at hb;cases hb
     | some l' =>
       rw [h3] at hb
       simp only at hb
       have hno:∀ v,mx=some v→hi=none→False:=by
        intro v e1 e2
        subst e1;subst e2
        cases hb
       have hb':(Bool.rec none (some (l',h',m1)) (Nat.ble h' m1):Option (Nat × Nat × Nat))=some (l,h,m):=by
        cases mx <;> cases hi <;> first|exact hb|cases hb
       obtain ⟨hble,hb2⟩:=d5 hb'
       cases hb2
       have hlh:l≤h:=by
        cases lo with
        | none=>cases h3;exact Nat.zero_le _
        | some v=>exact (eG h3).2
       have hmc:m≤lim:=by
        cases mx with
        | none=>cases h1;exact Nat.le_refl _
        | some v=>exact (eG h1).2
       have hhm:=Nat.le_of_ble_eq_true hble
       refine ⟨yP hlo hhi hmx ?_ ?_ ?_ ⟨?_,?_⟩ h3 w,hlh,hhm,hmc,?_⟩
       ·intro hs
        cases mx with
        | none=>cases hs
        | some v=>cases hi with
          | none=>exact (hno v rfl rfl).elim
          | some u=>rfl
       ·intro v e;subst e
        exact ⟨(eG h1).1,Nat.le_trans hmc hlim⟩
       ·intro e;subst e;rfl
       ·intro e;subst e;cases h2;rfl
       ·intro v e;subst e
        refine ⟨(eG h2).1,?_⟩
        cases mx with
        | none=>exact Nat.le_trans hhm (Nat.le_trans hmc hlim)
        | some v=>exact hhm
       ·intro e;subst e;cases h1;rfl
theorem kB {P:Program} {isSlice:Bool} {len cap:Nat} {lo hi mx:Option AV} {lo' hi' mx':Option Value} (hlo:xZ γ lo lo') (hhi:xZ γ hi hi') (hmx:xZ γ mx mx') {l h m:Nat}
 (hb:lI len cap lo hi mx=some (l,h,m)) (w:World):(Instr.sliceBounds isSlice len cap lo' hi' mx').run P w=.ok (l,h,m) w∧l≤h∧h≤m∧m≤cap:=by
 obtain ⟨h1,h2,h3,h4,h5⟩:=gM (P:=P) (isSlice:=isSlice) hlo hhi hmx (Nat.le_refl cap) hb w
 refine ⟨?_,h2,h3,h4⟩
 rw [h1]
 cases mx with
 | none=>rw [h5 rfl];rfl
 | some v=>rfl
def Vf (c:Bool) (o n:Nat):Nat:=Bool.rec (Nat.add o n) o c
def sure (S:Hp) (b:Ps) (o z len:Nat):Nat:=
 match T.get b S.hp with
 | some (.cells c _ _ _ _ _)=>Nat.max len (Nat.div (Nat.sub c.length o) z)
 | _=>len
def rY (E:i3) (S:Hp) (t:Nat) (x:AV) (lo hi mx:Option AV):Option AV:=
 match A4 E t with
 | some .string=>(match x,mx with
  | .str s,none=>(match lI s.length s.length lo hi none with|some (l,h,_)=>some (.str ((w7 l s).take (Nat.sub h l)))|none=>none)
  | _,_=>none)
 | some (.slice e)=>(match q7 E e with
  | none=>none
  | some z=>(match x with
    | .nils=>(match lI 0 0 lo hi mx with|some _=>some .nils|none=>none)
    | .sl b o len cap=>(match lI len cap lo hi mx with|some (l,h,m)=>some (.sl b (Vf (Nat.beq m l) o (Nat.mul l z)) (Nat.sub h l) (Nat.sub m l))|none=>none)
    | .su b o len z'=>Bool.rec none (match mx with
     | some _=>(match lI len (sure S b o z len) lo hi mx with|some (l,h,m)=>some (.sl b (Vf (Nat.beq m l) o (Nat.mul l z)) (Nat.sub h l) (Nat.sub m l))|none=>none)
     | none=>(match lI len (sure S b o z len) lo hi none with
      | some (l,h,_)=>Bool.rec none (some (.su b (Nat.add o (Nat.mul l z)) (Nat.sub h l) z)) (Bool.or (Nat.beq l 0) (Nat.blt l (sure S b o z len)))
      | none=>none)) (Nat.beq z z')
    | _=>none))
 | some (.array n e)=>(match q7 E e,x with
  | some z,.ptr b o=>(match lI n n lo hi mx with|some (l,h,m)=>some (.sl b (Vf (Nat.beq m l) o (Nat.mul l z)) (Nat.sub h l) (Nat.sub m l))|none=>none)
  | _,_=>none)
 | _=>none
theorem oL (s:ByteArray) (l h:Nat):j5 (s.extract l h)=((j5 s).drop l).take (h - l):=by
 unfold j5
 rw [ByteArray.data_extract,Array.toList_extract,List.map_take,List.map_drop]
theorem rZ {b:Ps} {L:Loc} (hb:γ b=some L) {o l h m z:Nat} :
 VR γ (.sl b (Vf (Nat.beq m l) o (Nat.mul l z)) (Nat.sub h l) (Nat.sub m l)) (.slice (some (if m=l then (⟨L.blk,L.off+o,none⟩:Addr) else (⟨L.blk,L.off+o,none⟩:Addr).add (l * z))) (h - l) (m - l)):=by
 rw [i9]
 by_cases e:m=l
 ·rw [decide_eq_true e,if_pos e];exact .sl _ _ _ hb
 ·rw [decide_eq_false e,if_neg e,B4,Nat.add_assoc];exact .sl _ _ _ hb
theorem HR.sure {ng:Nat} {S:Hp} {w:World} (hH:HR γ ng S w) {b:Ps} {L:Loc} (hb:γ b=some L) {o z len cap:Nat} (hl:len≤cap) (hz:0 < z) (he:L.off+o+cap * z=L.siz):sure S b o z len≤cap:=by
 unfold AM.sure
 split
 ·rename_i c elem ex sty lo hi hc
  obtain ⟨M,ob,h1,h2,pre,cs,post,fz,rfl,h4,h5,h6,_⟩:=hH.obj b _ hc
  rw [hb] at h1;cases h1
  have e1:=h6.length
  have h5:=h5.2
  show max len ((c.length - o) / z)≤cap
  refine Nat.max_le.2 ⟨hl,?_⟩
  rw [Nat.div_le_iff_le_mul_add_pred hz]
  have:z * cap=cap * z:=Nat.mul_comm _ _
  omega
 ·exact hl
include hE in
theorem pN {S:Hp} {ng:Nat} {w:World} (hH:HR γ ng S w) {t:Nat} {x r:AV} {lo hi mx:Option AV} (h:rY E S t x lo hi mx=some r) {x':Value} {lo' hi' mx':Option Value} (hx:VR γ x x') (hlo:xZ γ lo lo')
 (hhi:xZ γ hi hi') (hmx:xZ γ mx mx'):∃ v,(Instr.sliceAt t x' lo' hi' mx').run E.P w=.ok v w∧VR γ r v:=by
 unfold rY at h
 split at h
 ·rename_i hu
  split at h
  ·rename_i s
   split at h
   ·rename_i l hh m hb
    cases h
    cases hx with
    | str s =>
      cases mx' with
      | some v=>exact hmx.elim
      | none =>
        obtain ⟨hr,_⟩:=kB (P:=E.P) (isSlice:=false) (mx:=none) (mx':=none) hlo hhi trivial hb w
        rw [y4] at hr
        refine ⟨.string (s.extract l hh),?_,?_⟩
        ·simp only [Instr.sliceAt,Instr.slice,Sem.run_bind,i5 hE hu,Result.andThen_ok]
         simp [hr]
        ·rw [E6,show Nat.sub hh l=hh - l from rfl,← oL];exact .str _
   ·cases h
  ·cases h
 ·rename_i e hu
  split at h
  ·cases h
  ·rename_i z hs
   split at h
   ·split at h
    ·rename_i q hb
     cases h
     cases hx
     obtain ⟨l,hh,m⟩:=q
     obtain ⟨hr,h1,h2,h3⟩:=kB (P:=E.P) (isSlice:=true) hlo hhi hmx hb w
     have:m=0:=by omega
     have:hh=0:=by omega
     have:l=0:=by omega
     subst_vars
     refine ⟨.slice none 0 0,?_,.nils⟩
     simp only [Instr.sliceAt,Instr.slice,Sem.run_bind,i5 hE hu,Result.andThen_ok,hr,q6 hE hs]
     rfl
    ·cases h
   ·rename_i b o len cap
    split at h
    ·rename_i l hh m hb
     cases h
     cases hx with
     | @sl _ L _ _ _ hL =>
       obtain ⟨hr,h1,h2,h3⟩:=kB (P:=E.P) (isSlice:=true) hlo hhi hmx hb w
       refine ⟨_,?_,rZ hL⟩
       simp only [Instr.sliceAt,Instr.slice,Sem.run_bind,i5 hE hu,Result.andThen_ok,hr,q6 hE hs]
       by_cases e2:m=l
       ·simp [e2]
       ·simp [e2]
    ·cases h
   ·rename_i b o len z'
    obtain ⟨hzz,h9⟩:=d5 h
    clear h
    have hz:=Nat.eq_of_beq_eq_true hzz
    subst hz
    cases hx with
    | @su _ L _ _ cap _ hL hlc hz0 he =>
      have hsure:=hH.sure hL hlc hz0 he
      split at h9
      ·rename_i u
       split at h9
       ·rename_i l hh m hb
        cases h9
        obtain ⟨hr,h1,h2,h3,_⟩:=gM (P:=E.P) (isSlice:=true) hlo hhi hmx hsure hb w
        refine ⟨_,?_,rZ hL⟩
        simp only [Instr.sliceAt,Instr.slice,Sem.run_bind,i5 hE hu,Result.andThen_ok,hr,q6 hE hs,GN]
        by_cases e2:m=l
        ·simp [e2]
        ·simp [e2]
       ·cases h9
      ·split at h9
       ·rename_i l hh m hb
        obtain ⟨hor,h8⟩:=d5 h9
        cases h8
        cases mx' with
        | some v=>exact hmx.elim
        | none =>
          obtain ⟨hr,h1,h2,h3,hm⟩:=gM (P:=E.P) (isSlice:=true) hlo hhi hmx hsure hb w
          have hlm:l≤cap:=by omega
          refine ⟨.slice (some ⟨L.blk,L.off+(o+l * z),none⟩) (hh - l) (cap - l),?_,?_⟩
          ·simp only [Instr.sliceAt,Instr.slice,Sem.run_bind,i5 hE hu,Result.andThen_ok,hr,q6 hE hs,GN]
           rw [i9,f6] at hor
           simp only [Bool.or_eq_true,decide_eq_true_eq] at hor
           rcases hor with h0|h0
           ·subst h0
            by_cases e2:cap=0
            ·simp [e2]
            ·simp [e2,B4]
           ·have e2:¬ cap=l:=by omega
            simp [e2,B4,Nat.add_assoc]
          ·refine .su _ _ _ _ hL (show Nat.sub hh l≤cap - l from Nat.sub_le_sub_right (by omega) l) hz0 ?_
           show L.off+(o+l * z)+(cap - l) * z=L.siz
           rw [← he,Nat.sub_mul]
           have:l * z≤cap * z:=Nat.mul_le_mul_right z hlm
           omega
       ·cases h9
   ·cases h
 ·rename_i n e hu
  split at h
  ·rename_i z b o hs
   split at h
   ·rename_i l hh m hb
    cases h
    cases hx with
    | @ptr _ L _ hL =>
      obtain ⟨hr,h1,h2,h3⟩:=kB (P:=E.P) (isSlice:=false) hlo hhi hmx hb w
      refine ⟨_,?_,rZ hL⟩
      simp only [Instr.sliceAt,Instr.sureAddr,Sem.run_bind,Sem.run_pure,i5 hE hu,Result.andThen_ok,hr,q6 hE hs]
   ·cases h
  ·cases h
 ·cases h
end
def yA (P:Program) (γ:Gm) (ng:Nat) (S:Hp) (s:Sem Value) (x:AV) (S':Hp):Prop:=
 ∀ w,HR γ ng S w→∃ γ' v w',s.run P w=.ok v w'∧VR γ' x v∧HR γ' ng S' w'∧j6 S γ w S' γ' w'
def Gx (P:Program) (γ:Gm) (ng:Nat) (S:Hp) (s:Sem Unit) (S':Hp):Prop:=
 ∀ w,HR γ ng S w→∃ γ' w',s.run P w=.ok () w'∧HR γ' ng S' w'∧j6 S γ w S' γ' w'
theorem eH {P:Program} {w:World} {a:Addr} (vs:List Value):∀ (i:Nat) (acc:Array Value),(∀ j v,vs[j]? = some v→w.cell? (a.add (i+j))=some v) →
 (Go.loadCellsFrom a i vs.length acc).run P w=.ok (acc++vs.toArray) w:=by
 induction vs with
 | nil=>intro i acc h;simp [Go.loadCellsFrom]
 | cons v vs ih =>
   intro i acc h
   have h0:=h 0 v rfl
   simp only [List.length_cons,Go.loadCellsFrom,Sem.run_bind]
   rw [show (Go.load (a.add i)).run P w=.ok v w from by simp only [Go.load,Sem.run];rw [show a.add i=a.add (i+0) from rfl,h0]]
   simp only [Result.andThen_ok]
   rw [ih (i+1) (acc.push v) (fun j u hj=>by have:=h (j+1) u hj;rwa [show i+(j+1)=i+1+j from by omega] at this)]
   congr 1
   apply Array.ext'
   simp
theorem HR.range {γ:Gm} {ng:Nat} {S:Hp} {w:World} (h:HR γ ng S w) {a:Ps} {c:List AV} {elem lo hi:Nat} {ex sty:Bool} {L:Loc} (ha:S.hp.get a=some (.cells c elem ex sty lo hi)) (hL:γ a=some L)
 {o n:Nat} {l:List AV} (hl:t9 n (w7 o c)=some l) (P:Program):∃ vs,(Go.loadCells ⟨L.blk,L.off+o,none⟩ n).run P w=.ok ⟨vs⟩ w∧LR γ l vs∧vs.length=n:=by
 obtain ⟨M,ob,h1,h2,pre,cs,post,fz,rfl,h4,h5,h6,h7⟩:=h.obj a _ ha
 rw [hL] at h1;cases h1
 obtain ⟨e,hle⟩:=E7 hl
 rw [E6] at e hle
 refine ⟨(cs.drop o).take n,?_,e ▸ (h6.drop o).take n,?_⟩
 ·have hn:((cs.drop o).take n).length=n:=by
   have:=h6.length
   simp at hle ⊢;omega
  have:=eH (P:=P) (w:=w) (a:=⟨L.blk,L.off+o,none⟩) ((cs.drop o).take n) 0 #[] ?_
  ·rw [hn] at this
   unfold Go.loadCells
   rw [this];simp
  ·intro j v hj
   have hlt:j < n:=by
    have:=(List.getElem?_eq_some_iff.1 hj).1
    omega
   rw [List.getElem?_take_of_lt hlt,List.getElem?_drop] at hj
   rw [B4,Nat.zero_add]
   unfold World.cell?
   rw [h2]
   have hi:o+j < cs.length:=(List.getElem?_eq_some_iff.1 hj).1
   simp only [Option.isSome_none,Bool.false_eq_true,if_false]
   rw [← h4,List.getElem?_toArray,List.append_assoc,List.getElem?_append_right (by omega)]
   rw [show pre.length+o+j - pre.length=o+j from by omega,List.getElem?_append_left hi];exact hj
 ·have:=h6.length
  simp at hle ⊢;omega
section
variable {E:i3} (hE:E.Ok) {γ:Gm}
def aQ (E:i3) (t:Nat) (c:List AV) (o:Nat):Option AV:=K4 E t c o
def sB (E:i3) (t:Nat) (c:List AV) (o:Nat):Option AV:=
 match aN E t,q7 E t with
 | some true,some n=>(match t9 n (w7 o c) with|some l=>some (.agg l)|none=>none)
 | some false,_=>nth c o
 | _,_=>none
theorem lJ (E:i3) (t:Nat) (c:List AV) (o:Nat):aQ E t c o=sB E t c o:=uI E t c o
def GO (o:AO):Option (List AV):=AO.rec (fun c _ _ _ _ _=>some c) (fun _ _=>none) (fun _ _=>none) (fun _ _ _ _ _ _ _ _ _=>none) (fun _=>none) (fun _ _ _ _ _ _ _=>none) o
def CS (E:i3) (t:Nat) (o:Nat) (a:Option AO):Option AV:=Option.rec none (fun a=>Option.rec none (fun c=>aQ E t c o) (GO a)) a
def uN (E:i3) (S:Hp) (t:Nat) (x:AV):Option AV:=
 Option.rec none (fun p=>Prod.rec (fun b o=>CS E t o (T.get b S.hp)) p) (Ky x)
def lK (E:i3) (S:Hp) (t:Nat) (x:AV):Option AV:=
 match x with
 | .ptr b o=>(match T.get b S.hp with|some (.cells c _ _ _ _ _)=>aQ E t c o|_=>none)
 | _=>none
theorem lL (E:i3) (S:Hp) (t:Nat) (x:AV):uN E S t x=lK E S t x:=by
 unfold uN lK
 cases x <;> first
  | rfl
  | (rename_i b o
     show CS E t o (T.get b S.hp)=_
     simp only
     cases T.get b S.hp with
     | none=>rfl
     | some a=>cases a <;> rfl)
include hE in
theorem yQ {S:Hp} {ng:Nat} {w:World} (hH:HR γ ng S w) {t:Nat} {b:Ps} {o:Nat} {c:List AV} {elem lo hi:Nat} {ex sty:Bool} {L:Loc} (hb:T.get b S.hp=some (.cells c elem ex sty lo hi)) (hL:γ b=some L) {r:AV}
 (h:aQ E t c o=some r):∃ v,(Go.loadVar t ⟨L.blk,L.off+o,none⟩).run E.P w=.ok v w∧VR γ r v:=by
 rw [lJ] at h;unfold sB at h
 split at h
 ·rename_i n ha hs
  split at h
  ·rename_i l hl
   cases h
   obtain ⟨vs,hv,hr,_⟩:=hH.range hb hL hl E.P
   refine ⟨.agg ⟨vs⟩,?_,.agg hr⟩
   simp only [Go.loadVar,Sem.run_bind,bR hE ha,Result.andThen_ok,if_true,q6 hE hs,hv];rfl
  ·cases h
 ·rename_i ha
  rw [H8] at h
  obtain ⟨v,hv,hr⟩:=hH.cell hb hL h
  refine ⟨v,?_,hr⟩
  simp only [Go.loadVar,Sem.run_bind,bR hE ha,Result.andThen_ok,Bool.false_eq_true,if_false]
  simp only [Go.load,Sem.run,hv]
 ·cases h
include hE in
theorem eI {S:Hp} {ng:Nat} {w:World} (hH:HR γ ng S w) {t:Nat} {x r:AV} (h:uN E S t x=some r) {x':Value} (hx:VR γ x x'):∃ v,(Instr.loadAt t x').run E.P w=.ok v w∧VR γ r v:=by
 rw [lL] at h;unfold lK at h
 split at h
 ·rename_i b o
  split at h
  ·rename_i c elem ex sty lo hi hb
   cases hx with
   | ptr _ hL =>
     obtain ⟨v,hv,hr⟩:=yQ hE hH hb hL h
     exact ⟨v,by simp only [Instr.loadAt,Instr.sureAddr,Sem.run_bind,Sem.run_pure,Result.andThen_ok,hv],hr⟩
  ·cases h
 ·cases h
def Lw (x:AV):Bool:=match x with|.agg _=>false|.tup _=>false|.any=>false|_=>true
def K5 (l:List AV):Bool:=List.rec true (fun x _ ih=>Bool.rec false ih (Lw x)) l
def Value.isCell:Value→Prop|.agg _=>False|.tuple _=>False|_=>True
theorem Vg {x:AV} {v:Value} (h:VR γ x v) (hs:Lw x=true):Value.isCell v:=by
 cases h <;> first|exact trivial|cases hs
theorem uO {l:List AV} {l':List Value} (h:LR γ l l') (hs:K5 l=true):∀ v ∈ l',Value.isCell v:=by
 induction l generalizing l' with
 | nil=>cases h;intro v hv;cases hv
 | cons x l ih =>
   cases h with
   | cons h t =>
     obtain ⟨h1,h2⟩:Lw x=true∧K5 l=true:=by
      have hs':(Bool.rec false (K5 l) (Lw x):Bool)=true:=hs
      cases hx:Lw x with
      | false=>rw [hx] at hs';cases hs'
      | true=>rw [hx] at hs';exact ⟨rfl,hs'⟩
     intro v hv
     cases hv with
     | head=>exact Vg h h1
     | tail _ hv=>exact ih t h2 v hv
theorem Gy {P:Program} {w:World} {a:Addr} {v u:Value} (hv:Value.isCell v) (hc:w.cell? a=some u) (hf:w.frozen? a=false):(Go.store a v).run P w=.ok () (w.setCell a v):=by
 cases v <;> first|exact hv.elim|simp [Go.store,Sem.run,hc,hf]
theorem aR {P:Program} {B O:Nat} {elem:TypeId} {fz:Nat × Nat} (vs:List Value):∀ (i:Nat) (w:World) (cs:List Value),w.heap[B]? = some (.cells ⟨cs⟩ elem fz)→O+i+vs.length≤cs.length →
 (∀ j,j < vs.length→¬ (fz.1≤O+i+j∧O+i+j < fz.2))→(∀ v ∈ vs,Value.isCell v) →
 (Go.storeCells ⟨B,O,none⟩ vs i).run P w=.ok () { w with heap:=w.heap.setIfInBounds B (.cells ⟨m7 vs (O+i) cs⟩ elem fz) }:=by
 induction vs with
 | nil =>
   intro i w cs hb hl hf hv
   have hlt:=(Array.getElem?_eq_some_iff.1 hb).1
   simp only [Go.storeCells,Sem.run_pure]
   congr 1
   cases w with|mk heap tape drawn os output =>
    simp only at hb hlt ⊢
    congr 1
    apply Array.ext_getElem?
    intro r
    rw [Array.getElem?_setIfInBounds]
    split
    ·rename_i e;subst e;exact hb
    ·rfl
 | cons v vs ih =>
   intro i w cs hb hl hf hv
   have hlt:=(Array.getElem?_eq_some_iff.1 hb).1
   simp only [List.length_cons] at hl
   have hcell:w.cell? ⟨B,O+i,none⟩=some (cs[O+i]'(by omega)):=by
    unfold World.cell?
    rw [hb]
    simp
   have hfr:w.frozen? ⟨B,O+i,none⟩=false:=by
    unfold World.frozen?
    rw [hb]
    have:=hf 0 (by simp)
    simp only [Nat.add_zero] at this
    rw [Bool.eq_false_iff]
    simp only [ne_eq,Bool.and_eq_true,decide_eq_true_eq]
    exact this
   have hw1:(w.setCell ⟨B,O+i,none⟩ v)={ w with heap:=w.heap.setIfInBounds B (.cells ⟨cs.set (O+i) v⟩ elem fz) }:=by
    unfold World.setCell
    congr 1
    apply Array.ext_getElem?
    intro r
    rw [Array.getElem?_modify,Array.getElem?_setIfInBounds]
    split
    ·rename_i e
     have e':B=r:=e
     subst e'
     show Option.map _ w.heap[B]? = _
     rw [hb]
     simp [Array.setIfInBounds,Array.set]
     intro hge;omega
    ·rfl
   simp only [Go.storeCells,Sem.run_bind,B4]
   rw [Gy (hv v (List.mem_cons_self)) hcell hfr]
   simp only [Result.andThen_ok]
   rw [hw1,ih (i+1) _ (cs.set (O+i) v) ?_ ?_ ?_ ?_]
   ·show Result.ok () _=_
    congr 1
    show ({ w with heap:=(w.heap.setIfInBounds B _).setIfInBounds B (.cells ⟨m7 vs (O+(i+1)) (cs.set (O+i) v)⟩ elem fz) }:World)=_
    rw [Array.setIfInBounds_setIfInBounds]
    show _=({ w with heap:=w.heap.setIfInBounds B (.cells ⟨m7 vs (O+i+1) (X2 v cs (O+i))⟩ elem fz) }:World)
    rw [G7];rfl
   ·show (w.heap.setIfInBounds B _)[B]? = _
    rw [Array.getElem?_setIfInBounds_self,if_pos hlt]
   ·simp;omega
   ·intro j hj
    have:=hf (j+1) (by simp;omega)
    rw [show O+(i+1)+j=O+i+(j+1) from by omega];exact this
   ·intro u hu;exact hv u (List.mem_cons_of_mem _ hu)
theorem sC {α:Type} (vs:List α):∀ (pre cs post:List α) (o:Nat),o+vs.length≤cs.length→m7 vs (pre.length+o) (pre++cs++post)=pre++m7 vs o cs++post:=by
 induction vs with
 | nil=>intro pre cs post o h;rfl
 | cons v vs ih =>
   intro pre cs post o h
   simp only [List.length_cons] at h
   show m7 vs (pre.length+o+1) (X2 v (pre++cs++post) (pre.length+o))=pre++m7 vs (o+1) (X2 v cs o)++post
   rw [G7,G7]
   rw [show (pre++cs++post).set (pre.length+o) v=pre++cs.set o v++post from by
    rw [List.append_assoc,List.set_append_right _ _ (by omega),show pre.length+o - pre.length=o from by omega,List.set_append_left _ _ (by omega),List.append_assoc]]
   exact ih pre (cs.set o v) post (o+1) (by simp;omega)
theorem Lx {vs:List AV} {vs':List Value} (h:LR γ vs vs'):∀ (o:Nat) {cs:List AV} {cs':List Value},LR γ cs cs'→LR γ (m7 vs o cs) (m7 vs' o cs'):=by
 induction vs generalizing vs' with
 | nil=>intro o cs cs' hc;cases h;exact hc
 | cons v vs ih =>
   intro o cs cs' hc
   cases h with
   | @cons _ y _ l' hv ht =>
     show LR γ (m7 vs (o+1) (X2 v cs o)) (m7 l' (o+1) (X2 y cs' o))
     rw [G7,G7]
     exact ih ht (o+1) (hc.set o hv)
theorem Ly {x:AV} (h:K5 (j1 x)=true):D6 x=true:=by cases x <;> first|rfl|cases h
def eJ (lo hi o n:Nat):Bool:=Bool.or (Nat.beq lo hi) (Bool.or (Nat.ble (Nat.add o n) lo) (Nat.ble hi o))
def Lz {α:Type} (vs:List α) (o:Nat) (c:List α):List α:=Bool.rec (lD vs o c) (Bool.rec (lD vs o c) vs (Nat.beq (y8 c) (y8 vs))) (Nat.beq o 0)
theorem Ma {α:Type} (vs:List α) (o:Nat) (c:List α):Lz vs o c=m7 vs o c:=by
 unfold Lz
 rw [lE]
 cases h:Nat.beq o 0 with
 | false=>rfl
 | true =>
   have h0:=Nat.eq_of_beq_eq_true h
   subst h0
   cases h1:Nat.beq (y8 c) (y8 vs) with
   | false=>rfl
   | true =>
     have h2:=Nat.eq_of_beq_eq_true h1
     rw [x4,x4] at h2
     show vs=_
     rw [lF vs 0 c (by omega)]
     simp [← h2]
def Mb {α:Type} (o m:Nat) (c:List α):Bool:=Bool.rec (Gu (Nat.add o m) c) (Nat.ble m (y8 c)) (Nat.beq o 0)
theorem Mc {α:Type} (o m:Nat) (c:List α):Mb o m c=Nat.ble (Nat.add o m) c.length:=by
 unfold Mb
 rw [rU,x4]
 cases h:Nat.beq o 0 with
 | false=>rfl
 | true=>have h0:=Nat.eq_of_beq_eq_true h;subst h0;show Nat.ble m c.length=Nat.ble (0+m) c.length;rw [Nat.zero_add]
def GP (S:Hp) (b:Ps) (o:Nat) (vs:List AV) (a:AO):Option Hp:=
 AO.rec (fun c elem ex sty lo hi=>Bool.rec none (Bool.rec none (Bool.rec none (Bool.rec none (some (S.put b (.cells (Lz vs o c) elem ex sty lo hi))) (K5 vs)) (eJ lo hi o (y8 vs))) (Mb o (y8 vs) c)) (Nat.ble S.fl b.idx))
  (fun _ _=>none) (fun _ _=>none) (fun _ _ _ _ _ _ _ _ _=>none) (fun _=>none) (fun _ _ _ _ _ _ _=>none) a
def oM (S:Hp) (b:Ps) (o:Nat) (vs:List AV):Option Hp:=Option.rec none (fun a=>GP S b o vs a) (T.get b S.hp)
def uP (S:Hp) (b:Ps) (o:Nat) (vs:List AV):Option Hp:=
 match T.get b S.hp with
 | some (.cells c elem ex sty lo hi) =>
   (match Nat.ble S.fl b.idx,Nat.ble (Nat.add o vs.length) c.length,eJ lo hi o vs.length,K5 vs with
    | true,true,true,true=>some (S.put b (.cells (m7 vs o c) elem ex sty lo hi))
    | _,_,_,_=>none)
 | _=>none
theorem sD (S:Hp) (b:Ps) (o:Nat) (vs:List AV):oM S b o vs=uP S b o vs:=by
 unfold oM uP
 cases T.get b S.hp with
 | none=>rfl
 | some a =>
   cases a with
   | cells c elem ex sty lo hi =>
     show GP S b o vs (.cells c elem ex sty lo hi)=_
     unfold GP
     simp only [x4,Mc,Ma]
     cases Nat.ble S.fl b.idx <;> cases Nat.ble (Nat.add o vs.length) c.length <;> cases eJ lo hi o vs.length <;> cases K5 vs <;> rfl
   | _=>rfl
theorem eK {S S':Hp} {b:Ps} {o:Nat} {vs:List AV} (h:oM S b o vs=some S') {L:Loc} (hL:γ b=some L) {vs':List Value} (hv:LR γ vs vs') {P:Program} {ng:Nat} :
 Gx P γ ng S (Go.storeCells ⟨L.blk,L.off+o,none⟩ vs') S':=by
 intro w hH
 rw [sD] at h;unfold uP at h
 split at h
 ·rename_i c elem ex sty lo hi hb
  split at h
  ·rename_i h1 h2 h3 h4
   cases h
   obtain ⟨M,ob,g1,g2,pre,cs,post,fz,rfl,g4,g5,g6,g7,g8,g9⟩:=hH.obj b _ hb
   rw [hL] at g1;cases g1
   have hle:=Nat.le_of_ble_eq_true h2
   have hle':o+vs.length≤c.length:=hle
   have e1:=hv.length
   have e2:=g6.length
   have hlt:=(Array.getElem?_eq_some_iff.1 g2).1
   have hrun:=aR (P:=P) (B:=L.blk) (O:=L.off+o) (elem:=elem) (fz:=fz) vs' 0 w (pre++cs++post) g2 (by simp;omega) ?_ (uO hv h4)
   ·rw [Nat.add_zero,← g4,sC _ _ _ _ _ (by omega)] at hrun
    refine ⟨γ,_,by rw [← g4];exact hrun,?_⟩
    refine hH.put (o':=.cells (m7 vs o c) elem ex sty lo hi) (ob':=.cells ⟨pre++m7 vs' o cs++post⟩ elem fz) hb hL (Nat.le_of_ble_eq_true h1) (by simp) ?_ ?_ ?_ rfl rfl
    ·intro r hr;exact Array.getElem?_setIfInBounds_ne (fun e=>hr e.symm)
    ·show (w.heap.setIfInBounds L.blk _)[L.blk]? = _
     rw [Array.getElem?_setIfInBounds_self,if_pos hlt]
    ·refine ⟨pre,m7 vs' o cs,post,fz,rfl,g4,?_,Lx hv o g6,g7,by rw [H9];exact g8,g9⟩
     exact ⟨by rw [H9];exact g5.1,by rw [H9];exact g5.2⟩
   ·intro j hj hc
    have hth:eJ lo hi o vs.length=true:=h3
    unfold eJ at hth
    rw [i9,l8,l8] at hth
    simp only [Bool.or_eq_true,decide_eq_true_eq] at hth
    have hth2:lo=hi∨o+vs.length≤lo∨hi≤o:=hth
    rcases g7.1 (L.off+o+0+j) (by omega) hc.1 hc.2 with hx|⟨hx,hy⟩
    ·have:=g5.2;omega
    ·omega
  ·cases h
 ·cases h
def dG (S:Hp) (b:Ps) (o n:Nat) (c:List AV):Option Hp:=Bool.rec none (oM S b o c) (Nat.beq (y8 c) n)
def lM (E:i3) (S:Hp) (t:Nat) (a v:AV):Option Hp:=
 Option.rec none (fun p=>Option.rec none (fun n=>Prod.rec (fun b o=>dG S b o n (j1 v)) p) (q7 E t)) (Ky a)
def sE (E:i3) (S:Hp) (t:Nat) (a v:AV):Option Hp:=
 match a,q7 E t with
 | .ptr b o,some n=>Bool.rec none (oM S b o (j1 v)) (Nat.beq (j1 v).length n)
 | _,_=>none
theorem Gz (E:i3) (S:Hp) (t:Nat) (a v:AV):lM E S t a v=sE E S t a v:=by
 unfold lM sE
 cases a <;> first
  | rfl
  | (cases q7 E t with
     | none=>rfl
     | some n =>
       rename_i b o
       show dG S b o n (j1 v)=_
       unfold dG
       rw [x4])
include hE in
theorem pO {S S':Hp} {t:Nat} {a v:AV} (h:lM E S t a v=some S') {a' v':Value} (ha:VR γ a a') (hv:VR γ v v') {ng:Nat}:Gx E.P γ ng S (Instr.storeAt t a' v') S':=by
 rw [Gz] at h;unfold sE at h
 split at h
 ·rename_i b o n hs
  obtain ⟨hn,h2⟩:=d5 h
  have hn':=Nat.eq_of_beq_eq_true hn
  cases ha with
  | @ptr _ L _ hL =>
    intro w hH
    have hc:=N3 hv (Ly (by
     rw [sD] at h2;unfold uP at h2
     split at h2
     ·split at h2
      ·assumption
      ·cases h2
     ·cases h2))
    obtain ⟨γ',w',hrun,hr⟩:=eK (P:=E.P) (ng:=ng) h2 hL hc w hH
    refine ⟨γ',w',?_,hr⟩
    have e:v'.cells.size=n:=by rw [← Array.length_toList,hc.length];exact hn'
    simp only [Instr.storeAt,Instr.sureAddr,Go.storeVar,Sem.run_bind,Sem.run_pure,Result.andThen_ok,q6 hE hs,e,ne_eq,not_true_eq_false,if_false]
    exact hrun
 ·cases h
end
section
variable {E:i3} (hE:E.Ok) {γ:Gm}
theorem yR {P:Program} {ng:Nat} {S:Hp} {w:World} (hH:HR γ ng S w) {cs:List AV} {cs':List Value} (hc:LR γ cs cs') (t:TypeId) :
 ∃ γ' w',(Go.newRow t ⟨cs'⟩).run P w=.ok ⟨w.heap.size,0,none⟩ w'∧γ' S.nx=some ⟨w.heap.size,0,cs'.length⟩∧HR γ' ng (S.alloc (.cells cs t true false 0 0)) w'∧j6 S γ w (S.alloc (.cells cs t true false 0 0)) γ' w':=by
 have hle:Gm.le γ (γ.with S.nx ⟨w.heap.size,0,cs'.length⟩):=Gm.le_with hH.nx_none
 refine ⟨γ.with S.nx ⟨w.heap.size,0,cs'.length⟩,{ w with heap:=w.heap.push (.cells ⟨cs'⟩ t) },?_,Gm.with_same _ _ _,?_⟩
 ·simp only [Go.newRow,Sem.run_bind,run_newObj,Result.andThen_ok];rfl
 ·refine hH.alloc rfl rfl rfl ?_
  refine ⟨[],cs',[],(0,0),by simp,rfl,uG.of_eq (by simp),hc.mono hle,⟨fun p _ h1 h2=>by omega,fun _=>.inl rfl⟩,Nat.zero_le _,fun _=>⟨rfl,rfl⟩⟩
def WK (S:Hp) (t:Nat) (cs:List AV):AV × Hp:=(.ptr S.nx 0,S.alloc (.cells cs t true false 0 0))
theorem pP {P:Program} {ng:Nat} {S:Hp} {x:AV} {v:Value} (hx:VR γ x v) (hn:D6 x=true) (t:TypeId):yA P γ ng S (do pure (.pointer (some (← Go.newVar t v)))) (.ptr S.nx 0) (S.alloc (.cells (j1 x) t true false 0 0)):=by
 intro w hH
 obtain ⟨γ',w',h1,h2,h3,h4⟩:=yR (P:=P) hH (N3 hx hn) t
 refine ⟨γ',.pointer (some ⟨w.heap.size,0,none⟩),w',?_,?_,h3,h4⟩
 ·simp only [Go.newVar,Sem.run_bind]
  rw [show v.cells=⟨v.cells.toList⟩ from rfl,h1];rfl
 ·exact .ptr (L:=⟨w.heap.size,0,_⟩) 0 h2
def sF (E:i3) (S:Hp) (t:Nat):Option (AV × Hp):=match G3 E t with|some z=>some (WK S t (j1 z))|none=>none
include hE in
theorem Ha {S S':Hp} {t:Nat} {r:AV} (h:sF E S t=some (r,S')) {ng:Nat}:yA E.P γ ng S (Instr.alloc t true (.tuple #[])) r S':=by
 unfold sF at h
 split at h
 ·rename_i z hz
  cases h
  obtain ⟨v,hv,hr⟩:=N4 hE hz γ
  intro w hH
  obtain ⟨γ',u,w',h1,h2⟩:=pP (P:=E.P) (ng:=ng) (S:=S) hr (V2 hz) t w hH
  refine ⟨γ',u,w',?_,h2⟩
  simp only [Instr.alloc,Sem.run_bind,hv w,Result.andThen_ok]
  exact h1
 ·cases h
theorem GQ {P:Program} {S:Hp} {t:Nat} {x:AV} {v:Value} (hx:VR γ x v) (hn:D6 x=true) {ng:Nat}:yA P γ ng S (Instr.box t v) (.ptr S.nx 0) (S.alloc (.cells (j1 x) t true false 0 0)):=by
 unfold Instr.box;exact pP hx hn t
def uQ (n:Nat) (l:List AV):List AV:=Nat.rec [] (fun _ ih=>List.append l ih) n
theorem Do {l:List AV} {l':List Value} (h:LR γ l l') (n:Nat):LR γ (uQ n l) ((List.replicate n l').flatten):=by
 induction n with
 | zero=>exact .nil
 | succ n ih=>show LR γ (l++uQ n l) _;rw [List.replicate_succ,List.flatten_cons];exact h.append ih
theorem jO {l:List Value} (n i:Nat) (h:i < n * l.length):((List.replicate n l).flatten)[i]? = l[i % l.length]?:=by
 induction n generalizing i with
 | zero=>simp at h
 | succ n ih =>
   rw [List.replicate_succ,List.flatten_cons]
   by_cases e:i < l.length
   ·rw [List.getElem?_append_left e,Nat.mod_eq_of_lt e]
   ·rw [List.getElem?_append_right (by omega),ih (i - l.length) (by rw [Nat.succ_mul] at h;omega)]
    rw [Nat.mod_eq_sub_mod (a:=i) (by omega)]
theorem pQ (z:Array Value) (n k:Nat) (hk:z.size=k) (h0:0 < k):(Array.range (n * k)).map (fun i=>z[i % z.size]!)=⟨(List.replicate n z.toList).flatten⟩:=by
 apply Array.ext_getElem?
 intro i
 rw [Array.getElem?_map]
 by_cases e:i < n * k
 ·rw [Array.getElem?_range,if_pos e]
  have hz:z.toList.length=k:=by simpa using hk
  rw [List.getElem?_toArray,jO n i (by rw [hz];exact e)]
  have hlt:i % z.size < z.size:=Nat.mod_lt _ (by omega)
  simp [hlt]
 ·rw [Array.getElem?_range,if_neg e]
  rw [List.getElem?_toArray,List.getElem?_eq_none]
  ·rfl
  ·simp [hk];omega
def sG (E:i3) (S:Hp) (t len:Nat) (parts:List (Nat × AV)):Option (AV × Hp):=
 match A4 E t with
 | some (.slice e)=>(match q7 E e,G3 E e with
  | some z,some zero=>(match Nat.beq (j1 zero).length z,Nat.ble (Nat.mul len z) 16777216,Nat.blt 0 z with
    | true,true,true=>(match uK (fun i=>some (Nat.mul i z,z)) parts (uQ len (j1 zero)) with
     | some cs=>some (.sl S.nx 0 len len,S.alloc (.cells cs e true false 0 0))
     | none=>none)
    | _,_,_=>none)
  | _,_=>none)
 | _=>none
include hE in
theorem yS {S S':Hp} {t len:Nat} {parts:List (Nat × AV)} {r:AV} (h:sG E S t len parts=some (r,S')) {parts':List (Nat × Value)} (hp:PR γ parts parts') {ng:Nat} :
 yA E.P γ ng S (Instr.buildSlice t len ⟨parts'⟩) r S':=by
 unfold sG at h
 simp only [uL] at h
 split at h
 ·rename_i e hu
  split at h
  ·rename_i z zero hs hz
   split at h
   ·rename_i h1 h2 h3
    split at h
    ·rename_i cs hf
     cases h
     intro w hH
     obtain ⟨v,hv,hr⟩:=N4 hE hz γ
     have e1:=Nat.eq_of_beq_eq_true h1
     have e2:len * z≤2 ^ 24:=Nat.le_of_ble_eq_true h2
     have e3:0 < z:=by rw [f6] at h3;exact of_decide_eq_true h3
     have hc:=N3 hr (V2 hz)
     have hzs:v.cells.size=z:=by rw [← Array.length_toList,hc.length];exact e1
     obtain ⟨out,ho,hro⟩:=lG hp (Do hc len) hf
     obtain ⟨γ',w',g1,g2,g3,g4⟩:=yR (P:=E.P) hH hro e
     refine ⟨γ',.slice (some ⟨w.heap.size,0,none⟩) len len,w',?_,?_,g3,g4⟩
     ·simp only [Instr.buildSlice,Sem.run_bind,i5 hE hu,Result.andThen_ok,q6 hE hs]
      rw [if_neg (by omega)]
      by_cases hl:len * z=0
      ·have hl0:len=0:=by
        rcases Nat.mul_eq_zero.1 hl with h|h
        ·exact h
        ·omega
       subst hl0
       simp only [Nat.zero_mul,if_true,Sem.run_bind,Sem.run_pure,Result.andThen_ok]
       rw [show ((Array.range 0).map fun x=>(#[]:Array Value)[x % (#[]:Array Value).size]!)=⟨(List.replicate 0 v.cells.toList).flatten⟩ from by simp]
       rw [show (fun i=>some (i * z,z))=(fun i=>some (Nat.mul i z,z)) from rfl,ho]
       simp only [Sem.run_bind,g1,Result.andThen_ok];rfl
      ·rw [if_neg hl]
       simp only [Sem.run_bind,hv w,Sem.run_pure,Result.andThen_ok]
       rw [pQ v.cells len z hzs e3]
       rw [show (fun i=>some (i * z,z))=(fun i=>some (Nat.mul i z,z)) from rfl,ho]
       simp only [Sem.run_bind,g1,Result.andThen_ok];rfl
     ·exact .sl (L:=⟨w.heap.size,0,_⟩) 0 len len g2
    ·cases h
   ·cases h
  ·cases h
 ·cases h
def Md? (x:AV):Option Nat:=match x with|.int _ z=>Int.rec (fun n=>some n) (fun _=>none) z|_=>none
theorem Md?_ok {x:AV} {n:Nat} (h:Md? x=some n) {v:Value} (hx:VR γ x v):∃ k,v=.int k (Int.ofNat n):=by
 unfold Md? at h
 cases hx with
 | int k z=>cases z with
   | ofNat m=>cases h;exact ⟨k,rfl⟩
   | negSucc m=>cases h
 | _=>cases h
def lN (E:i3) (S:Hp) (t:Nat) (l c:AV):Option (AV × Hp):=
 match A4 E t with
 | some (.slice e)=>(match info E e,G3 E e,Md? l,Md? c with
  | some i,some zero,some l,some c=>(match Nat.beq (j1 zero).length i.size,Nat.ble c 1099511627776,Nat.ble (Nat.mul i.bytes c) 1099511627776,Nat.ble l c,Nat.blt 0 i.size with
    | true,true,true,true,true=>some (.sl S.nx 0 l c,S.alloc (.cells (uQ c (j1 zero)) e true false 0 0))
    | _,_,_,_,_=>none)
  | _,_,_,_=>none)
 | _=>none
theorem iY {P:Program} {n:Nat} {w:World}:(Go.askRoom n).run P w=.ok () w:=by
 unfold Go.askRoom;split <;> rfl
include hE in
theorem gN {S S':Hp} {t:Nat} {l c r:AV} (h:lN E S t l c=some (r,S')) {l' c':Value} (hl:VR γ l l') (hc:VR γ c c') {ng:Nat}:yA E.P γ ng S (Instr.makeSlice t l' c') r S':=by
 unfold lN at h
 split at h
 ·rename_i e hu
  split at h
  ·rename_i i zero n m hi hz hn hm
   split at h
   ·rename_i h1 h2 h3 h4 h5
    cases h
    intro w hH
    obtain ⟨k1,rfl⟩:=Md?_ok hn hl
    obtain ⟨k2,rfl⟩:=Md?_ok hm hc
    obtain ⟨v,hv,hr⟩:=N4 hE hz γ
    have e1:=Nat.eq_of_beq_eq_true h1
    have e2:=Nat.le_of_ble_eq_true h2
    have e3:i.bytes * m≤1099511627776:=Nat.le_of_ble_eq_true h3
    have e4:=Nat.le_of_ble_eq_true h4
    have e5:0 < i.size:=by rw [f6] at h5;exact of_decide_eq_true h5
    have hcl:=N3 hr (V2 hz)
    have hzs:v.cells.size=i.size:=by rw [← Array.length_toList,hcl.length];exact e1
    have hs:q7 E e=some i.size:=by unfold q7;rw [hi]
    obtain ⟨γ',w',g1,g2,g3,g4⟩:=yR (P:=E.P) hH (Do hcl m) e
    have wn:IntKind.i64.wrap (Int.ofNat n)=n:=by
     rw [G2]
     ·rfl
     ·rw [show IntKind.i64.min = -9223372036854775808 from by decide];simp only [Int.ofNat_eq_natCast];omega
     ·rw [show IntKind.i64.max=9223372036854775807 from by decide];simp only [Int.ofNat_eq_natCast];omega
    have wm:IntKind.i64.wrap (Int.ofNat m)=m:=by
     rw [G2]
     ·rfl
     ·rw [show IntKind.i64.min = -9223372036854775808 from by decide];simp only [Int.ofNat_eq_natCast];omega
     ·rw [show IntKind.i64.max=9223372036854775807 from by decide];simp only [Int.ofNat_eq_natCast];omega
    have hb:¬ (((i.bytes:Int) * m) > 2 ^ 48):=by
     have:((i.bytes * m:Nat):Int)≤((1099511627776:Nat):Int):=Int.ofNat_le.2 e3
     rw [Int.natCast_mul] at this
     omega
    refine ⟨γ',.slice (some ⟨w.heap.size,0,none⟩) n m,w',?_,?_,g3,g4⟩
    ·simp only [Instr.makeSlice,Sem.run_bind,i5 hE hu,Result.andThen_ok,Go.asInt,Go.asIntOf,Sem.run_pure,aO hE hi,wn,wm]
     rw [if_neg ?_]
     ·simp only [Sem.run_bind,iY,Result.andThen_ok,Int.toNat_natCast,q6 hE hs]
      by_cases hl:m * i.size=0
      ·have hl0:m=0:=by
        rcases Nat.mul_eq_zero.1 hl with h|h
        ·exact h
        ·omega
       subst hl0
       simp only [Nat.zero_mul,if_true,Sem.run_bind,Sem.run_pure,Result.andThen_ok]
       rw [show ((Array.range 0).map fun x=>(#[]:Array Value)[x % (#[]:Array Value).size]!)=⟨(List.replicate 0 v.cells.toList).flatten⟩ from by simp,g1]
       rfl
      ·rw [if_neg hl]
       simp only [Sem.run_bind,hv w,Sem.run_pure,Result.andThen_ok]
       rw [pQ v.cells m i.size hzs e5,g1]
       rfl
     ·simp only [Bool.or_eq_true,decide_eq_true_eq,not_or]
      exact ⟨⟨⟨by omega,hb⟩,by omega⟩,by omega⟩
    ·exact .sl (L:=⟨w.heap.size,0,_⟩) 0 n m g2
   ·cases h
  ·cases h
 ·cases h
end
theorem HR.drew {γ:Gm} {ng:Nat} {S:Hp} {w w':World} (h:HR γ ng S w) (e:w'.heap=w.heap):HR γ ng S w':=⟨fun a o ha=>by rw [e];exact h.obj a o ha,h.inj,h.fresh,h.glob⟩
theorem HR.congr {γ:Gm} {ng:Nat} {S S':Hp} {w:World} (h:HR γ ng S w) (e:∀ a o,S'.hp.get a=some o→S.hp.get a=some o) (hn:S'.nx=S.nx) (hf:S'.fl=S.fl:=by rfl):HR γ ng S' w:=
 ⟨fun a o ha=>h.obj a o (e a o ha),fun a a' o o' L L' h1 h2=>by rw [hf];exact h.inj a a' o o' L L' (e a o h1) (e a' o' h2),fun a L ha=>by rw [hn];exact h.fresh a L ha,h.glob⟩
theorem j6.drew {S S':Hp} {γ γ':Gm} {w w₁ w':World} (h:j6 S γ w₁ S' γ' w') (e:w₁.heap=w.heap) (eo:(w₁.os,w₁.tape)=(w.os,w.tape)) (eu:w₁.output=w.output):j6 S γ w S' γ' w':=
 ⟨h.ext,by rw [← e];exact h.size,fun r hr hn=>by rw [h.keep r (by rw [e];exact hr) hn,e],fun a o L h1 h2 h3=>by rw [← e];exact h.desc a o L h1 h2 h3,h.old,h.fl,h.nx,h.new,h.os.trans eo,h.out.trans eu,h.back⟩
theorem j6.swap {S:Hp} {γ γ':Gm} {w w':World} {a:Ps} {o:AO} (h:j6 S γ w (S.alloc o) γ' w') (ha:a≠S.nx) (hf:S.fl≤a.idx):j6 S γ w (S.move a o) γ' w':=by
 have hget:∀ b x,(S.move a o).hp.get b=some x→(S.alloc o).hp.get b=some x:=fun b x e=>by
  by_cases eb:b=S.nx
  ·subst eb
   rw [show (S.move a o).hp.get S.nx=some o from T.get_set_same _ _ _] at e
   rw [show (S.alloc o).hp.get S.nx=some o from T.get_set_same _ _ _];exact e
  ·rw [show (S.move a o).hp.get b=T.get b (T.del a S.hp) from T.get_set_ne (fun e'=>eb e'.symm) _ _] at e
   rw [show (S.alloc o).hp.get b=S.hp.get b from T.get_set_ne (fun e'=>eb e'.symm) _ _]
   by_cases ea:b=a
   ·subst ea;rw [T.get_del_same] at e;cases e
   ·rw [T.get_del_ne (fun e'=>ea e'.symm)] at e;exact e
 refine ⟨h.ext,h.size,h.keep,fun b x L h1 h2 h3=>h.desc b x L (hget b x h1) h2 h3,?_,h.fl,h.nx,h.new,h.os,h.out,fun b x h1 h2 h3=>h.back b x (hget b x h1) h2 h3⟩
 intro b x hx hb
 have h1:=h.old b x hx hb
 have hba:b≠a:=fun e=>by rw [e] at hb;omega
 by_cases eb:b=S.nx
 ·subst eb
  rw [show (S.alloc o).hp.get S.nx=some o from T.get_set_same _ _ _] at h1
  rw [show (S.move a o).hp.get S.nx=some o from T.get_set_same _ _ _];exact h1
 ·rw [show (S.move a o).hp.get b=T.get b (T.del a S.hp) from T.get_set_ne (fun e'=>eb e'.symm) _ _,T.get_del_ne (fun e'=>hba e'.symm)];exact hx
theorem HR.swap {γ:Gm} {ng:Nat} {S:Hp} {w:World} {a:Ps} {o:AO} (h:HR γ ng (S.alloc o) w):HR γ ng (S.move a o) w:=by
 refine h.congr ?_ rfl
 intro b x e
 by_cases eb:b=S.nx
 ·subst eb
  rw [show (S.move a o).hp.get S.nx=some o from T.get_set_same _ _ _] at e
  rw [show (S.alloc o).hp.get S.nx=some o from T.get_set_same _ _ _];exact e
 ·rw [show (S.move a o).hp.get b=T.get b (T.del a S.hp) from T.get_set_ne (fun e'=>eb e'.symm) _ _] at e
  rw [show (S.alloc o).hp.get b=S.hp.get b from T.get_set_ne (fun e'=>eb e'.symm) _ _]
  by_cases ea:b=a
  ·subst ea;rw [T.get_del_same] at e;cases e
  ·rw [T.get_del_ne (fun e'=>ea e'.symm)] at e;exact e
theorem pR (n:Nat):∀ (r c:Nat),c≤2 * n+768→Builtin.growBy n r c≤2 * n+768
 | 0,c,h=>h
 | r+1,c,h=>by
   unfold Builtin.growBy
   split
   ·exact h
   ·exact pR n r _ (by omega)
theorem jP {n c:Nat} (h:c < n):Builtin.nextslicecap n c≤2 * n+768:=by
 unfold Builtin.nextslicecap
 split
 ·omega
 ·split
  ·omega
  ·exact pR n 4 c (by omega)
section
variable {E:i3} (hE:E.Ok) {γ:Gm}
def OD (s:List Nat):List AV:=List.rec [] (fun b _ ih=>.int .u8 (Int.ofNat b)::ih) s
theorem Me (s:List UInt8):LR γ (OD (s.map UInt8.toNat)) (s.map fun b=>Value.int .u8 b.toNat):=by
 induction s with
 | nil=>exact .nil
 | cons b s ih=>exact .cons (.int .u8 _) ih
def U1 (x:AV):Option Nat:=match x with|.nils=>some 0|.sl _ _ n _=>some n|.su _ _ n _=>some n|.str s=>some s.length|_=>none
def y6 (S:Hp) (z n:Nat) (x:AV):Option (List AV):=
 match x with
 | .nils=>some []
 | .sl b o _ _=>(match T.get b S.hp with|some (.cells c _ _ _ _ _)=>t9 (Nat.mul n z) (w7 o c)|_=>none)
 | .su b o _ _=>(match T.get b S.hp with|some (.cells c _ _ _ _ _)=>t9 (Nat.mul n z) (w7 o c)|_=>none)
 | .str s=>t9 n (OD s)
 | _=>none
theorem Dp {P:Program} {x:AV} {n:Nat} (h:U1 x=some n) {v:Value} (hx:VR γ x v) (w:World):(Builtin.lenOf v).run P w=.ok n w:=by
 unfold U1 at h
 cases hx with
 | nils=>cases h;rfl
 | sl o l c hb=>cases h;rfl
 | su o l c z hb _ _ _=>cases h;rfl
 | str s=>cases h;rw [y4];rfl
 | _=>cases h
theorem yT (s:List Nat):(OD s).length=s.length:=by
 induction s with
 | nil=>rfl
 | cons b s ih=>show (OD s).length+1=_;rw [ih];rfl
theorem gO {P:Program} {S:Hp} {ng:Nat} {w:World} (hH:HR γ ng S w) {z n:Nat} {x:AV} {l:List AV} (h:y6 S z n x=some l) {v:Value} (hx:VR γ x v) (hn:U1 x=some n∨∀ s,x≠.str s) :
 ∃ l',(Builtin.firstCells z n v).run P w=.ok ⟨l'⟩ w∧LR γ l l':=by
 unfold y6 at h
 cases hx with
 | nils=>cases h;exact ⟨[],rfl,.nil⟩
 | @sl b L o len cap hb =>
   simp only at h
   split at h
   ·rename_i c elem ex sty lo hi hc
    obtain ⟨vs,h1,h2,_⟩:=hH.range hc hb h P
    exact ⟨vs,h1,h2⟩
   ·cases h
 | @su b L o len cap z' hb _ _ _ =>
   simp only at h
   split at h
   ·rename_i c elem ex sty lo hi hc
    obtain ⟨vs,h1,h2,_⟩:=hH.range hc hb h P
    exact ⟨vs,h1,h2⟩
   ·cases h
 | str s =>
   rcases hn with hn|hn
   ·cases hn
    obtain ⟨e,_⟩:=E7 h
    rw [List.take_of_length_le (by rw [yT];exact Nat.le_refl _)] at e
    subst e
    refine ⟨s.data.toList.map fun b=>Value.int .u8 b.toNat,?_,Me _⟩
    simp only [Builtin.firstCells,Sem.run_pure]
    congr 1
    rw [y4]
    apply Array.ext'
    have:s.extract 0 s.size=s:=by simp
    rw [this]
    simp
   ·exact absurd rfl (hn _)
 | _=>cases h
def iZ (x:AV) (z:Nat):Bool:=match x with|.str _=>Nat.beq z 1|_=>true
def aS (need by_:Nat):Bool:=Bool.and (Nat.ble (Nat.mul (Nat.add (Nat.mul 2 need) 768) by_) 1099511627776) (Nat.ble need 1099511627776)
def jA (S:Hp) (e z need:Nat) (old new:List AV):AV × Hp:=(.su S.nx 0 need z,S.alloc (.cells (lapp old new) e false false 0 0))
theorem eL (S:Hp) (e z need:Nat) (old new:List AV):jA S e z need old new=(.su S.nx 0 need z,S.alloc (.cells (List.append old new) e false false 0 0)):=by unfold jA;rw [eC]
def yU (S:Hp) (b:Ps) (o e z need:Nat) (old new:List AV) (a:AO):Option (AV × Hp):=
 AO.rec (fun c el _ sty lo hi=>Bool.rec none (Bool.rec none (Bool.rec none (Bool.rec none (Bool.rec none (some (.su S.nx 0 need z,S.move b (.cells (lapp old new) e false sty (Nat.sub lo o) (Nat.sub hi o))))
  (Nat.ble (y8 c) (Nat.add o (Nat.add (y8 old) (y8 new))))) (K5 new)) (Bool.or (Nat.beq lo hi) (Nat.beq o 0))) (eJ lo hi (Nat.add o (y8 old)) (y8 new))) (Bool.and (Bool.and (Nat.ble S.fl b.idx) (Gu o c)) (Nat.beq el e)))
  (fun _ _=>none) (fun _ _=>none) (fun _ _ _ _ _ _ _ _ _=>none) (fun _=>none) (fun _ _ _ _ _ _ _=>none) a
def sH (S:Hp) (b:Ps) (o e z need:Nat) (old new:List AV):Option (AV × Hp):=Option.rec none (fun a=>yU S b o e z need old new a) (T.get b S.hp)
def eM (S:Hp) (b:Ps) (o e z need:Nat) (old new:List AV):Option (AV × Hp):=
 match T.get b S.hp with
 | some (.cells c el _ sty lo hi) =>
   (match Bool.and (Bool.and (Nat.ble S.fl b.idx) (Nat.ble o c.length)) (Nat.beq el e),eJ lo hi (Nat.add o old.length) new.length,Bool.or (Nat.beq lo hi) (Nat.beq o 0),K5 new,Nat.ble c.length (Nat.add o (Nat.add old.length new.length)) with
    | true,true,true,true,true=>some (.su S.nx 0 need z,S.move b (.cells (List.append old new) e false sty (Nat.sub lo o) (Nat.sub hi o)))
    | _,_,_,_,_=>none)
 | _=>none
theorem gP (S:Hp) (b:Ps) (o e z need:Nat) (old new:List AV):sH S b o e z need old new=eM S b o e z need old new:=by
 unfold sH eM
 cases T.get b S.hp with
 | none=>rfl
 | some a =>
   cases a with
   | cells c el ex sty lo hi =>
     show yU S b o e z need old new (.cells c el ex sty lo hi)=_
     unfold yU
     simp only [x4,rU,eC]
     generalize Bool.and (Bool.and (Nat.ble S.fl b.idx) (Nat.ble o c.length)) (Nat.beq el e)=q1
     generalize eJ lo hi (Nat.add o old.length) new.length=q2
     generalize Bool.or (Nat.beq lo hi) (Nat.beq o 0)=q3
     generalize K5 new=q4
     generalize Nat.ble c.length (Nat.add o (Nat.add old.length new.length))=q5
     cases q1 <;> cases q2 <;> cases q3 <;> cases q4 <;> cases q5 <;> rfl
   | _=>rfl
def gR (d:TypeDesc):Bool:=match d with|.int _=>false|_=>true
def Hb (S:Hp) (e z n len:Nat) (s:AV) (new:List AV):Option (AV × Hp):=
 match s with
 | .nils=>(match n with|0=>some (.nils,S)|_+1=>some (jA S e z n [] new))
 | .sl b o _ cap=>(match Nat.ble (Nat.add len n) cap with
  | true=>(match n with|0=>some (s,S)|_+1=>(match oM S b (Nat.add o (Nat.mul len z)) new with|some S'=>some (.sl b o (Nat.add len n) cap,S')|none=>none))
  | false=>(match y6 S z len s with|some old=>some (jA S e z (Nat.add len n) old new)|none=>none))
 | .su b o _ z'=>(match Nat.beq z' z with
  | false=>none
  | true=>(match n with
   | 0=>some (s,S)
   | _ + 1=>(match Nat.ble (Nat.add len n) (sure S b o z len) with
       | true=>(match oM S b (Nat.add o (Nat.mul len z)) new with|some S'=>some (.su b o (Nat.add len n) z,S')|none=>none)
       | false=>(match y6 S z len s with|some old=>sH S b o e z (Nat.add len n) old new|none=>none))))
 | _=>none
def yV (S:Hp) (e:Nat) (i:TypeInfo) (zero:AV) (n len:Nat) (s x:AV):Option (AV × Hp):=
 match y6 S i.size n x,aS (Nat.add len n) i.bytes,Bool.and (Nat.blt 0 i.size) (iZ x i.size),Nat.beq (j1 zero).length i.size with
 | some new,true,true,true=>Hb S e i.size n len s new
 | _,_,_,_=>none
def jQ (E:i3) (S:Hp) (e:Nat) (s x:AV):Option (AV × Hp):=
 match info E e,G3 E e,U1 x,U1 s with
 | some i,some zero,some n,some len=>yV S e i zero n len s x
 | _,_,_,_=>none
def eN (E:i3) (S:Hp) (sT xT:Nat) (s x:AV):Option (AV × Hp):=
 match A4 E sT,A4 E xT with
 | some (.slice e),some xd=>Bool.rec none (jQ E S e s x) (gR xd)
 | _,_=>none
structure GR (E:i3) (sT xT e:Nat) (xd:TypeDesc) (i:TypeInfo) (ats:Array TypeId):Prop where
 hs:A4 E sT=some (.slice e)
 hx:A4 E xT=some xd
 hxi:∀ k,xd≠.int k
 hi:info E e=some i
 h0:ats[0]? = some sT
 h1:ats[1]? = some xT
include hE in
theorem D2 {sT xT e:Nat} {xd:TypeDesc} {i:TypeInfo} {ats:Array TypeId} (hc:GR E sT xT e xd i ats) {base:Option Addr} {len cap n:Nat} {x':Value} {w:World} (hl:∀ w,(Builtin.lenOf x').run E.P w=.ok n w)
 (ty:TypeId) {args:Array Value} (ha0:args[0]? = some (.slice base len cap)) (ha1:args[1]? = some x') (hle:len+n≤cap) :
 (Builtin.append_ ats ty args).run E.P w=((Builtin.firstCells i.size n x').run E.P w).andThen fun new w=>(match base with
  | some a=>((Go.storeCells (a.add (len * i.size)) new.toList).run E.P w).andThen fun _ w=>.ok (.slice base (len+n) cap) w
  | none=>.ok (.slice base (len+n) cap) w):=by
 obtain ⟨hs,hx,hxi,hi,h0,h1⟩:=hc
 have hsz:q7 E e=some i.size:=by unfold q7;rw [hi]
 unfold Builtin.append_
 simp only [h0,h1,ha0,ha1,Sem.run_bind,i5 hE hs,i5 hE hx,Result.andThen_ok,q6 hE hsz,Sem.run_pure,hl,Bool.false_eq_true,if_false,Bool.not_false,if_true,hle]
 congr 1
 funext new w
 cases base with
 | none=>rfl
 | some a=>simp only [Sem.run_bind,Sem.run_pure]
include hE in
theorem R0 {sT xT e:Nat} {xd:TypeDesc} {i:TypeInfo} {ats:Array TypeId} (hc:GR E sT xT e xd i ats) {base:Option Addr} {len cap n:Nat} {x':Value} {w:World} (hl:∀ w,(Builtin.lenOf x').run E.P w=.ok n w)
 (ty:TypeId) {args:Array Value} (ha0:args[0]? = some (.slice base len cap)) (ha1:args[1]? = some x') (hle:cap < len+n) (hb:aS (len+n) i.bytes=true) {zero:Value} (hz:∀ w,(Go.zeroValue e).run E.P w=.ok zero w) :
 ∃ newCap,len+n≤newCap∧(Builtin.append_ ats ty args).run E.P w=((Builtin.firstCells i.size len (.slice base len cap)).run E.P { w with drawn:=w.drawn+1 }).andThen fun old w=>((Builtin.firstCells i.size n x').run E.P w).andThen fun new w =>
   ((Go.newRow e (old++new++Builtin.zeroCells zero.cells (newCap - (len+n)))).run E.P w).andThen fun a w=>.ok (.slice (some a) (len+n) newCap) w:=by
 obtain ⟨hs,hx,hxi,hi,h0,h1⟩:=hc
 have hsz:q7 E e=some i.size:=by unfold q7;rw [hi]
 unfold aS at hb
 simp only [Bool.and_eq_true,Nat.ble_eq] at hb
 obtain ⟨hb1,hb2⟩:=hb
 have hb1':(2 * (len+n)+768) * i.bytes≤1099511627776:=hb1
 have g1:=jP hle
 have g2:¬ (Builtin.nextslicecap (len+n) cap * i.bytes > 2 ^ 48):=by
  have:=Nat.mul_le_mul_right i.bytes g1
  omega
 have g3:¬ (((len+n:Nat):Int) > IntKind.i64.max∧(False∨i.bytes=0)):=by
  rw [show IntKind.i64.max=9223372036854775807 from by decide]
  intro h;have:=h.1;omega
 refine ⟨len+n+w.tape w.drawn (.appendCap (len+n) cap e) % (2 ^ 63 - (len+n)),Nat.le_add_right _ _,?_⟩
 unfold Builtin.append_
 simp only [h0,h1,ha0,ha1,Sem.run_bind,i5 hE hs,i5 hE hx,Result.andThen_ok,q6 hE hsz,Sem.run_pure,hl,aO hE hi,Bool.false_eq_true,if_false,Bool.not_false,if_true,Nat.not_le.2 hle,g2,g3]
 simp only [Go.choose,Sem.run,Question.forced,Bool.false_eq_true,if_false,Result.andThen_ok,Question.cut,iY,hz]
theorem M6 {S:Hp} {z n:Nat} {x:AV} {l:List AV} (h:y6 S z n x=some l) (hs:iZ x z=true) (hn:U1 x=some n∨x≠.nils):l.length=n * z:=by
 unfold y6 at h
 have key:∀ {c:List AV} {o:Nat},t9 (Nat.mul n z) (w7 o c)=some l→l.length=n * z:=by
  intro c o h
  obtain ⟨e,hle⟩:=E7 h
  rw [e,List.length_take]
  exact Nat.min_eq_left hle
 split at h
 ·cases h
  rcases hn with hn|hn
  ·cases hn;simp
  ·exact absurd rfl hn
 ·split at h
  ·exact key h
  ·cases h
 ·split at h
  ·exact key h
  ·cases h
 ·rename_i s
  have:z=1:=Nat.eq_of_beq_eq_true hs
  subst this
  obtain ⟨e,hle⟩:=E7 h
  rw [e,List.length_take,Nat.mul_one]
  exact Nat.min_eq_left hle
 ·cases h
theorem sI {S:Hp} {ng:Nat} {w:World} (hH:HR γ ng S w) {e z len n newCap:Nat} {old new:List AV} {old' new':List Value} (ho:LR γ old old') (hn:LR γ new new') (hol:old.length=len * z) (hnl:new.length=n * z)
 (hz:0 < z) (hcap:len+n≤newCap) {zero:Value} (hzs:zero.cells.size=z) (sty:Bool) (lo hi:Nat) (hhi:hi≤(List.append old new).length) :
 ∃ γ' v w',((Go.newRow e ((⟨old'⟩:Array Value)++⟨new'⟩++Builtin.zeroCells zero.cells (newCap - (len+n)))).run E.P w).andThen (fun a w=>.ok (.slice (some a) (len+n) newCap) w)=.ok v w' ∧
   VR γ' (.su S.nx 0 (len+n) z) v∧HR γ' ng (S.alloc (.cells (List.append old new) e false sty lo hi)) w'∧j6 S γ w (S.alloc (.cells (List.append old new) e false sty lo hi)) γ' w':=by
 obtain ⟨rest,hr⟩:∃ rest,Builtin.zeroCells zero.cells (newCap - (len+n))=⟨rest⟩:=⟨_,rfl⟩
 have hrl:rest.length=(newCap - (len+n)) * z:=by
  have:=congrArg Array.size hr
  simp only [Builtin.zeroCells,Array.size_map,Array.size_range,hzs] at this
  exact this.symm
 have hle:Gm.le γ (γ.with S.nx ⟨w.heap.size,0,newCap * z⟩):=Gm.le_with hH.nx_none
 have hlen:(old'++new'++rest).length=newCap * z:=by
  simp only [List.length_append,ho.length,hn.length,hol,hnl,hrl]
  rw [← Nat.add_mul,← Nat.add_mul]
  congr 1;omega
 obtain ⟨h1,h2⟩:=hH.alloc (w':={ w with heap:=w.heap.push (.cells ⟨old'++new'++rest⟩ e) }) (ob:=.cells ⟨old'++new'++rest⟩ e) (siz:=newCap * z) (o:=.cells (List.append old new) e false sty lo hi) rfl rfl rfl
  ⟨[],old'++new',rest,(0,0),by simp,rfl,uG.of_eq (by simpa using hlen),(ho.append hn).mono hle,⟨fun p _ h1 h2=>by omega,fun _=>.inl rfl⟩,hhi,fun h=>by cases h⟩
 refine ⟨γ.with S.nx ⟨w.heap.size,0,newCap * z⟩,.slice (some ⟨w.heap.size,0,none⟩) (len+n) newCap,_,?_,?_,h1,h2⟩
 ·rw [hr]
  rw [show ((⟨old'⟩:Array Value)++⟨new'⟩++⟨rest⟩)=⟨old'++new'++rest⟩ from by simp]
  simp only [Go.newRow,Sem.run_bind,run_newObj,Result.andThen_ok];rfl
 ·exact .su (L:=⟨w.heap.size,0,newCap * z⟩) 0 (len+n) newCap z (Gm.with_same _ _ _) hcap hz (by simp)
theorem uR {S S':Hp} {ng:Nat} {w:World} (hH:HR γ ng S w) {b:Ps} {o e z len n cap:Nat} {old new:List AV} {r:AV} (h:sH S b o e z (len+n) old new=some (r,S')) {L:Loc} (hL:γ b=some L)
 (he:L.off+o+cap * z=L.siz) (hold:t9 (Nat.mul len z) (match T.get b S.hp with|some (.cells c _ _ _ _ _)=>w7 o c|_=>[])=some old)
 {new':List Value} (hn:LR γ new new') (hnl:new.length=n * z) (hz:0 < z) {zero:Value} (hzs:zero.cells.size=z) :
 (len+n≤cap→∃ γ' w',(Go.storeCells ((⟨L.blk,L.off+o,none⟩:Addr).add (len * z)) new').run E.P w=.ok () w'∧VR γ' r (.slice (some ⟨L.blk,L.off+o,none⟩) (len+n) cap)∧HR γ' ng S' w'∧j6 S γ w S' γ' w') ∧
 (∀ newCap,len+n≤newCap→∃ old',(Builtin.firstCells z len (.slice (some ⟨L.blk,L.off+o,none⟩) len cap)).run E.P w=.ok ⟨old'⟩ w∧∃ γ' v w',
  ((Go.newRow e ((⟨old'⟩:Array Value)++⟨new'⟩++Builtin.zeroCells zero.cells (newCap - (len+n)))).run E.P w).andThen (fun a w=>.ok (.slice (some a) (len+n) newCap) w)=.ok v w'∧VR γ' r v∧HR γ' ng S' w'∧j6 S γ w S' γ' w'):=by
 rw [gP] at h;unfold eM at h
 split at h
 ·rename_i c elem ex sty lo hi hb
  split at h
  ·rename_i h1 h2 h3 h4 h5
   cases h
   rw [hb] at hold
   simp only at hold
   rw [Bool.and_eq_true,Bool.and_eq_true] at h1
   obtain ⟨⟨h1,h00⟩,h0⟩:=h1
   have hoc:=Nat.le_of_ble_eq_true h00
   have hel:elem=e:=Nat.eq_of_beq_eq_true h0
   obtain ⟨M,ob,g1,g2,pre,cs,post,fz,rfl,g4,g5,g6,g7,g8,g9⟩:=hH.obj b _ hb
   rw [hL] at g1;cases g1
   obtain ⟨eo,hle⟩:=E7 hold
   rw [E6] at eo hle
   have hol:old.length=len * z:=by rw [eo,List.length_take];exact Nat.min_eq_left hle
   have e1:=g6.length
   have e2:=hn.length
   have hlt:=(Array.getElem?_eq_some_iff.1 g2).1
   have hdl:len * z≤c.length - o:=by rw [List.length_drop] at hle;exact hle
   have hbn:b≠S.nx:=fun e=>by have:=hH.lt hb;rw [e] at this;omega
   refine ⟨fun hin=>?_,fun newCap hcap=>?_⟩
   ·
    have hsz:(len+n) * z≤cap * z:=Nat.mul_le_mul_right z hin
    rw [Nat.add_mul] at hsz
    have hth:eJ lo hi (o+old.length) new.length=true:=h2
    unfold eJ at hth
    rw [i9,l8,l8] at hth
    simp only [Bool.or_eq_true,decide_eq_true_eq] at hth
    have hth2:lo=hi∨o+old.length+new.length≤lo∨hi≤o+old.length:=hth
    have hrun:=aR (P:=E.P) (B:=L.blk) (O:=L.off+o+len * z) (elem:=elem) (fz:=fz) new' 0 w (pre++cs++post) g2 (by have g51:=g5.1;simp only [List.length_append];omega) ?_ (uO hn h4)
    ·rw [B4]
     have hle':Gm.le γ (γ.with S.nx ⟨L.blk,L.off+o,L.siz⟩):=Gm.le_with hH.nx_none
     refine ⟨γ.with S.nx ⟨L.blk,L.off+o,L.siz⟩,_,hrun,.su (L:=⟨L.blk,L.off+o,L.siz⟩) 0 (len+n) cap z (Gm.with_same _ _ _) hin hz (by simpa using he),?_⟩
     refine hH.move (L':=⟨L.blk,L.off+o,L.siz⟩) (ob':=.cells ⟨m7 new' (L.off+o+len * z+0) (pre++cs++post)⟩ elem fz) hb hL (Nat.le_of_ble_eq_true h1) rfl (by simp) ?_ ?_ ?_ rfl rfl
     ·intro r hr;exact Array.getElem?_setIfInBounds_ne (fun e=>hr e.symm)
     ·show (w.heap.setIfInBounds L.blk _)[L.blk]? = _
      rw [Array.getElem?_setIfInBounds_self,if_pos hlt]
     ·have hk:pre.length+o+len * z+new'.length≤(pre++cs++post).length:=by have g51:=g5.1;simp only [List.length_append];rw [e2,hnl];omega
      have hwhole:m7 new' (L.off+o+len * z+0) (pre++cs++post)=(pre++cs.take o)++((cs.drop o).take (len * z)++new')++(pre++cs++post).drop (pre.length+o+len * z+new'.length):=by
       rw [Nat.add_zero,← g4,lF _ _ _ hk]
       have e3:(pre++cs++post).take (pre.length+o+len * z)=pre++cs.take o++(cs.drop o).take (len * z):=by
        rw [List.append_assoc,List.take_append,List.take_of_length_le (by omega)]
        rw [show pre.length+o+len * z - pre.length=o+len * z from by omega]
        rw [List.take_append,show o+len * z - cs.length=0 from by omega,List.take_zero,List.append_nil,List.take_add,List.append_assoc]
       rw [e3,← List.append_assoc]
      refine ⟨pre++cs.take o,(cs.drop o).take (len * z)++new',_,fz,by rw [hwhole,hel],?_,?_,?_,⟨?_,?_⟩,?_,fun h=>by cases h⟩
      ·simp only [List.length_append,List.length_take,g4]
       show L.off+min o cs.length=L.off+o
       rw [Nat.min_eq_left (by omega)]
      ·have g51:=g5.1
       have g52:=g5.2
       show L.siz≤_∧_≤L.siz
       simp only [List.length_append,List.length_take,List.length_drop]
       rw [Nat.min_eq_left (show o≤cs.length by omega),Nat.min_eq_left (show len * z≤cs.length - o by omega)]
       constructor <;> omega
      ·rw [eo];exact (((g6.drop o).take (len * z)).append hn).mono hle'
      ·intro p hp1 hp2 hp3
       have hp1':L.off+o≤p:=hp1
       rcases g7.1 p (by omega) hp2 hp3 with hx|⟨hx,hy⟩
       ·exact .inl hx
       ·right
        show L.off+o+(lo - o)≤p∧p < L.off+o+(hi - o)
        omega
      ·intro hst
       rcases g7.2 hst with hx|⟨hx1,hx2,hx3⟩
       ·exact .inl hx
       ·right
        rw [i9,i9] at h3
        simp only [Bool.or_eq_true,decide_eq_true_eq] at h3
        have ho0:o=0:=by omega
        subst ho0
        show lo - 0 < hi - 0∧(lo - 0=0∨L.off+0+(lo - 0)≤fz.1)∧fz.2≤L.off+0+(hi - 0)
        simp only [Nat.sub_zero,Nat.add_zero]
        exact ⟨hx1,hx2,hx3⟩
      ·have h5':c.length≤o+(old.length+new.length):=Nat.le_of_ble_eq_true h5
       show hi - o≤(old++new).length
       rw [List.length_append];omega
    ·intro j hj hc
     have h5':c.length≤o+(old.length+new.length):=Nat.le_of_ble_eq_true h5
     rcases g7.1 (L.off+o+len * z+0+j) (by omega) hc.1 hc.2 with hx|⟨hx,hy⟩
     ·rw [e2,hnl] at hj;omega
     ·rw [e2] at hj;omega
   ·obtain ⟨vs,v1,v2,v3⟩:=hH.range hb hL hold E.P
    refine ⟨vs,v1,?_⟩
    obtain ⟨γ',v,w',k1,k2,k3,k4⟩:=sI (E:=E) hH (e:=e) (z:=z) (len:=len) (n:=n) (newCap:=newCap) v2 hn hol hnl hz hcap hzs sty (lo - o) (hi - o) (by
     have h5':c.length≤o+(old.length+new.length):=Nat.le_of_ble_eq_true h5
     show hi - o≤(old++new).length
     rw [List.length_append];omega)
    exact ⟨γ',v,w',k1,k2,k3.swap,k4.swap hbn (Nat.le_of_ble_eq_true h1)⟩
  ·cases h
 ·cases h
include hE in
theorem bU {S S' : Hp} {sT xT:Nat} {s x r:AV} (h:eN E S sT xT s x=some (r,S')) {s' x':Value} (hs:VR γ s s') (hx:VR γ x x') {ng:Nat} {ats:Array TypeId} (h0:ats[0]? = some sT) (h1:ats[1]? = some xT) (ty:TypeId)
 {args:Array Value} (ha0:args[0]? = some s') (ha1:args[1]? = some x'):yA E.P γ ng S (Builtin.append_ ats ty args) r S':=by
 intro w hH
 unfold eN at h
 split at h
 ·rename_i e xd hus hux
  obtain ⟨hni,h2⟩:=d5 h
  clear h
  have hxi:∀ k,xd≠.int k:=by intro k ek;subst ek;cases hni
  unfold jQ at h2
  split at h2
  ·rename_i i zero n len hi hz hn hlen
   unfold yV at h2
   split at h2
   ·rename_i new hnew hbig hg hzl
    rw [Bool.and_eq_true] at hg
    obtain ⟨hz0,hstr⟩:=hg
    rw [f6] at hz0
    have hz0':0 < i.size:=of_decide_eq_true hz0
    have hzl':=Nat.eq_of_beq_eq_true hzl
    obtain ⟨zero',hzr,hzv⟩:=N4 hE hz γ
    have hzs:zero'.cells.size=i.size:=by rw [← Array.length_toList,(N3 hzv (V2 hz)).length];exact hzl'
    have hnl:=M6 hnew hstr (.inl hn)
    have hC:GR E sT xT e xd i ats:=⟨hus,hux,hxi,hi,h0,h1⟩
    have hvl:=Dp (P:=E.P) hn hx
    have hfirst:∀ w:World,HR γ ng S w→∃ l',(Builtin.firstCells i.size n x').run E.P w=.ok ⟨l'⟩ w∧LR γ new l':=fun w hH=>gO hH hnew hx (.inl hn)
    have hH2:HR γ ng S { w with drawn:=w.drawn+1 }:=hH.drew rfl
    unfold Hb at h2
    simp only [eL] at h2
    split at h2
    ·
     have hs2:=hs
     cases hs2
     cases hlen
     obtain ⟨l',hl1,hl2⟩:=hfirst w hH
     split at h2
     ·cases h2
      refine ⟨γ,.slice none 0 0,w,?_,.nils,hH,j6.refl _ _ _⟩
      rw [D2 hE hC hvl ty ha0 ha1 (by omega),hl1];rfl
     ·rename_i m
      cases h2
      obtain ⟨l2,hm1,hm2⟩:=hfirst _ hH2
      obtain ⟨nc,hnc,hrun⟩:=R0 hE hC (w:=w) hvl ty ha0 ha1 (by omega) hbig hzr
      obtain ⟨γ',v,w',k1,k2,k3,k4⟩:=sI (E:=E) hH2 (e:=e) (z:=i.size) (len:=0) (n:=m+1) (newCap:=nc) (old:=[]) .nil hm2 (by simp) hnl hz0' hnc hzs false 0 0 (Nat.zero_le _)
      rw [Nat.zero_add] at k1 k2
      refine ⟨γ',v,w',?_,k2,k3,k4.drew rfl rfl rfl⟩
      rw [hrun]
      rw [show (Builtin.firstCells i.size 0 (.slice none 0 0)).run E.P { w with drawn:=w.drawn+1 }=.ok #[] { w with drawn:=w.drawn+1 } from rfl]
      simp only [Result.andThen_ok,hm1,Nat.zero_add]
      exact k1
    ·
     rename_i b o len0 cap
     cases hlen
     cases hs with
     | @sl _ L _ _ _ hL =>
       split at h2
       ·rename_i hle
        have hle':=Nat.le_of_ble_eq_true hle
        obtain ⟨l',hl1,hl2⟩:=hfirst w hH
        split at h2
        ·cases h2
         refine ⟨γ,_,w,?_,.sl o len cap hL,hH,j6.refl _ _ _⟩
         rw [D2 hE hC hvl ty ha0 ha1 hle',hl1]
         have:new = []:=List.eq_nil_of_length_eq_zero (by rw [hnl];simp)
         subst this
         cases hl2
         rfl
        ·rename_i m
         split at h2
         ·rename_i S1 hput
          cases h2
          obtain ⟨γ',w',hr,k3,k4⟩:=eK (P:=E.P) (ng:=ng) hput hL hl2 w hH
          refine ⟨γ',_,w',?_,.sl o (len+(m+1)) cap (k4.ext _ _ hL),k3,k4⟩
          rw [D2 hE hC hvl ty ha0 ha1 hle',hl1]
          simp only [Result.andThen_ok,B4]
          rw [Nat.add_assoc,show (Go.storeCells ⟨L.blk,L.off+(o+len * i.size),none⟩ l').run E.P w=_ from hr]
          rfl
         ·cases h2
       ·rename_i hle
        have hle':cap < len+n:=by
         rw [l8,decide_eq_false_iff_not] at hle;exact Nat.lt_of_not_le hle
        split at h2
        ·rename_i old hold
         cases h2
         obtain ⟨l2,hm1,hm2⟩:=hfirst _ hH2
         obtain ⟨o',ho1,ho2⟩:=gO (P:=E.P) hH2 hold (VR.sl (γ:=γ) o len cap hL) (.inr fun s e=>by cases e)
         have hol:=M6 hold rfl (.inr fun e=>by cases e)
         obtain ⟨nc,hnc,hrun⟩:=R0 hE hC (w:=w) hvl ty ha0 ha1 hle' hbig hzr
         obtain ⟨γ',v,w',k1,k2,k3,k4⟩:=sI (E:=E) hH2 (e:=e) (z:=i.size) (len:=len) (n:=n) (newCap:=nc) ho2 hm2 hol hnl hz0' hnc hzs false 0 0 (Nat.zero_le _)
         refine ⟨γ',v,w',?_,k2,k3,k4.drew rfl rfl rfl⟩
         rw [hrun]
         simp only [ho1,Result.andThen_ok,hm1]
         exact k1
        ·cases h2
    ·
     rename_i b o len0 z'
     cases hlen
     split at h2
     ·cases h2
     ·rename_i hzz
      have hzz':=Nat.eq_of_beq_eq_true hzz
      subst hzz'
      cases hs with
      | @su _ L _ _ cap _ hL hlc hzp he =>
        obtain ⟨l',hl1,hl2⟩:=hfirst w hH
        split at h2
        ·cases h2
         refine ⟨γ,_,w,?_,.su o len cap _ hL hlc hzp he,hH,j6.refl _ _ _⟩
         rw [D2 hE hC hvl ty ha0 ha1 (by omega),hl1]
         have:new = []:=List.eq_nil_of_length_eq_zero (by rw [hnl];simp)
         subst this
         cases hl2
         rfl
        ·rename_i m
         split at h2
         ·rename_i hsure
          have hsure':=Nat.le_of_ble_eq_true hsure
          have hcap:=hH.sure hL hlc hzp he
          have hle':len+(m+1)≤cap:=Nat.le_trans hsure' hcap
          split at h2
          ·rename_i S1 hput
           cases h2
           obtain ⟨γ',w',hr,k3,k4⟩:=eK (P:=E.P) (ng:=ng) hput hL hl2 w hH
           refine ⟨γ',_,w',?_,.su o (len+(m+1)) cap _ (k4.ext _ _ hL) hle' hzp he,k3,k4⟩
           rw [D2 hE hC hvl ty ha0 ha1 hle',hl1]
           simp only [Result.andThen_ok,B4]
           rw [Nat.add_assoc,show (Go.storeCells ⟨L.blk,L.off+(o+len * i.size),none⟩ l').run E.P w=_ from hr]
           rfl
          ·cases h2
         ·split at h2
          ·rename_i old hold
           have hold2:t9 (Nat.mul len i.size) (match T.get b S.hp with|some (.cells c _ _ _ _ _)=>w7 o c|_=>[])=some old:=by
            unfold y6 at hold
            simp only at hold
            split at hold
            ·exact hold
            ·cases hold
           by_cases hle':len+(m+1)≤cap
           ·obtain ⟨γ',w',k1,k2,k3,k4⟩:=(uR (E:=E) hH h2 hL he hold2 hl2 hnl hz0' hzs).1 hle'
            refine ⟨γ',_,w',?_,k2,k3,k4⟩
            rw [D2 hE hC hvl ty ha0 ha1 hle',hl1]
            simp only [Result.andThen_ok,k1]
           ·obtain ⟨l2,hm1,hm2⟩:=hfirst _ hH2
            obtain ⟨nc,hnc,hrun⟩:=R0 hE hC (w:=w) hvl ty ha0 ha1 (by omega) hbig hzr
            obtain ⟨o',ho1,γ',v,w',k1,k2,k3,k4⟩:=(uR (E:=E) hH2 h2 hL he hold2 hm2 hnl hz0' hzs).2 nc hnc
            refine ⟨γ',v,w',?_,k2,k3,k4.drew rfl rfl rfl⟩
            rw [hrun]
            simp only [ho1,Result.andThen_ok,hm1]
            exact k1
          ·cases h2
    ·cases h2
   ·cases h2
  ·cases h2
 ·cases h
end
section
variable {E:i3} (hE:E.Ok) {γ:Gm}
inductive KQ where|no|int|str|bool
def kq (kd:TypeDesc):KQ:=
 TypeDesc.rec .no .bool (fun _=>.int) (fun _=>.no) (fun _=>.no) .str .no (fun _=>.no) (fun _=>.no) (fun _ _=>.no) (fun _ _=>.no) (fun _ _=>.no) (fun _=>.no) (fun _ _ _=>.no) (fun _=>.no) (fun _=>.no) (fun _ _=>.no) kd
def PO (a b:AV):Option Bool:=Option.rec none (fun p=>Option.rec none (fun q=>Bool.rec none (some (c9 p.2 q.2)) (Nat.beq (kZ p.1) (kZ q.1))) (Dd b)) (Dd a)
def PP (a b:AV):Option Bool:=Option.rec none (fun p=>Option.rec none (fun q=>some (seq p q)) (CO b)) (CO a)
def PQ (a b:AV):Option Bool:=Option.rec none (fun p=>Option.rec none (fun q=>some (p == q)) (X3 b)) (X3 a)
def PS (_ _:AV):Option Bool:=none
def eO (kd:TypeDesc) (a b:AV):Option Bool:=KQ.rec PS PO PP PQ (kq kd) a b
def Mf (kd:TypeDesc) (a b:AV):Option Bool:=
 match kd with
 | .int _=>(match a,b with|.int k x,.int l y=>Bool.rec none (some (c9 x y)) (Nat.beq (kZ k) (kZ l))|_,_=>none)
 | .string=>(match a,b with|.str x,.str y=>some (seq x y)|_,_=>none)
 | .bool=>(match a,b with|.bool x,.bool y=>some (x == y)|_,_=>none)
 | _=>none
theorem Mh (kd:TypeDesc) (a b:AV):eO kd a b=Mf kd a b:=by
 cases kd <;> first
  | rfl
  | (cases a <;> first
   | rfl
   | (cases b <;> rfl))
theorem gU (a b:ByteArray):(a == b)=seq (j5 a) (j5 b):=by rw [beq_toListBytes,v7]
theorem Mi {kd:TypeDesc} {a b:AV} {r:Bool} (h:eO kd a b=some r) {a' b':Value} (ha:VR γ a a') (hb:VR γ b b'):Instr.sameNow kd a' b'=some r:=by
 rw [Mh] at h;unfold Mf at h
 split at h
 ·split at h
  ·rename_i k x l y
   obtain ⟨hk,h2⟩:=d5 h
   have:=eE hk
   subst this
   cases h2;cases ha;cases hb
   simp [Instr.sameNow,X6]
  ·cases h
 ·split at h
  ·cases h;cases ha;cases hb
   simp only [Instr.sameNow]
   rw [gU]
  ·cases h
 ·split at h
  ·cases h;cases ha;cases hb;rfl
  ·cases h
 ·cases h
def eP (kd:TypeDesc) (k:AV) (es:List (AV × AV × Nat)):Nat→Option (Option (Nat × AV × Nat)):=
 List.rec (motive:=fun _=>Nat→Option (Option (Nat × AV × Nat))) (fun _=>some none) (fun e _ ih i =>
  match eO kd k e.1 with
  | some true=>some (some (i,e.2.1,e.2.2))
  | some false=>ih (Nat.succ i)
  | none=>none) es
theorem Mj {kd:TypeDesc} {k:AV} {k':Value} (hk:VR γ k k') {es:List (AV × AV × Nat)} {es':List MapEntry} (he:ER γ es es'):∀ (i:Nat) (r:Option (Nat × AV × Nat)),eP kd k es i=some r →
 (match r with
  | none=>Instr.findNow kd k' es' i=some none
  | some (j,v,n)=>∃ v' key,Instr.findNow kd k' es' i=some (some (j,v'))∧VR γ v v'∧i≤j∧es'[j - i]? = some ⟨key,v',n⟩∧Instr.sameNow kd k' key=some true∧j - i < es.length):=by
 induction he with
 | nil=>intro i r h;cases h;rfl
 | @cons a v a' v' l l' n hk2 hv t ih =>
   intro i r h
   have h':(match eO kd k a with|some true=>some (some (i,v,n))|some false=>eP kd k l (i+1)|none=>none)=some r:=h
   cases hs:eO kd k a with
   | none=>rw [hs] at h';cases h'
   | some b =>
     rw [hs] at h'
     have hs2:=Mi hs hk hk2
     cases b with
     | true =>
       cases h'
       refine ⟨v',a',?_,hv,Nat.le_refl _,by simp,hs2,by simp⟩
       simp only [Instr.findNow,hs2]
     | false =>
       have:=ih (i+1) r h'
       cases r with
       | none =>
         simp only [Instr.findNow,hs2]
         exact this
       | some q =>
         obtain ⟨j,v2,m⟩:=q
         obtain ⟨v3,key,h1,h2,h3,h4,h5,h6⟩:=this
         refine ⟨v3,key,by simp only [Instr.findNow,hs2];exact h1,h2,by omega,?_,h5,?_⟩
         ·rw [show j - i=(j - (i+1))+1 from by omega];simpa using h4
         ·simp only [List.length_cons];omega
theorem oN {P:Program} {t:TypeId} {kd:TypeDesc} (hu:∀ w,(Go.underlying t).run P w=.ok kd w) (hk:kd=.string∨kd=.bool∨∃ k,kd=.int k) (b:Bool) (n:Nat) (v:Value) (w:World):(Instr.checkKey b (n+1) t v).run P w=.ok () w:=by
 simp only [Instr.checkKey,Sem.run_bind,hu,Result.andThen_ok]
 rcases hk with rfl|rfl|⟨k,rfl⟩ <;> rfl
theorem P8 {P:Program} {t:TypeId} {kd:TypeDesc} (hu:∀ w,(Go.underlying t).run P w=.ok kd w) (hk:kd=.string∨kd=.bool∨∃ k,kd=.int k) (b:Bool) (v:Value) (w:World):(Instr.checkKey b 10000 t v).run P w=.ok () w:=
 oN hu hk b 9999 v w
def kC (kd:TypeDesc):Bool:=match kd with|.int _=>true|.string=>true|.bool=>true|_=>false
theorem X7 {kd:TypeDesc} (h:kC kd=true):kd=.string∨kd=.bool∨∃ k,kd=.int k:=by
 cases kd <;> first|exact .inl rfl|exact .inr (.inl rfl)|exact .inr (.inr ⟨_,rfl⟩)|cases h
def eQ (S:Hp) (x:AV):Option (List (AV × AV × Nat)):=
 match x with
 | .nilm=>some []
 | .mp b=>(match T.get b S.hp with|some (.map es _)=>some es|_=>none)
 | _=>none
def bV (E:i3) (S:Hp) (t:Nat) (x k:AV) (ok:Bool):Option AV:=
 match A4 E t with
 | some (.map kt et)=>(match A4 E kt,eQ S x with
  | some kd,some es=>(match kC kd,eP kd k es 0 with
    | true,some (some (_,v,_))=>some (Bool.rec v (.tup [v,.bool true]) ok)
    | true,some none=>(match G3 E et with|some z=>some (Bool.rec z (.tup [z,.bool false]) ok)|none=>none)
    | _,_=>none)
  | _,_=>none)
 | _=>none
include hE in
theorem aT {kt:Nat} {kd:TypeDesc} (hk:A4 E kt=some kd) {k:AV} {k':Value} (hv:VR γ k k') {es:List (AV × AV × Nat)} {es':List MapEntry} (he:ER γ es es') {r:Option (Nat × AV × Nat)} (h:eP kd k es 0=some r) (w:World) :
 (match r with
  | none=>(Instr.findKey kt k' es').run E.P w=.ok none w
  | some (j,v,n)=>∃ v' key,(Instr.findKey kt k' es').run E.P w=.ok (some (j,v')) w∧VR γ v v'∧es'[j]? = some ⟨key,v',n⟩∧Instr.sameNow kd k' key=some true∧j < es.length):=by
 have:=Mj hv he 0 r h
 cases r with
 | none =>
   simp only [Instr.findKey,Sem.run_bind,i5 hE hk,Result.andThen_ok,this];rfl
 | some q =>
   obtain ⟨j,v,n⟩:=q
   obtain ⟨v',key,h1,h2,h3,h4,h5,h6⟩:=this
   refine ⟨v',key,?_,h2,by simpa using h4,h5,by simpa using h6⟩
   simp only [Instr.findKey,Sem.run_bind,i5 hE hk,Result.andThen_ok,h1];rfl
theorem uS {S:Hp} {ng:Nat} {w:World} (hH:HR γ ng S w) {x:AV} {es:List (AV × AV × Nat)} (h:eQ S x=some es) {x':Value} (hx:VR γ x x') :
 ∃ es',ER γ es es'∧((x'=.map none∧es' = [])∨∃ r clock,x'=.map (some r)∧w.heap[r]? = some (.map ⟨es'⟩ clock)):=by
 unfold eQ at h
 split at h
 ·cases h;cases hx;exact ⟨[],.nil,.inl ⟨rfl,rfl⟩⟩
 ·rename_i b
  split at h
  ·rename_i es2 clock hb
   cases h
   cases hx with
   | mp hL =>
     obtain ⟨es',h1,h2⟩:=hH.map hb hL
     exact ⟨es',h2,.inr ⟨_,clock,rfl,h1⟩⟩
  ·cases h
 ·cases h
include hE in
theorem lO {t kt et:Nat} (hu:A4 E t=some (.map kt et)) {x' k':Value} {es':List MapEntry} {w:World} (h:(x'=.map none∧es' = [])∨∃ r clock,x'=.map (some r)∧w.heap[r]? = some (.map ⟨es'⟩ clock)) (ok:Bool) :
 (Instr.lookup t x' k' ok).run E.P w=((Instr.checkKey (⟨es'⟩:Array MapEntry).isEmpty 10000 kt k').run E.P w).andThen fun _ w=>((Instr.findKey kt k' es').run E.P w).andThen fun r w=>(match r with
  | some (_,v)=>.ok (if ok then .tuple #[v,.bool true] else v) w
  | none=>((Go.zeroValue et).run E.P w).andThen fun v w=>.ok (if ok then .tuple #[v,.bool false] else v) w):=by
 rcases h with ⟨rfl,rfl⟩|⟨r,clock,rfl,hr⟩
 ·simp only [Instr.lookup,Sem.run_bind,i5 hE hu,Result.andThen_ok,Sem.run_pure]
  congr 1;funext _ w;congr 1;funext r w
  cases r with
  | none=>simp only [Sem.run_bind,Sem.run_pure,Result.andThen_ok]
  | some q=>rfl
 ·simp only [Instr.lookup,Sem.run_bind,i5 hE hu,Result.andThen_ok,A6 hr (fun _ _ _ e=>by cases e),Sem.run_pure]
  congr 1;funext _ w;congr 1;funext r w
  cases r with
  | none=>simp only [Sem.run_bind,Sem.run_pure,Result.andThen_ok]
  | some q=>rfl
include hE in
theorem yW {S:Hp} {ng:Nat} {w:World} (hH:HR γ ng S w) {t:Nat} {x k r:AV} {ok:Bool} (h:bV E S t x k ok=some r) {x' k':Value} (hx:VR γ x x') (hk:VR γ k k') :
 ∃ v,(Instr.lookup t x' k' ok).run E.P w=.ok v w∧VR γ r v:=by
 unfold bV at h
 split at h
 ·rename_i kt et hu
  split at h
  ·rename_i kd es hkd hes
   obtain ⟨es',he1,he2⟩:=uS hH hes hx
   split at h
   ·rename_i j v n hsk hf
    cases h
    obtain ⟨v',key,h1,h2,_,_,_⟩:=aT hE hkd hk he1 hf w
    refine ⟨if ok then .tuple #[v',.bool true] else v',?_,?_⟩
    ·rw [lO hE hu he2]
     simp only [Result.andThen_ok,P8 (fun w=>i5 hE hkd w) (X7 hsk),h1]
    ·cases ok with
     | true=>exact .tup (.cons h2 (.cons (.bool true) .nil))
     | false=>exact h2
   ·rename_i hsk hf
    split at h
    ·rename_i z hz
     cases h
     have h1:=aT hE hkd hk he1 hf w
     obtain ⟨v,hv,hr⟩:=N4 hE hz γ
     refine ⟨if ok then .tuple #[v,.bool false] else v,?_,?_⟩
     ·rw [lO hE hu he2]
      simp only [Result.andThen_ok,P8 (fun w=>i5 hE hkd w) (X7 hsk),h1,hv]
     ·cases ok with
      | true=>exact .tup (.cons hr (.cons (.bool false) .nil))
      | false=>exact hr
    ·cases h
   ·cases h
  ·cases h
 ·cases h
def GS (es:List (AV × AV × Nat)) (clock:Nat) (k v:AV) (f:Option (Nat × AV × Nat)):AO:=
 match f with
 | some (i,_,n)=>.map (X2 (k,v,n) es i) clock
 | none=>.map (List.append es [(k,v,clock)]) (Nat.succ clock)
def dH (E:i3) (S:Hp) (t:Nat) (x k v:AV):Option Hp:=
 match A4 E t,x with
 | some (.map kt _),.mp b=>(match A4 E kt,T.get b S.hp,Nat.ble S.fl b.idx with
  | some kd,some (.map es clock),true=>(match kC kd,eP kd k es 0 with
    | true,some f=>some (S.put b (GS es clock k v f))
    | _,_=>none)
  | _,_,_=>none)
 | _,_=>none
theorem ER.append {a b:List (AV × AV × Nat)} {a' b':List MapEntry} (h:ER γ a a') (k:ER γ b b'):ER γ (a++b) (a'++b'):=by
 induction h with
 | nil=>exact k
 | cons n hk hv _ ih=>exact .cons n hk hv ih
theorem ER.set {l:List (AV × AV × Nat)} {l':List MapEntry} (h:ER γ l l') (i:Nat) {k v:AV} {k' v':Value} {n:Nat} (hk:VR γ k k') (hv:VR γ v v'):ER γ (l.set i (k,v,n)) (l'.set i ⟨k',v',n⟩):=by
 induction h generalizing i with
 | nil=>exact .nil
 | cons m hk2 hv2 t ih=>cases i with
   | zero=>exact .cons n hk hv t
   | succ i=>exact .cons m hk2 hv2 (ih i)
theorem uT {kd:TypeDesc} {a b:Value} (h:Instr.sameNow kd a b=some true):Instr.sameBits 10000 b a=true:=by
 unfold Instr.sameNow at h
 split at h
 ·split at h
  ·rename_i k l x y hk
   subst hk
   simp at h;subst h
   simp [Instr.sameBits]
  ·cases h
 ·rename_i a b
  have e:(a == b)=true:=Option.some.inj h
  rw [gU,kA] at e
  have:=iW e
  subst this
  show (a == a)=true
  rw [gU,kA]
 ·simp at h;subst h;simp [Instr.sameBits]
 ·cases h
include hE in
theorem cS {S S':Hp} {ng:Nat} {t:Nat} {x k v:AV} (h:dH E S t x k v=some S') {x' k' v':Value} (hx:VR γ x x') (hk:VR γ k k') (hv:VR γ v v'):Gx E.P γ ng S (Instr.mapUpdate t x' k' v') S':=by
 intro w hH
 unfold dH at h
 split at h
 ·rename_i kt et b hu
  split at h
  ·rename_i kd es clock hkd hb hfl
   split at h
   ·rename_i f hsk hf
    cases h
    cases hx with
    | @mp _ L hL =>
      obtain ⟨es',h1,h2⟩:=hH.map hb hL
      have hlt:=(Array.getElem?_eq_some_iff.1 h1).1
      have hset:∀ (o:Obj),(Go.setObj L.blk o).run E.P w=.ok () { w with heap:=w.heap.setIfInBounds L.blk o }:=by
       intro o
       simp only [Go.setObj,Sem.run,h1]
      have hput:∀ (o:AO) (ob:Obj),OR γ L o ob→HR γ ng (S.put b o) { w with heap:=w.heap.setIfInBounds L.blk ob }∧j6 S γ w (S.put b o) γ { w with heap:=w.heap.setIfInBounds L.blk ob }:=by
       intro o ob ho
       refine hH.put hb hL (Nat.le_of_ble_eq_true hfl) (by simp) (fun r hr=>Array.getElem?_setIfInBounds_ne (fun e=>hr e.symm)) ?_ ho rfl rfl
       show (w.heap.setIfInBounds L.blk ob)[L.blk]? = _
       rw [Array.getElem?_setIfInBounds_self,if_pos hlt]
      have hrf:=aT hE hkd hk h2 hf w
      cases f with
      | none =>
        refine ⟨γ,_,?_,hput _ (.map ⟨es'++[⟨k',v',clock⟩]⟩ (clock+1)) ⟨_,rfl,h2.append (.cons clock hk hv .nil)⟩⟩
        simp only [Instr.mapUpdate,Sem.run_bind,i5 hE hu,Result.andThen_ok,A6 h1 (fun _ _ _ e=>by cases e),P8 (fun w=>i5 hE hkd w) (X7 hsk),hrf,hset]
        simp
      | some q =>
        obtain ⟨j,u,n⟩:=q
        obtain ⟨u',key,g1,g2,g3,g4,g5⟩:=hrf
        refine ⟨γ,_,?_,hput _ (.map ⟨es'.set j ⟨k',v',n⟩⟩ clock) ⟨_,rfl,by rw [G7];exact h2.set j hk hv⟩⟩
        simp only [Instr.mapUpdate,Sem.run_bind,i5 hE hu,Result.andThen_ok,A6 h1 (fun _ _ _ e=>by cases e),P8 (fun w=>i5 hE hkd w) (X7 hsk),g1]
        have e1:(((⟨es'⟩:Array MapEntry)[j]?).map (·.key)).getD k'=key:=by simp [g3]
        rw [e1]
        simp only [Instr.keyThatStays,uT g4,if_true,Sem.run_pure,Result.andThen_ok,hset]
        congr 4
        apply Array.ext_getElem?
        intro r
        rw [Array.getElem?_modify]
        by_cases er:j=r
        ·subst er
         rw [if_pos rfl]
         simp [g3]
         have:=(List.getElem?_eq_some_iff.1 g3).1
         rw [List.getElem?_set_self this]
        ·rw [if_neg er]
         simp [List.getElem?_set_ne er]
   ·cases h
  ·cases h
 ·cases h
theorem yX {P:Program} {S:Hp} {ng:Nat} {t:Nat}:yA P γ ng S (Instr.makeMap t none) (.mp S.nx) (S.alloc (.map [] 0)):=by
 intro w hH
 obtain ⟨h1,h2⟩:=hH.alloc (w':={ w with heap:=w.heap.push (.map #[] 0) }) (ob:=.map #[] 0) (siz:=0) (o:=.map [] 0) rfl rfl rfl ⟨[],rfl,.nil⟩
 refine ⟨_,.map (some w.heap.size),_,?_,.mp (L:=⟨w.heap.size,0,0⟩) (Gm.with_same _ _ _),h1,h2⟩
 simp only [Instr.makeMap,Sem.run_bind,Sem.run_pure,run_newObj,Result.andThen_ok]
end
def Mk (x:AV):Option Nat:=match x with|.int .u8 z=>Int.rec (fun n=>Bool.rec none (some n) (Nat.blt n 256)) (fun _=>none) z|_=>none
def pS (l:List AV):Option (List Nat):=List.rec (some []) (fun x _ ih=>Option.rec none (fun n=>Option.rec none (fun t=>some (n::t)) ih) (Mk x)) l
theorem GT {γ:Gm} {x:AV} {n:Nat} (h:Mk x=some n) {v:Value} (hx:VR γ x v):v=.int .u8 (Int.ofNat n)∧n < 256:=by
 unfold Mk at h
 split at h
 ·rename_i z
  cases z with
  | ofNat m =>
    obtain ⟨h1,h2⟩:=d5 (b:=Nat.blt m 256) h
    cases h2
    rw [f6] at h1
    cases hx
    exact ⟨rfl,of_decide_eq_true h1⟩
  | negSucc m=>cases h
 ·cases h
theorem yY {γ:Gm}:∀ {l:List AV} {r:List Nat},pS l=some r→∀ {vs:List Value},LR γ l vs→vs=(r.map Int.ofNat).map (Value.int .u8)∧∀ n ∈ r,n < 256
 | [],r,h,vs,hl=>by cases h;cases hl;exact ⟨rfl,fun n hn=>by cases hn⟩
 | x :: l,r,h,vs,hl=>by
   have h':(Option.rec none (fun n=>Option.rec none (fun t=>some (n::t)) (pS l)) (Mk x):Option (List Nat))=some r:=h
   cases h1:Mk x with
   | none=>rw [h1] at h';cases h'
   | some n =>
     rw [h1] at h'
     cases h2:pS l with
     | none=>rw [h2] at h';cases h'
     | some t =>
       rw [h2] at h';cases h'
       cases hl with
       | cons hx ht =>
         obtain ⟨e1,e2⟩:=GT h1 hx
         obtain ⟨e3,e4⟩:=yY h2 ht
         refine ⟨by rw [e1,e3];rfl,fun m hm=>?_⟩
         rcases List.mem_cons.1 hm with rfl|hm
         ·exact e2
         ·exact e4 m hm
theorem lP:∀ (r:List Nat) (s:ByteArray),(∀ n ∈ r,n < 256)→j5 ((r.map Int.ofNat).foldl (fun r n=>r.push (UInt8.ofNat n.toNat)) s)=j5 s++r
 | [],s,_=>by simp
 | n :: r,s,h=>by
   rw [List.map_cons,List.foldl_cons,lP r _ (fun m hm=>h m (List.mem_cons_of_mem _ hm))]
   have hn:=h n (List.mem_cons_self ..)
   have:j5 (s.push (UInt8.ofNat (Int.ofNat n).toNat))=j5 s++[n]:=by
    unfold j5
    simp [ByteArray.push,Nat.mod_eq_of_lt hn]
   rw [this];simp
theorem sJ {α β:Type} {o:Option α} {f:α→Option β} {r:β} (h:(Option.rec none f o:Option β)=some r):∃ x,o=some x∧f x=some r:=by
 cases o with
 | none=>cases h
 | some x=>exact ⟨x,rfl,h⟩
def YJ (S:Hp) (x:AV):Option (List Nat):=
 match x with
 | .nils=>some []
 | .sl b o len _=>(match T.get b S.hp with|some (.cells c _ _ _ _ _)=>Option.rec none pS (t9 len (w7 o c))|_=>none)
 | .su b o len _=>(match T.get b S.hp with|some (.cells c _ _ _ _ _)=>Option.rec none pS (t9 len (w7 o c))|_=>none)
 | _=>none
def WL (x:AV):Bool:=match x with|.nils=>true|.sl _ _ _ _=>true|.su _ _ _ _=>true|_=>false
def Dq (E:i3) (S:Hp) (s d:Nat) (x:AV):Option AV:=
 match WL x with
 | false=>Dk E s d x
 | true=>(match A4 E s,A4 E d with
   | some (.slice e),some .string=>(match A4 E e with|some (.int .u8)=>Option.rec none (fun l=>some (.str l)) (YJ S x)|_=>none)
   | _,_=>none)
theorem Ml {E:i3} (hE:E.Ok) {γ:Gm} {S:Hp} {w:World} (hH:HR γ E.ng S w) {s d:Nat} {x r:AV} (h:Dq E S s d x=some r) {x':Value} (hx:VR γ x x'):∃ v,(convert s d x').run E.P w=.ok v w∧VR γ r v:=by
 unfold Dq at h
 split at h
 ·obtain ⟨v,h1,h2⟩:=Lo hE h hx w
  exact ⟨v,h1,h2⟩
 ·split at h
  ·rename_i e h1 h2
   split at h
   ·rename_i h3
    obtain ⟨l,h4,h5⟩:=sJ (o:=YJ S x) h
    cases h5
    have key:∀ (b:Ps) (o len cap:Nat) (L:Loc),γ b=some L→(match T.get b S.hp with|some (.cells c _ _ _ _ _)=>Option.rec none pS (t9 len (w7 o c))|_=>(none:Option (List Nat)))=some l →
     ∃ v,(convert s d (.slice (some ⟨L.blk,L.off+o,none⟩) len cap)).run E.P w=.ok v w∧VR γ (.str l) v:=by
     intro b o len cap L hL hb
     split at hb
     ·rename_i c elem ex sty lo hi hg
      obtain ⟨l2,g1,g2⟩:=sJ (o:=t9 len (w7 o c)) hb
      obtain ⟨vs,g3,g4,g5⟩:=hH.range hg hL g1 E.P
      obtain ⟨g6,g7⟩:=yY g2 g4
      have hr:=run_bytesToString (P:=E.P) w ⟨L.blk,L.off+o,none⟩ len cap (l.map Int.ofNat) (by rw [g3,g6])
      refine ⟨_,(run_convert_bytes_string w s d e _ len cap (L6 hE h1) (L6 hE h3) (L6 hE h2)).trans hr,?_⟩
      have:=lP l ByteArray.empty g7
      have h0:j5 ByteArray.empty = []:=rfl
      rw [h0,List.nil_append] at this
      have hv:=VR.str (γ:=γ) ((l.map Int.ofNat).foldl (fun r n=>r.push (UInt8.ofNat n.toNat)) ByteArray.empty)
      rw [this] at hv
      exact hv
     ·cases hb
    cases hx with
    | nils =>
      cases h4
      refine ⟨.string ByteArray.empty,?_,VR.str ByteArray.empty⟩
      rw [run_convert_bytes_string w s d e _ 0 0 (L6 hE h1) (L6 hE h3) (L6 hE h2)]
      rfl
    | sl o len cap hL=>exact key _ o len cap _ hL h4
    | su o len cap z hL _ _ _=>exact key _ o len cap _ hL h4
    | _=>cases h4
   ·cases h
  ·cases h
theorem uU {P:Program} {e:TypeId} (hs:P.cellsOf e≠0) (count off n:Nat) (hr:off % P.cellsOf e=0) (hn:off / P.cellsOf e+n≤count):liesAt P P.depth e count off e n=true:=by
 have hd:P.depth=(2 * (P.types.size+Made.depth)+1)+1:=rfl
 rw [hd]
 simp only [liesAt,Bool.or_eq_true]
 left
 rw [hd]
 simp [rowAt,hs,hr,hn,sameLayout]
def Mm (E:i3) (S:Hp) (t:Nat) (x:AV):Option AV:=
 match x with
 | .nilp=>some .nilp
 | .ptr b o=>(match T.get b S.hp,q7 E t with
  | some (.cells c _ _ _ _ _),some (_+1)=>Bool.rec none (some (.ptr b o)) (Nat.blt o c.length)
  | _,_=>none)
 | _=>none
def sK (E:i3) (S:Hp) (u:Nat) (x:AV):Option AV:=
 match x with
 | .nilp=>some .nilp
 | .ptr b 0=>(match T.get b S.hp,q7 E u with
  | some (.cells c elem true _ _ _),some (_+1)=>(match Nat.beq elem u,Nat.beq (E.P.cellsOf u) 0,Nat.ble 1 (Nat.div c.length (E.P.cellsOf u)) with
   | true,false,true=>some (.ptr b 0)
   | _,_,_=>none)
  | _,_=>none)
 | _=>none
def pT (E:i3) (S:Hp) (s d:Nat) (x:AV):Option AV:=
 match A4 E s,A4 E d with
 | some (.pointer t),some .unsafePointer=>Mm E S t x
 | some .unsafePointer,some (.pointer u)=>sK E S u x
 | _,_=>Dq E S s d x
section
variable {E:i3} (hE:E.Ok) {γ:Gm} {S:Hp} {w:World}
theorem HR.cellsAt (hH:HR γ E.ng S w) {b:Ps} {c:List AV} {elem lo hi:Nat} {ex sty:Bool} {L:Loc} (hb:T.get b S.hp=some (.cells c elem ex sty lo hi)) (hL:γ b=some L) :
 ∃ pre cs post fz,w.heap[L.blk]? = some (.cells ⟨pre++cs++post⟩ elem fz)∧pre.length=L.off∧uG L pre cs post∧LR γ c cs∧PK L sty lo hi fz∧hi≤c.length∧(ex=true→pre = []∧post = []):=by
 obtain ⟨M,ob,h1,h2,pre,cs,post,fz,rfl,h3⟩:=hH.obj b _ hb
 rw [hL] at h1;cases h1
 exact ⟨pre,cs,post,fz,h2,h3⟩
theorem lQ {r:Nat} {c:Array Value} {e:TypeId} {fz:Nat × Nat} (h:w.heap[r]? = some (.cells c e fz)):w.shape? r=some (e,c.size):=by
 unfold World.shape?;rw [h]
theorem yZ {P:Program} {r:Nat} {sh:TypeId × Nat} (h:w.shape? r=some sh):(Go.viewAt r).run P w=.ok none w:=by
 simp [Go.viewAt,h]
theorem lR {P:Program} {a:Addr} {sh:TypeId × Nat} (h:w.shape? a.block=some sh):(Conv.seenAt a).run P w=.ok a w:=by
 simp [Conv.seenAt,yZ h]
include hE in
theorem Mn (hH:HR γ E.ng S w) {s d t:Nat} (hs:A4 E s=some (.pointer t)) (hd:A4 E d=some .unsafePointer) {x r:AV} (h:Mm E S t x=some r) {x':Value} (hx:VR γ x x') :
 ∃ v,(convert s d x').run E.P w=.ok v w∧VR γ r v:=by
 unfold Mm at h
 split at h
 ·cases h;cases hx
  refine ⟨.pointer none,?_,.nilp⟩
  simp [convert,Conv.unsafePointer,i5 hE hs,i5 hE hd]
 ·rename_i b o
  split at h
  ·rename_i c elem ex sty lo hi n hb hz
   obtain ⟨h1,h2⟩:=d5 h
   cases h2
   cases hx with
   | @ptr _ L _ hL =>
     obtain ⟨pre,cs,post,fz,g1,g2,g3,g4,g5,g6,g7⟩:=hH.cellsAt hb hL
     have hsh:=lQ g1
     have hlt:o < c.length:=by rw [f6] at h1;exact of_decide_eq_true h1
     have hl:=g4.length
     have hlt2:¬ (pre++cs++post).length≤L.off+o:=by simp;omega
     refine ⟨.pointer (some ⟨L.blk,L.off+o,none⟩),?_,.ptr o hL⟩
     have hse:=lR (P:=E.P) (w:=w) (a:=⟨L.blk,L.off+o,none⟩) hsh
     have hci:(Go.cellsIn L.blk).run E.P w=.ok (some (pre++cs++post).length) w:=by simp [Go.cellsIn,hsh]
     simp only [convert,Sem.run_bind,i5 hE hs,i5 hE hd,Result.andThen_ok]
     simp only [Conv.unsafePointer,Sem.run_bind,i5 hE hs,i5 hE hd,Result.andThen_ok,hse,hci,q6 hE hz]
     simp at hlt2
     simp
     intro hc
     omega
  ·cases h
 ·cases h
include hE in
theorem zB (hH:HR γ E.ng S w) {s d u:Nat} (hs:A4 E s=some .unsafePointer) (hd:A4 E d=some (.pointer u)) {x r:AV} (h:sK E S u x=some r) {x':Value} (hx:VR γ x x') :
 ∃ v,(convert s d x').run E.P w=.ok v w∧VR γ r v:=by
 unfold sK at h
 split at h
 ·cases h;cases hx
  refine ⟨.pointer none,?_,.nilp⟩
  simp [convert,Conv.unsafePointer,i5 hE hs,i5 hE hd]
 ·rename_i b
  split at h
  ·rename_i c elem sty lo hi n hb hz
   split at h
   ·rename_i h1 h2 h3
    cases h
    have e1:=Nat.eq_of_beq_eq_true h1
    subst e1
    have e2:E.P.cellsOf elem≠0:=fun e=>by rw [e] at h2;cases h2
    have e3:1≤c.length / E.P.cellsOf elem:=Nat.le_of_ble_eq_true h3
    cases hx with
    | @ptr _ L _ hL =>
      obtain ⟨pre,cs,post,fz,g1,g2,g3,g4,g5,g6,g7⟩:=hH.cellsAt hb hL
      obtain ⟨rfl,rfl⟩:=g7 rfl
      have hsh:=lQ g1
      have hl:=g4.length
      have hoff:L.off=0:=by rw [← g2];rfl
      refine ⟨.pointer (some ⟨L.blk,L.off+0,none⟩),?_,.ptr 0 hL⟩
      have hse:=lR (P:=E.P) (w:=w) (a:=⟨L.blk,L.off+0,none⟩) hsh
      have hva:(Go.variablesAt ⟨L.blk,L.off+0,none⟩ elem 1).run E.P w=.ok true w:=by
       have:=uU (P:=E.P) e2 (c.length / E.P.cellsOf elem) (L.off+0) 1 (by rw [hoff];simp) (by rw [hoff];simpa using e3)
       simp only [Go.variablesAt,Go.program,Sem.run_bind,Sem.run,Result.andThen_ok,Go.shape,hsh]
       rw [Nat.add_zero] at this
       simp [hl,this]
      simp only [convert,Sem.run_bind,i5 hE hs,i5 hE hd,Result.andThen_ok]
      simp only [Conv.unsafePointer,Sem.run_bind,i5 hE hs,i5 hE hd,Result.andThen_ok,hse,hva,q6 hE hz]
      simp
   ·cases h
  ·cases h
 ·cases h
include hE in
theorem Mo (hH:HR γ E.ng S w) {s d:Nat} {x r:AV} (h:pT E S s d x=some r) {x':Value} (hx:VR γ x x'):∃ v,(convert s d x').run E.P w=.ok v w∧VR γ r v:=by
 unfold pT at h
 split at h
 ·rename_i t hs hd;exact Mn hE hH hs hd h hx
 ·rename_i u hs hd;exact zB hE hH hs hd h hx
 ·exact Ml hE hH h hx
def zC (x:AV):Option AV:=
 match x with
 | .nils=>some .nilp
 | .sl b o _ (_+1)=>some (.ptr b o)
 | .su b o (_+1) _=>some (.ptr b o)
 | _=>none
theorem pU {P:Program} {x r:AV} (h:zC x=some r) {x':Value} (hx:VR γ x x') (ts:Array TypeId) (ty:TypeId):u0 P γ (Builtin.unsafeSliceData_ ts ty #[x']) r:=by
 unfold zC at h
 split at h
 ·cases h;cases hx;exact .mk (fun w=>rfl) .nilp
 ·cases h
  cases hx with
  | sl o len cap hL=>exact .mk (fun w=>Lib.run_unsafeSliceData_row w _ _ _ _ _ (by omega)) (.ptr _ hL)
 ·cases h
  cases hx with
  | su o len cap z hL hl _ _=>exact .mk (fun w=>Lib.run_unsafeSliceData_row w _ _ _ _ _ (by omega)) (.ptr _ hL)
 ·cases h
def UZ (lo hi o:Nat):Nat:=Bool.rec (Nat.min lo o) o (Nat.beq lo hi)
def PT (lo hi o n:Nat):Nat:=Bool.rec (Nat.max hi (Nat.add o n)) (Nat.add o n) (Nat.beq lo hi)
def Dr (E:i3) (S:Hp) (t:Nat) (p n:AV):Option (AV × Hp):=
 match p,n with
 | .nilp,.int .i64 (Int.ofNat 0)=>some (.str [],S)
 | .ptr _ _,.int .i64 (Int.ofNat 0)=>some (.str [],S)
 | .ptr b o,.int .i64 (Int.ofNat (m+1))=>(match A4 E t,T.get b S.hp with
  | some (.pointer e),some (.cells c elem ex false lo hi) =>
    (match Bool.and (Nat.ble S.fl b.idx) (Bool.and (Nat.beq elem e) (Bool.and (Nat.beq (E.P.cellsOf e) 1) (Nat.ble (m+1) 4611686018427387904))),t9 (m+1) (w7 o c) with
     | true,some l=>Option.rec none (fun s=>some (.str s,S.put b (.cells c elem ex false (UZ lo hi o) (PT lo hi o (m+1))))) (pS l)
     | _,_=>none)
  | _,_=>none)
 | _,_=>none
theorem Mp {P:Program} (pt it ty e:TypeId) (hp:P.underlying pt=some (.pointer e)) (hc:P.cellsOf e=1) (g off cells:Nat) (hsh:w.shape? g=some (e,cells)) (l:List UInt8) (h0:l≠[]) (hn:off+l.length≤cells) (h63:l.length≤9223372036854775807)
 (hcell:∀ j x,l[j]? = some x→w.cell? ((⟨g,off,none⟩:Addr).add j)=some (.int .u8 x.toNat)) :
 (Builtin.unsafeString_ #[pt,it] ty #[.pointer (some ⟨g,off,none⟩),.int .i64 l.length]).run P w=.ok (.string ⟨l.toArray⟩) (w.freeze ⟨g,off,none⟩ l.length):=by
 have hl:l.length≠0:=by simpa using h0
 have hlb:=Lib.run_loadBytes (P:=P) w l ⟨g,off,none⟩ .empty hcell
 have hlies:=uU (P:=P) (e:=e) (by rw [hc];decide) (cells / P.cellsOf e) off l.length (by rw [hc];omega) (by rw [hc];simpa using hn)
 have h63':¬ (9223372036854775807:Int) < (l.length:Int):=by omega
 have hdef:Builtin.unsafeString_ #[pt,it] ty #[.pointer (some ⟨g,off,none⟩),.int .i64 l.length] =
  (do
   let n ← asInt (.int .i64 l.length)
   if n < 0 then runtimePanic (.error "unsafe.String: len out of range")
   if n > IntKind.i64.max then unsupported (.unsafePointer "String: a length above the largest int")
   if n=0 then pure (.string .empty)
   else if ← variablesAt ⟨g,off,none⟩ (← elemOf pt) n.toNat then do
    let s ← loadBytes ⟨g,off,none⟩ .empty n.toNat
    freeze ⟨g,off,none⟩ n.toNat
    pure (.string s)
   else unsupported (.unsafePointer "String: not so many bytes at ptr")):=rfl
 rw [hdef]
 have hmax:IntKind.i64.max=9223372036854775807:=rfl
 have hneg:¬ (l.length:Int) < 0:=by omega
 simp [asInt,asIntOf,hmax,h63',hneg,hl,variablesAt,hsh,elemOf,run_underlying hp,hlies,hlb]
theorem GU {L:Loc} {lo hi o n:Nat} {fz:Nat × Nat} (hn:0 < n) (h:PK L false lo hi fz) :
 PK L false (UZ lo hi o) (PT lo hi o n) (if fz.1 == fz.2 then (L.off+o,L.off+o+n) else (min fz.1 (L.off+o),max fz.2 (L.off+o+n))):=by
 obtain ⟨h1,h2⟩:=h
 have h3:=h2 rfl
 unfold UZ PT
 have eadd:Nat.add o n=o+n:=rfl
 have emin:Nat.min lo o=min lo o:=rfl
 have emax:Nat.max hi (Nat.add o n)=max hi (o+n):=rfl
 rw [emin,emax,eadd]
 cases hb:Nat.beq lo hi with
 | true =>
   have e:=Nat.eq_of_beq_eq_true hb
   have h4:fz.1=fz.2:=by rcases h3 with h3|h3 <;> omega
   rw [if_pos (by simp [h4])]
   refine ⟨fun p a b c=>.inr ⟨?_,?_⟩,fun _=>.inr ⟨?_,.inr ?_,?_⟩⟩ <;> simp only at * <;> omega
 | false =>
   have e:lo≠hi:=fun e=>by rw [e,i9] at hb;simp at hb
   by_cases h4:fz.1=fz.2
   ·rw [if_pos (by simp [h4])]
    refine ⟨fun p a b c=>.inr ⟨?_,?_⟩,fun _=>.inr ⟨?_,.inr ?_,?_⟩⟩ <;> simp only at * <;> omega
   ·rw [if_neg (by simp [h4])]
    rcases h3 with h3|⟨h5,h6,h7⟩
    ·exact absurd h3 h4
    ·refine ⟨fun p a b c=>.inr ⟨?_,?_⟩,fun _=>.inr ⟨?_,?_,?_⟩⟩ <;> simp only at * <;> omega
include hE in
theorem uV {t it:Nat} {p n r:AV} {S':Hp} (h:Dr E S t p n=some (r,S')) {p' n':Value} (hp:VR γ p p') (hn:VR γ n n') (ty:TypeId):yA E.P γ E.ng S (Builtin.unsafeString_ #[t,it] ty #[p',n']) r S':=by
 intro w hH
 unfold Dr at h
 split at h
 ·cases h;cases hp;cases hn
  exact ⟨γ,_,w,Lib.run_unsafeString_none w _ _ _ _,VR.str ByteArray.empty,hH,j6.refl _ _ _⟩
 ·cases h;cases hn
  cases hp with
  | ptr _ hL=>exact ⟨γ,_,w,Lib.run_unsafeString_none w _ _ _ _,VR.str ByteArray.empty,hH,j6.refl _ _ _⟩
 ·rename_i b o m
  split at h
  ·rename_i e c elem ex lo hi hu hb
   split at h
   ·rename_i l hcond hl
    obtain ⟨s,h1,h2⟩:=sJ (o:=pS l) h
    cases h2
    have q1:Nat.ble S.fl b.idx=true∧Nat.beq elem e=true∧Nat.beq (E.P.cellsOf e) 1=true∧Nat.ble (m+1) 4611686018427387904=true:=by
     revert hcond
     cases Nat.ble S.fl b.idx <;> cases Nat.beq elem e <;> cases Nat.beq (E.P.cellsOf e) 1 <;> cases Nat.ble (m+1) 4611686018427387904 <;> simp
    obtain ⟨c1,c2,c3,c4⟩:=q1
    have e1:=Nat.eq_of_beq_eq_true c2
    subst e1
    have e2:=Nat.eq_of_beq_eq_true c3
    have e4:m+1≤4611686018427387904:=Nat.le_of_ble_eq_true c4
    cases hn
    cases hp with
    | @ptr _ L _ hL =>
      obtain ⟨pre,cs,post,fz,g1,g2,g3,g4,g5,g6,g7⟩:=hH.cellsAt hb hL
      obtain ⟨e5,e6⟩:=E7 hl
      rw [E6] at e5 e6
      have hlc:=g4.length
      have e6':m+1≤c.length - o:=by rw [← List.length_drop];exact e6
      have hlr:LR γ l ((cs.drop o).take (m+1)):=e5 ▸ (g4.drop o).take (m+1)
      obtain ⟨g8,g9⟩:=yY h1 hlr
      have hsl:s.length=m+1:=by
       have:=congrArg List.length g8
       simp at this;omega
      have hbl:(s.map UInt8.ofNat).length=m+1:=by rw [List.length_map];exact hsl
      have hcell:∀ j x,(s.map UInt8.ofNat)[j]? = some x→w.cell? ((⟨L.blk,L.off+o,none⟩:Addr).add j)=some (.int .u8 x.toNat):=by
       intro j x hx
       rw [List.getElem?_map] at hx
       cases hs:s[j]? with
       | none=>rw [hs] at hx;cases hx
       | some k =>
         rw [hs] at hx;cases hx
         have hk:=g9 k (List.mem_of_getElem? hs)
         have hj:j < m+1:=by have:=(List.getElem?_eq_some_iff.1 hs).1;omega
         have e7:((cs.drop o).take (m+1))[j]? = some (.int .u8 (Int.ofNat k)):=by
          rw [g8,List.getElem?_map,List.getElem?_map,hs];rfl
         rw [List.getElem?_take_of_lt hj,List.getElem?_drop] at e7
         have e8:(pre++cs++post)[L.off+o+j]? = some (.int .u8 (Int.ofNat k)):=by
          rw [List.append_assoc,List.getElem?_append_right (by omega),g2]
          rw [show L.off+o+j - L.off=o+j from by omega]
          rw [List.getElem?_append_left (by have:=(List.getElem?_eq_some_iff.1 e7).1;exact this)]
          exact e7
         rw [B4]
         unfold World.cell?
         simp only [g1]
         have e9:(UInt8.ofNat k).toNat=k:=by simp [Nat.mod_eq_of_lt hk]
         rw [e9]
         simpa using e8
      have hrun:=Mp (P:=E.P) (w:=w) t it ty elem (L6 hE hu) e2 L.blk (L.off+o) _ (lQ g1) (s.map UInt8.ofNat) (by intro e;rw [e] at hbl;simp at hbl)
       (by rw [hbl];simp;omega) (by rw [hbl];omega) hcell
      rw [hbl] at hrun
      have hres:j5 ⟨(s.map UInt8.ofNat).toArray⟩=s:=by
       unfold j5
       simp only [List.map_map]
       have:s.map (UInt8.toNat ∘ UInt8.ofNat)=s.map id:=List.map_congr_left (fun k hk=>by simp [Nat.mod_eq_of_lt (g9 k hk)])
       rw [this,List.map_id]
      have hlt:=(Array.getElem?_eq_some_iff.1 g1).1
      have hv:=VR.str (γ:=γ) ⟨(s.map UInt8.ofNat).toArray⟩
      rw [hres] at hv
      refine ⟨γ,_,_,hrun,hv,?_⟩
      refine hH.put (o':=.cells c elem ex false (UZ lo hi o) (PT lo hi o (m+1))) (L:=L)
       (ob':=.cells ⟨pre++cs++post⟩ elem (if fz.1 == fz.2 then (L.off+o,L.off+o+(m+1)) else (min fz.1 (L.off+o),max fz.2 (L.off+o+(m+1))))) hb hL (Nat.le_of_ble_eq_true c1) ?_ ?_ ?_ ?_ ?_ ?_
      ·simp [World.freeze]
      ·intro r hr
       simp only [World.freeze,if_neg (show ¬ m+1=0 from by omega)]
       rw [Array.getElem?_modify,if_neg (fun e=>hr e.symm)]
      ·simp only [World.freeze,if_neg (show ¬ m+1=0 from by omega)]
       rw [Array.getElem?_modify,if_pos rfl,g1]
       rfl
      ·refine ⟨pre,cs,post,_,rfl,g2,g3,g4,GU (by omega) g5,?_,g7⟩
       unfold PT
       have eadd:Nat.add o (m+1)=o+(m+1):=rfl
       have emax:Nat.max hi (Nat.add o (m+1))=max hi (o+(m+1)):=rfl
       rw [emax,eadd]
       cases Nat.beq lo hi <;> simp only <;> omega
      ·simp only [World.freeze,if_neg (show ¬ m+1=0 from by omega)]
      ·simp only [World.freeze,if_neg (show ¬ m+1=0 from by omega)]
   ·cases h
  ·cases h
 ·cases h
end
end Go.AM
end
