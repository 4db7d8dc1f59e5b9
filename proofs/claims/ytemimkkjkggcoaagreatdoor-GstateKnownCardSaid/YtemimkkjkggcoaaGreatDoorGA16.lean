import Derived.Test.YtemimkkjkggcoaaGreatDoorGA15c
/- The operations, one after the other. -/
namespace Go.AM

/-- a deferred call: a mark of a loop over a function, or a call -/
inductive AD where
  | mark (b : Ps)
  | call (f : Nat) (args cap : List AV)
inductive DR (γ : Gm) : AD → Deferred → Prop where
  | mark {b : Ps} {L : Loc} (h : γ b = some L) : DR γ (.mark b) { target := .collected L.blk, args := #[] }
  | call {a c : List AV} {a' c' : List Value} (f : Nat) (h : LR γ a a') (hc : LR γ c c') : DR γ (.call f a c) { target := .fn (.func f) ⟨c'⟩, args := ⟨a'⟩ }
theorem DR.mono {γ γ' : Gm} (hg : Gm.le γ γ') {d : AD} {d' : Deferred} (h : DR γ d d') : DR γ' d d' := by
  cases h with
  | mark h => exact .mark (hg _ _ h)
  | call f h hc => exact .call f (h.mono hg) (hc.mono hg)

/-- what an operation comes to -/
inductive RO where
  | v (x : AV) (S : Hp)
  | call (f : Nat) (args : List AV)
  | yld (l : Ps) (args : List AV)
  | dfr (d : AD)
  | pan (x : AV)
  | rcv

noncomputable def vS (S : Hp) (o : Option AV) : Option RO := Option.rec none (fun x => some (.v x S)) o
noncomputable def vP (o : Option (AV × Hp)) : Option RO := Option.rec none (fun p => some (.v p.1 p.2)) o
noncomputable def vU (o : Option Hp) : Option RO := Option.rec none (fun S => some (.v (.tup []) S)) o
noncomputable def b1 {α : Type} (o : Option AV) (f : AV → Option α) : Option α := Option.rec none f o

abbrev OpF := Env → Tm → Hp → Nat → Option RO
noncomputable def oMove (x : Operand) : OpF := fun E tm S _ => vS S (evX E.ng tm x)
noncomputable def oPick (c a b : Operand) : OpF := fun E tm S _ => b1 (evX E.ng tm c) fun c => match c with | .bool true => vS S (evX E.ng tm a) | .bool false => vS S (evX E.ng tm b) | _ => none
noncomputable def oAlloc (t : Nat) : OpF := fun E _ S _ => vP (allocA E S t)
noncomputable def oBox (t : Nat) (x : Operand) : OpF := fun E tm S _ => b1 (evX E.ng tm x) fun v => some (.v (.ptr S.nx 0) (S.alloc (.cells (cellsA v) t true false 0 0)))
noncomputable def evPs (ng : Nat) (tm : Tm) (l : List (Nat × Operand)) : Option (List (Nat × AV)) :=
  List.rec (some []) (fun p _ ih => Prod.rec (fun i x => Option.rec none (fun y => Option.rec none (fun t => some ((i, y) :: t)) ih) (evX ng tm x)) p) l
noncomputable def oBuild (t : Nat) (ps : Array (Nat × Operand)) : OpF := fun E tm S _ => Option.rec none (fun l => vS S (buildA E t l)) (evPs E.ng tm ps.toList)
noncomputable def oBuildS (t len : Nat) (ps : Array (Nat × Operand)) : OpF := fun E tm S _ => Option.rec none (fun l => vP (buildSA E S t len l)) (evPs E.ng tm ps.toList)
noncomputable def oLoad (t : Nat) (a : Operand) : OpF := fun E tm S _ => b1 (evX E.ng tm a) fun a => vS S (loadA E S t a)
noncomputable def oStore (t : Nat) (a x : Operand) : OpF := fun E tm S _ => b1 (evX E.ng tm a) fun a => b1 (evX E.ng tm x) fun v => vU (storeA E S t a v)
noncomputable def notNil (v : AV) : Bool := match v with | .nilp => false | .nili => false | .nilf => false | _ => true
noncomputable def oNil (x : Operand) : OpF := fun E tm S _ => b1 (evX E.ng tm x) fun v => Bool.rec none (some (.v v S)) (notNil v)
noncomputable def oBin (op : BinOp) (t : Nat) (x y : Operand) (_ : Nat) : OpF := fun E tm S _ => b1 (evX E.ng tm x) fun a => b1 (evX E.ng tm y) fun b => vS S (bin E op t x y a b)
noncomputable def oUn (op : UnOp) (_ : Nat) (x : Operand) : OpF := fun E tm S _ => b1 (evX E.ng tm x) fun a => vS S (un op a)
noncomputable def oConv (s d : Nat) (x : Operand) : OpF := fun E tm S _ => b1 (evX E.ng tm x) fun a => vS S (conv2 E S s d a)
noncomputable def notIfc (d : TypeDesc) : Bool := match d with | .interface _ => false | _ => true
noncomputable def ifcA (E : Env) (t : Nat) (x : AV) : Option AV := match und E t with | some d => Bool.rec none (some (.ifc t x)) (notIfc d) | none => none
noncomputable def oIfc (t : Nat) (x : Operand) : OpF := fun E tm S _ => b1 (evX E.ng tm x) fun a => vS S (ifcA E t a)
noncomputable def oFunc (fn : Fn) (first cap : Array Operand) : OpF := fun E tm S _ =>
  match fn with
  | .func f => Option.rec none (fun a => Option.rec none (fun c => some (.v (.fn f a c) S)) (evXs E.ng tm cap.toList)) (evXs E.ng tm first.toList)
  | _ => none
noncomputable def oMap (_ : Nat) (r : Option Operand) : OpF := fun _ _ S _ => match r with | none => some (.v (.mp S.nx) (S.alloc (.map [] 0))) | some _ => none
noncomputable def oMakeS (t : Nat) (l c : Operand) : OpF := fun E tm S _ => b1 (evX E.ng tm l) fun l => b1 (evX E.ng tm c) fun c => vP (makeSA E S t l c)
noncomputable def evO (ng : Nat) (tm : Tm) (x : Option Operand) : Option (Option AV) := Option.rec (some none) (fun x => Option.rec none (fun v => some (some v)) (evX ng tm x)) x
noncomputable def oSlice (t : Nat) (x : Operand) (lo hi mx : Option Operand) : OpF := fun E tm S _ => b1 (evX E.ng tm x) fun a =>
  match evO E.ng tm lo, evO E.ng tm hi, evO E.ng tm mx with
  | some lo, some hi, some mx => vS S (sliceA E S t a lo hi mx)
  | _, _, _ => none
noncomputable def oFaddr (t : Nat) (x : Operand) (f : Nat) : OpF := fun E tm S _ => b1 (evX E.ng tm x) fun a => vS S (faddrA E t a f)
noncomputable def oField (t : Nat) (x : Operand) (f : Nat) : OpF := fun E tm S _ => b1 (evX E.ng tm x) fun a => vS S (fieldA E t a f)
noncomputable def oIaddr (t : Nat) (x i : Operand) : OpF := fun E tm S _ => b1 (evX E.ng tm x) fun a => b1 (evX E.ng tm i) fun i => vS S (iaddrA E t a i)
noncomputable def oIndex (t : Nat) (x i : Operand) : OpF := fun E tm S _ => b1 (evX E.ng tm x) fun a => b1 (evX E.ng tm i) fun i => vS S (indexA E t a i)
noncomputable def oLook (t : Nat) (x k : Operand) (ok : Bool) : OpF := fun E tm S _ => b1 (evX E.ng tm x) fun a => b1 (evX E.ng tm k) fun k => vS S (lookupA E S t a k ok)
noncomputable def oMapU (t : Nat) (m k x : Operand) : OpF := fun E tm S _ => b1 (evX E.ng tm m) fun m => b1 (evX E.ng tm k) fun k => b1 (evX E.ng tm x) fun x => vU (mapUpdateA E S t m k x)
noncomputable def oExt (x : Operand) (i : Nat) : OpF := fun E tm S _ => b1 (evX E.ng tm x) fun a => match a with | .tup l => vS S (nth l i) | _ => none
noncomputable def tasB (E : Env) (x : AV) (a : Nat) (ok : Bool) : Option AV :=
  match x with
  | .ifc t v => (match Nat.beq t a, ok with
      | true, true => some (.tup [v, .bool true])
      | true, false => some v
      | false, true => (match zeroA E a with | some z => some (.tup [z, .bool false]) | none => none)
      | false, false => none)
  | .nili => (match ok with | true => (match zeroA E a with | some z => some (.tup [z, .bool false]) | none => none) | false => none)
  | _ => none
noncomputable def tasA (E : Env) (x : AV) (a : Nat) (ok : Bool) : Option AV := match und E a with | some d => Bool.rec none (tasB E x a ok) (notIfc d) | none => none
noncomputable def oTas (x : Operand) (_ a : Nat) (ok : Bool) : OpF := fun E tm S _ => b1 (evX E.ng tm x) fun v => vS S (tasA E v a ok)
noncomputable def extA (x : Ext) (args : List AV) : Option AV :=
  match x with
  | .sqrt => (match args with
    | [.flt .f64 b] => (match FloatKind.f64.format.sqrt b with | some r => some (.flt .f64 r) | none => none)
    | _ => none)
noncomputable def extV (E : Env) (S : Hp) (f : Nat) (args : List AV) : Option RO :=
  match T.get (Ps.of f) E.ext with
  | some (some x) => vS S (extA x args)
  | _ => none
noncomputable def callV (E : Env) (S : Hp) (f : AV) (args : List AV) : Option RO :=
  match f with
  | .fn f first cap => (match T.get (Ps.of f) E.funcs with | some (some _) => some (.call f (lapp (lapp first args) cap)) | _ => extV E S f (lapp (lapp first args) cap))
  | .yl l => some (.yld l args)
  | _ => none
noncomputable def mm (g : AV → AV → Option AV) (l : List AV) (x : AV) : Option AV := List.rec (motive := fun _ => AV → Option AV) (fun x => some x) (fun y _ ih x => Option.rec none ih (g x y)) l x
noncomputable def builtA (E : Env) (S : Hp) (b : Builtin) (ts : List Nat) (args : List AV) : Option RO :=
  match b with
  | .len => (match ts, args with | t :: _, x :: _ => vS S (lenA E S t x) | _, _ => none)
  | .append => (match ts, args with | s :: t :: _, x :: y :: _ => vP (appA E S s t x y) | _, _ => none)
  | .max => (match args with | x :: l => vS S (mm max2A l x) | [] => none)
  | .min => (match args with | x :: l => vS S (mm min2A l x) | [] => none)
  | .recover => some .rcv
  | _ => none
noncomputable def oCall (c : Call) : OpF := fun E tm S _ =>
  Option.rec none (fun args => match c.callee with
    | .value f => b1 (evX E.ng tm f) fun f => callV E S f args
    | .builtin b => builtA E S b c.argTypes.toList args
    | .invoke _ _ => none) (evXs E.ng tm c.args.toList)
noncomputable def oDefer (c : Call) : OpF := fun E tm _ _ =>
  Option.rec none (fun args => match c.callee with
    | .value f => b1 (evX E.ng tm f) fun f => match f with
      | .fn f first cap => some (.dfr (.call f (List.append first args) cap))
      | _ => none
    | _ => none) (evXs E.ng tm c.args.toList)
noncomputable def oPanic (x : Operand) : OpF := fun E tm _ _ => b1 (evX E.ng tm x) fun v => match v with | .ifc t v => some (.pan (.ifc t v)) | _ => none
noncomputable def oNo1 {α : Type} (_ : α) : OpF := fun _ _ _ _ => none
noncomputable def oNo2 {α β : Type} (_ : α) (_ : β) : OpF := fun _ _ _ _ => none
noncomputable def oNo3 {α β δ : Type} (_ : α) (_ : β) (_ : δ) : OpF := fun _ _ _ _ => none
noncomputable def oNo4 {α β δ ε : Type} (_ : α) (_ : β) (_ : δ) (_ : ε) : OpF := fun _ _ _ _ => none

noncomputable def evOp (o : Op) : OpF :=
  Op.rec (motive := fun _ => OpF) oMove oMove oPick oAlloc oBox oBuild oBuildS oMapU oLoad oStore oNo1 oNo1 oNil oBin oUn oConv oNo2 oIfc oFunc oMap oNo2 oMakeS oSlice oFaddr oField oIaddr oIndex oLook oMapU oNo3 oNo4
    oNo2 oNo2 oNo1 oTas oExt oCall oNo1 oDefer oPanic oNo2 oNo3 oNo2 o

/-- what the model's operation comes to -/
def OpR (E : Env) (γ : Gm) (S : Hp) (w : World) (s : Sem Next) : RO → Prop
  | .v x S' => ∃ γ' v w', (s.run E.P w = .ok (.value v) w' ∨ (s.run E.P w = .ok .skip w' ∧ v = undef)) ∧ VR γ' x v ∧ HR γ' E.ng S' w' ∧ Pres S γ w S' γ' w'
  | .call f args => ∃ vs, s.run E.P w = .ok (.enter f ⟨vs⟩) w ∧ LR γ args vs ∧ ∃ i, T.get (Ps.of f) E.funcs = some (some i)
  | .yld l args => ∃ L vs, γ l = some L ∧ LR γ args vs ∧ ∀ w, (s.run E.P w = (Instr.yield L.blk ⟨vs⟩).run E.P w)
  | .dfr d => ∃ d', s.run E.P w = .ok (.defer d') w ∧ DR γ d d'
  | .pan x => ∃ v, s.run E.P w = .halt (.panic v) w ∧ VR γ x v
  | .rcv => s.run E.P w = .ok .recover w
end Go.AM
