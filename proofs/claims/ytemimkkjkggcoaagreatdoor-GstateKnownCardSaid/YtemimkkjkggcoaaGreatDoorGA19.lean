import Derived.Test.YtemimkkjkggcoaaGreatDoorGA18
/- The abstract machine: frames and steps. -/
namespace Go.AM

/-- what is to be done -/
inductive AI where
  | code (c : Code)
  | blk (id : Nat)
  | lop (c : Code)
  | scp (c : Code)
  | reg (ops : Array Oper) (i : Nat) (rest : List Oper)
  | inRF (l : Ps)
  | endRF (l : Ps)
  | beg
inductive AMd where
  | run
  | ret
  | pan (v : AV) (rec : Bool)
/-- a frame. lost: nothing is known of the temporaries; dk: a deferred call -/
structure AF where
  fn : Nat
  nt : Nat
  tm : Tm
  todo : List AI
  dfs : List AD
  md : AMd
  lost : Bool
  dk : Bool
  rd : Option Ps
inductive SR where
  | next (f : AF) (cs : List AF) (S : Hp)
  | fin (v : AV) (S : Hp)
  | finP (v : AV) (S : Hp)
  | bad

noncomputable def exitA (id : Nat) (l : List AI) : Option (List AI) :=
  List.rec none (fun x k ih => match x with | .blk j => Bool.rec ih (some k) (Nat.beq j id) | _ => ih) l
noncomputable def putD (nt : Nat) (d : Option Nat) (v : AV) (tm : Tm) : Option (Tm) :=
  Option.rec (some tm) (fun d => Bool.rec none (some (tset d v tm)) (Nat.blt d nt)) d
abbrev FF := Nat → Nat → Tm → List AD → AMd → Bool → Bool → Option Ps → AV → Option AF
noncomputable def fNo : FF := fun _ _ _ _ _ _ _ _ _ => none
noncomputable def fNoK : List AI → FF := fun _ => fNo
noncomputable def fReg (ops : Array Oper) (i : Nat) (rest : List Oper) : List AI → FF := fun k fn nt tm dfs md lost dk rd v =>
  List.rec none (fun o rest' _ => Option.rec none (fun tm' => some ⟨fn, nt, tm', .reg ops (Nat.succ i) rest' :: k, dfs, md, lost, dk, rd⟩) (putD nt o.dst v tm)) rest
noncomputable def fInRF (l : Ps) : List AI → FF := fun k fn nt tm dfs md lost dk rd _ => some ⟨fn, nt, tm, .endRF l :: k, dfs, md, lost, dk, rd⟩
noncomputable def finishA (f : AF) (v : AV) : Option AF :=
  AF.rec (motive := fun _ => AV → Option AF) (fun fn nt tm todo dfs md lost dk rd v =>
    List.rec (motive := fun _ => FF) fNo (fun x k _ => AI.rec (motive := fun _ => List AI → FF) (fun _ => fNoK) (fun _ => fNoK) (fun _ => fNoK) (fun _ => fNoK) fReg fInRF (fun _ => fNoK) fNoK x k) todo fn nt tm dfs md lost dk rd v) f v
noncomputable def finishA0 (f : AF) (v : AV) : Option AF :=
  match f with
  | ⟨fn, nt, tm, todo, dfs, md, lost, dk, rd⟩ => match todo with
    | .reg ops i (o :: rest) :: k => (match putD nt o.dst v tm with | some tm' => some ⟨fn, nt, tm', .reg ops (Nat.succ i) rest :: k, dfs, md, lost, dk, rd⟩ | none => none)
    | .inRF l :: k => some ⟨fn, nt, tm, .endRF l :: k, dfs, md, lost, dk, rd⟩
    | _ => none
theorem finishA_eq (f : AF) (v : AV) : finishA f v = finishA0 f v := by
  obtain ⟨fn, nt, tm, todo, dfs, md, lost, dk, rd⟩ := f
  unfold finishA0
  cases todo with
  | nil => rfl
  | cons x k =>
    cases x with
    | reg ops i rest =>
      cases rest with
      | nil => rfl
      | cons o rest =>
        show (Option.rec none (fun tm' => some ⟨fn, nt, tm', .reg ops (Nat.succ i) rest :: k, dfs, md, lost, dk, rd⟩) (putD nt o.dst v tm) : Option AF) = _
        simp only
        cases putD nt o.dst v tm <;> rfl
    | _ => rfl
noncomputable def isRun (m : AMd) : Bool := match m with | .run => true | _ => false
/-- a value goes back to the caller -/
noncomputable def backA (v : AV) (cs : List AF) (S : Hp) : SR :=
  List.rec (.fin v S) (fun c cs _ => Bool.rec .bad (Bool.rec (Option.rec .bad (fun c' => .next c' cs S) (finishA c v)) .bad c.lost) (isRun c.md)) cs
noncomputable def backA0 (v : AV) (cs : List AF) (S : Hp) : SR :=
  match cs with
  | [] => .fin v S
  | c :: cs => (match isRun c.md, c.lost, finishA c v with | true, false, some c' => .next c' cs S | _, _, _ => .bad)
theorem backA_eq (v : AV) (cs : List AF) (S : Hp) : backA v cs S = backA0 v cs S := by
  cases cs with
  | nil => rfl
  | cons c cs =>
    unfold backA backA0
    simp only
    cases isRun c.md <;> cases c.lost <;> cases finishA c v <;> rfl

/-- is the operation wanted? -/
noncomputable def wantG (nt : Nat) (ops : Array Oper) (tm : Tm) (g : Nat × Bool) : Option Bool :=
  Prod.rec (fun j want => Option.rec none (fun oj => Option.rec none (fun d => Bool.rec none (Option.rec (some false) (fun b => some (b == want)) (boolOf (tget tm d))) (Nat.blt d nt)) oj.dst) (nth ops.toList j)) g
noncomputable def wantA (nt : Nat) (ops : Array Oper) (tm : Tm) (o : Oper) : Option Bool := Option.rec (some true) (fun g => wantG nt ops tm g) o.guard
noncomputable def wantA0 (nt : Nat) (ops : Array Oper) (tm : Tm) (o : Oper) : Option Bool :=
  match o.guard with
  | none => some true
  | some (j, want) => (match nth ops.toList j with
    | some oj => (match oj.dst with
      | some d => Bool.rec none (match tget tm d with | .bool b => some (b == want) | _ => some false) (Nat.blt d nt)
      | none => none)
    | none => none)
theorem wantA_eq (nt : Nat) (ops : Array Oper) (tm : Tm) (o : Oper) : wantA nt ops tm o = wantA0 nt ops tm o := by
  unfold wantA wantA0
  cases o.guard with
  | none => rfl
  | some g =>
    obtain ⟨j, want⟩ := g
    show wantG nt ops tm (j, want) = _
    unfold wantG
    simp only
    cases nth ops.toList j with
    | none => rfl
    | some oj =>
      simp only
      cases oj.dst with
      | none => rfl
      | some d =>
        simp only
        cases Nat.blt d nt with
        | false => rfl
        | true => simp only; cases tget tm d <;> rfl
inductive RS where
  | done (tm : Tm) (S : Hp)
  | stop (tm : Tm) (S : Hp) (i : Nat) (rest : List Oper) (r : RO)
  | bad
noncomputable def roV (r : RO) : Option (AV × Hp) := RO.rec (fun x S => some (x, S)) (fun _ _ => none) (fun _ _ => none) (fun _ => none) (fun _ => none) none r
noncomputable def goOn (nt : Nat) (d : Option Nat) (i : Nat) (tm : Tm) (go : Nat → Tm → Hp → RS) (x : AV) (S : Hp) : RS := Option.rec .bad (fun tm' => go (Nat.succ i) tm' S) (putD nt d x tm)
noncomputable def opRes (nt : Nat) (o : Oper) (rest : List Oper) (i : Nat) (tm : Tm) (S : Hp) (go : Nat → Tm → Hp → RS) (r : RO) : RS :=
  Option.rec (.stop tm S i (o :: rest) r) (fun p => Prod.rec (fun x S' => goOn nt o.dst i tm go x S') p) (roV r)
noncomputable def runOp (E : Env) (nt : Nat) (ops : Array Oper) (o : Oper) (rest : List Oper) (i : Nat) (tm : Tm) (S : Hp) (go : Nat → Tm → Hp → RS) : RS :=
  Option.rec .bad (fun w => Bool.rec (goOn nt o.dst i tm go (.tup []) S) (Option.rec .bad (fun r => opRes nt o rest i tm S go r) (evOp o.op E tm S o.type)) w) (wantA nt ops tm o)
noncomputable def runOp0 (E : Env) (nt : Nat) (ops : Array Oper) (o : Oper) (rest : List Oper) (i : Nat) (tm : Tm) (S : Hp) (go : Nat → Tm → Hp → RS) : RS :=
  match wantA nt ops tm o with
  | none => .bad
  | some false => (match putD nt o.dst (.tup []) tm with | some tm' => go (Nat.succ i) tm' S | none => .bad)
  | some true => (match evOp o.op E tm S o.type with
    | none => .bad
    | some (.v x S') => (match putD nt o.dst x tm with | some tm' => go (Nat.succ i) tm' S' | none => .bad)
    | some r => .stop tm S i (o :: rest) r)
theorem goOn_eq (nt : Nat) (d : Option Nat) (i : Nat) (tm : Tm) (go : Nat → Tm → Hp → RS) (x : AV) (S : Hp) : goOn nt d i tm go x S = (match putD nt d x tm with | some tm' => go (Nat.succ i) tm' S | none => .bad) := by
  unfold goOn; cases putD nt d x tm <;> rfl
theorem runOp_eq (E : Env) (nt : Nat) (ops : Array Oper) (o : Oper) (rest : List Oper) (i : Nat) (tm : Tm) (S : Hp) (go : Nat → Tm → Hp → RS) : runOp E nt ops o rest i tm S go = runOp0 E nt ops o rest i tm S go := by
  unfold runOp runOp0
  cases wantA nt ops tm o with
  | none => rfl
  | some b =>
    cases b with
    | false => exact goOn_eq ..
    | true =>
      simp only
      cases evOp o.op E tm S o.type with
      | none => rfl
      | some r =>
        cases r with
        | v x S' => exact goOn_eq ..
        | _ => rfl
noncomputable def runOps (E : Env) (nt : Nat) (ops : Array Oper) (l : List Oper) : Nat → Tm → Hp → RS :=
  List.rec (motive := fun _ => Nat → Tm → Hp → RS) (fun _ tm S => .done tm S) (fun o rest ih i tm S => runOp E nt ops o rest i tm S ih) l

/-- the arguments' tree -/
noncomputable def argT (l : List AV) : Nat → Tm → Tm :=
  List.rec (motive := fun _ => Nat → Tm → Tm) (fun _ t => t) (fun v _ ih i t => ih (Nat.succ i) (tset i v t)) l
noncomputable def enterA (E : Env) (f : Nat) (args : List AV) (dk : Bool) : Option AF :=
  match T.get (Ps.of f) E.funcs with
  | some (some i) => Bool.rec none (some ⟨f, i.nt, argT args 0 te, [.code i.code], [], .run, false, dk, none⟩) (Nat.ble (llen args) i.nt)
  | _ => none
noncomputable def parT (nt : Nat) (ps : List Nat) : List AV → Tm → Option (Tm) :=
  List.rec (motive := fun _ => List AV → Tm → Option (Tm)) (fun l t => match l with | [] => some t | _ => none)
    (fun p _ ih l t => match l with | v :: l => Bool.rec none (ih l (tset p v t)) (Nat.blt p nt) | [] => none) ps
noncomputable def roundA (E : Env) (S : Hp) (l : Ps) (args : List AV) : Option AF :=
  match T.get l S.hp with
  | some (.loop _ _ fn nt tm ps a b _) => (match parT nt ps args tm, T.get (Ps.of fn) E.funcs with | some tm', some (some _) => some ⟨fn, nt, tm', [.code a, .beg, .code b], [], .run, false, false, some l⟩ | _, _ => none)
  | _ => none
/-- a new frame over the old one -/
noncomputable def pushA (f : Option AF) (c : AF) (cs : List AF) (S : Hp) : SR := Option.rec .bad (fun f => .next f (c :: cs) S) f
/-- recover -/
noncomputable def recA (dk : Bool) (cs : List AF) : Option (AV × List AF) :=
  match dk with
  | false => some (.nili, cs)
  | true => (match cs with
    | [] => none
    | ⟨fn, nt, tm, todo, dfs, md, lost, dk, rd⟩ :: cs => (match md with
      | .pan v false => some (v, ⟨fn, nt, tm, todo, dfs, .pan v true, lost, dk, rd⟩ :: cs)
      | _ => some (.nili, ⟨fn, nt, tm, todo, dfs, md, lost, dk, rd⟩ :: cs)))
noncomputable def nextO (f : Option AF) (cs : List AF) (S : Hp) : SR := Option.rec .bad (fun f => .next f cs S) f

abbrev SF := Env → Nat → Nat → Tm → List AI → List AD → Bool → Option Ps → List AF → Hp → SR
abbrev SG := Array Oper → Env → Nat → Nat → Tm → Hp → Nat → List Oper → List AI → List AD → Bool → Option Ps → List AF → SR
noncomputable def gCall (f : Nat) (args : List AV) : SG := fun ops E fn nt tm S i rest k dfs dk rd cs => pushA (enterA E f args false) ⟨fn, nt, tm, .reg ops i rest :: k, dfs, .run, false, dk, rd⟩ cs S
noncomputable def gYld (l : Ps) (args : List AV) : SG := fun ops E fn nt tm S i rest k dfs dk rd cs => pushA (roundA E S l args) ⟨fn, nt, tm, .reg ops i rest :: k, dfs, .run, false, dk, rd⟩ cs S
noncomputable def gDfr (d : AD) : SG := fun ops _ fn nt tm S i rest k dfs dk rd cs => Option.rec (nextO (finishA ⟨fn, nt, tm, .reg ops i rest :: k, d :: dfs, .run, false, dk, rd⟩ (.tup [])) cs S) (fun _ => .bad) rd
noncomputable def gPan (v : AV) : SG := fun _ _ fn nt tm S _ _ _ dfs dk rd cs => .next ⟨fn, nt, tm, [], dfs, .pan v false, false, dk, rd⟩ cs S
noncomputable def gRcv : SG := fun ops _ fn nt tm S i rest k dfs dk rd cs =>
  (match rd, recA dk cs with | none, some (v, cs') => nextO (finishA ⟨fn, nt, tm, .reg ops i rest :: k, dfs, .run, false, dk, rd⟩ v) cs' S | _, _ => .bad)
noncomputable def gV (_ : AV) (_ : Hp) : SG := fun _ _ _ _ _ _ _ _ _ _ _ _ _ => .bad
noncomputable def afterOps (ops : Array Oper) (r : RS) : SF := fun E fn nt _ k dfs dk rd cs _ =>
  RS.rec (fun tm S => .next ⟨fn, nt, tm, k, dfs, .run, false, dk, rd⟩ cs S)
    (fun tm S i rest ro => RO.rec (motive := fun _ => SG) gV gCall gYld gDfr gPan gRcv ro ops E fn nt tm S i rest k dfs dk rd cs) .bad r
noncomputable def afterOps0 (ops : Array Oper) (r : RS) : SF := fun E fn nt _ k dfs dk rd cs _ =>
  match r with
  | .done tm S => .next ⟨fn, nt, tm, k, dfs, .run, false, dk, rd⟩ cs S
  | .bad => .bad
  | .stop tm S i rest ro => (match ro with
    | .call f args => pushA (enterA E f args false) ⟨fn, nt, tm, .reg ops i rest :: k, dfs, .run, false, dk, rd⟩ cs S
    | .yld l args => pushA (roundA E S l args) ⟨fn, nt, tm, .reg ops i rest :: k, dfs, .run, false, dk, rd⟩ cs S
    | .dfr d => (match rd with | none => nextO (finishA ⟨fn, nt, tm, .reg ops i rest :: k, d :: dfs, .run, false, dk, rd⟩ (.tup [])) cs S | some _ => .bad)
    | .pan v => .next ⟨fn, nt, tm, [], dfs, .pan v false, false, dk, rd⟩ cs S
    | .rcv => (match rd, recA dk cs with | none, some (v, cs') => nextO (finishA ⟨fn, nt, tm, .reg ops i rest :: k, dfs, .run, false, dk, rd⟩ v) cs' S | _, _ => .bad)
    | .v _ _ => .bad)
theorem afterOps_eq (ops : Array Oper) (r : RS) : afterOps ops r = afterOps0 ops r := by
  funext E fn nt tm0 k dfs dk rd cs S0
  cases r with
  | done tm S => rfl
  | bad => rfl
  | stop tm S i rest ro =>
    cases ro with
    | dfr d => cases rd <;> rfl
    | _ => rfl
noncomputable def sReg (ops : Array Oper) (i : Nat) (rest : List Oper) : SF := fun E fn nt tm k dfs dk rd cs S => afterOps ops (runOps E nt ops rest i tm S) E fn nt tm k dfs dk rd cs S
noncomputable def sTo (t : List AI) : SF := fun _ fn nt tm _ dfs dk rd cs S => .next ⟨fn, nt, tm, t, dfs, .run, false, dk, rd⟩ cs S
noncomputable def loopJump (j : Option Code) : LoopState := match j with | none => .ready | some _ => .done
/-- a round or a function ends -/
noncomputable def sLeave (j : Option Code) : SF := fun _ fn nt tm _ dfs dk rd cs S =>
  match rd with
  | none => (match j with
    | none => .next ⟨fn, nt, tm, [], dfs, .ret, false, dk, none⟩ cs S
    | some .ret => .next ⟨fn, nt, tm, [], dfs, .ret, false, dk, none⟩ cs S
    | _ => .bad)
  | some l => (match T.get l S.hp, Nat.ble S.fl l.idx, dk, dfs with
    | some (.loop _ _ lf ln lt ps a b d), true, false, [] => backA (.bool j.isNone) cs (S.put l (.loop (loopJump j) j lf ln lt ps a b d))
    | _, _, _, _ => .bad)
noncomputable def sRet : SF := sLeave (some .ret)
noncomputable def sSkip : SF := fun _ fn nt tm k dfs dk rd cs S => .next ⟨fn, nt, tm, k, dfs, .run, false, dk, rd⟩ cs S
noncomputable def sSeq (a b : Code) : SF := fun _ fn nt tm k dfs dk rd cs S => .next ⟨fn, nt, tm, .code a :: .code b :: k, dfs, .run, false, dk, rd⟩ cs S
noncomputable def sCond (c : Operand) (a b : Code) : SF := fun E fn nt tm k dfs dk rd cs S =>
  Option.rec .bad (fun v => Option.rec .bad (fun t => .next ⟨fn, nt, tm, .code (Bool.rec b a t) :: k, dfs, .run, false, dk, rd⟩ cs S) (boolOf v)) (evX E.ng tm c)
theorem sCond_eq (c : Operand) (a b : Code) (E : Env) (fn nt : Nat) (tm : Tm) (k : List AI) (dfs : List AD) (dk : Bool) (rd : Option Ps) (cs : List AF) (S : Hp) : sCond c a b E fn nt tm k dfs dk rd cs S = (match evX E.ng tm c with
  | some (.bool t) => .next ⟨fn, nt, tm, .code (Bool.rec b a t) :: k, dfs, .run, false, dk, rd⟩ cs S
  | _ => .bad) := by
  unfold sCond
  cases evX E.ng tm c with
  | none => rfl
  | some v => cases v <;> rfl
noncomputable def sBlock (id : Nat) (b : Code) : SF := fun _ fn nt tm k dfs dk rd cs S => .next ⟨fn, nt, tm, .code b :: .blk id :: k, dfs, .run, false, dk, rd⟩ cs S
noncomputable def sLoop (b : Code) : SF := fun _ fn nt tm k dfs dk rd cs S => .next ⟨fn, nt, tm, .code b :: .lop b :: k, dfs, .run, false, dk, rd⟩ cs S
noncomputable def sScope (b : Code) : SF := fun _ fn nt tm k dfs dk rd cs S => .next ⟨fn, nt, tm, .code b :: .scp b :: k, dfs, .run, false, dk, rd⟩ cs S
noncomputable def sExit (id : Nat) : SF := fun E fn nt tm k dfs dk rd cs S => Option.rec (sLeave (some (.exit id)) E fn nt tm k dfs dk rd cs S) (fun k' => .next ⟨fn, nt, tm, k', dfs, .run, false, dk, rd⟩ cs S) (exitA id k)
noncomputable def allocLoop (S : Hp) (fn nt : Nat) (tm : Tm) (ps : List Nat) (a b : Code) (d : Ps) : Hp := S.alloc (.loop .ready none fn nt tm ps a b d)
noncomputable def sRF (f : Operand) (ps : Array Tmp) (a b : Code) : SF := fun E fn nt tm k dfs dk rd cs S =>
  match evX E.ng tm f with
  | some (.fn g first cap) => (match rd with
    | none => pushA (enterA E g (lapp (lapp first [.yl (S.alloc (.dfr false)).nx]) cap) false) ⟨fn, nt, tm, .inRF (S.alloc (.dfr false)).nx :: k, .mark S.nx :: dfs, .run, false, dk, rd⟩ cs
        (allocLoop (S.alloc (.dfr false)) fn nt tm ps.toList a b S.nx)
    | some l => (match T.get l S.hp with
      | some (.loop _ _ _ _ _ _ _ _ d) => pushA (enterA E g (lapp (lapp first [.yl S.nx]) cap) false) ⟨fn, nt, tm, .inRF S.nx :: k, dfs, .run, false, dk, rd⟩ cs (allocLoop S fn nt tm ps.toList a b d)
      | _ => .bad))
  | _ => .bad
/-- the way in which a drawn region is done comes from outside -/
abbrev DrawF := Env → Nat → Nat → Tm → Array Oper → List AD → Bool → Option Ps → Hp → Option (Sum (Tm × Hp) (AV × Hp))
noncomputable def sRegion (D : DrawF) (_ : Nat) (ops : Array Oper) (draw : Bool) : SF := fun E fn nt tm k dfs dk rd cs S =>
  match draw with
  | false => sReg ops 0 ops.toList E fn nt tm k dfs dk rd cs S
  | true => (match D E fn nt tm ops dfs dk rd S with
    | some (.inl (tm', S')) => .next ⟨fn, nt, tm', k, dfs, .run, false, dk, rd⟩ cs S'
    | some (.inr (v, S')) => .next ⟨fn, nt, tm, [], dfs, .pan v false, true, dk, rd⟩ cs S'
    | none => .bad)
noncomputable def sBad : SF := fun _ _ _ _ _ _ _ _ _ _ => .bad
noncomputable def sCode (D : DrawF) (c : Code) : SF :=
  Code.rec (motive := fun _ => SF) sSkip (sRegion D) (fun a b _ _ => sSeq a b) (fun c a b _ _ => sCond c a b) (fun id b _ => sBlock id b) (fun b _ => sLoop b) (fun f ps a b _ _ => sRF f ps a b) sExit (fun b _ => sScope b) (fun _ => sSkip) (fun _ => sBad) sRet (fun _ => sBad) c
noncomputable def sEndRF (l : Ps) : SF := fun _ fn nt tm k dfs dk rd cs S =>
  match T.get l S.hp, Nat.ble S.fl l.idx with
  | some (.loop st pend lf ln lt ps a b d), true => (match st with
    | .busy => .bad
    | _ => .next ⟨fn, nt, tm, (match pend with | none => k | some c => .code c :: k), dfs, .run, false, dk, rd⟩ cs (S.put l (.loop .exhausted pend lf ln lt ps a b d)))
  | _, _ => .bad
noncomputable def sBeg : SF := fun _ fn nt tm k dfs dk rd cs S =>
  match rd with
  | none => .bad
  | some l => (match T.get l S.hp, Nat.ble S.fl l.idx with
    | some (.loop .ready pend lf ln lt ps a b d), true => .next ⟨fn, nt, tm, k, dfs, .run, false, dk, rd⟩ cs (S.put l (.loop .busy pend lf ln lt ps a b d))
    | _, _ => .bad)
noncomputable def sItem (D : DrawF) (x : AI) : SF :=
  AI.rec (motive := fun _ => SF) (sCode D) (fun _ => sSkip) sLoop (fun _ => sSkip) sReg (fun _ => sBad) sEndRF sBeg x
noncomputable def sRun (D : DrawF) (todo : List AI) (E : Env) (fn nt : Nat) (tm : Tm) (dfs : List AD) (dk : Bool) (rd : Option Ps) (cs : List AF) (S : Hp) : SR :=
  List.rec (motive := fun _ => DrawF → SF) (fun _ E fn nt tm _ dfs dk rd cs S => sLeave none E fn nt tm [] dfs dk rd cs S) (fun x k _ D E fn nt tm _ dfs dk rd cs S => sItem D x E fn nt tm k dfs dk rd cs S) todo D E fn nt tm [] dfs dk rd cs S
/-- results -/
noncomputable def res1 (E : Env) (S : Hp) (tm : Tm) (r : ResultVar) : Option AV :=
  match r with
  | .tmp t => some (tget tm t)
  | .cell a t => (match tget tm a with | .ptr b o => loadA E S t (.ptr b o) | _ => none)
noncomputable def resL (E : Env) (S : Hp) (tm : Tm) (l : List ResultVar) : Option (List AV) :=
  List.rec (some []) (fun r _ ih => Option.rec none (fun x => Option.rec none (fun t => some (x :: t)) ih) (res1 E S tm r)) l
noncomputable def resA (E : Env) (S : Hp) (tm : Tm) (l : List ResultVar) : Option AV :=
  match resL E S tm l with
  | some [x] => some x
  | some l => some (.tup l)
  | none => none
/-- behind the last deferred call -/
noncomputable def sReturn (E : Env) (fn : Nat) (tm : Tm) (lost dk : Bool) (cs : List AF) (S : Hp) : SR :=
  match T.get (Ps.of fn) E.funcs with
  | some (some i) => (match lost with
    | true => .bad
    | false => (match resA E S tm i.res with
      | none => .bad
      | some v => (match dk with
        | false => backA v cs S
        | true => (match cs with
          | ⟨fn, nt, tm, todo, dfs, .pan _ true, lost, dk, rd⟩ :: cs => .next ⟨fn, nt, tm, todo, dfs, .ret, lost, dk, rd⟩ cs S
          | c :: cs => .next c cs S
          | [] => .bad))))
  | _ => .bad
noncomputable def sDefers (E : Env) (fn nt : Nat) (tm : Tm) (todo : List AI) (dfs : List AD) (md : AMd) (lost dk : Bool) (rd : Option Ps) (cs : List AF) (S : Hp) (last : SR) : SR :=
  match dfs with
  | [] => last
  | .mark b :: ds => (match T.get b S.hp, Nat.ble S.fl b.idx with
    | some (.dfr false), true => .next ⟨fn, nt, tm, todo, ds, md, lost, dk, rd⟩ cs (S.put b (.dfr true))
    | _, _ => .bad)
  | .call f args cap :: ds => pushA (enterA E f (lapp args cap) true) ⟨fn, nt, tm, todo, ds, md, lost, dk, rd⟩ cs S
noncomputable def sRaise (v : AV) (cs : List AF) (S : Hp) : SR :=
  match cs with
  | [] => .finP v S
  | ⟨fn, nt, tm, todo, dfs, .run, lost, dk, rd⟩ :: cs => .next ⟨fn, nt, tm, todo, dfs, .pan v false, lost, dk, rd⟩ cs S
  | _ => .bad
abbrev SM := DrawF → Env → Nat → Nat → Tm → List AI → List AD → Bool → Bool → Option Ps → List AF → Hp → SR
noncomputable def mRun : SM := fun D E fn nt tm todo dfs lost dk rd cs S => Bool.rec (sRun D todo E fn nt tm dfs dk rd cs S) .bad lost
noncomputable def mRet : SM := fun _ E fn nt tm todo dfs lost dk rd cs S => sDefers E fn nt tm todo dfs .ret lost dk rd cs S (sReturn E fn tm lost dk cs S)
noncomputable def mPan (v : AV) (r : Bool) : SM := fun _ E fn nt tm todo dfs lost dk rd cs S => sDefers E fn nt tm todo dfs (.pan v r) lost dk rd cs S (match r with | false => sRaise v cs S | true => .bad)
noncomputable def stepA (D : DrawF) (E : Env) (f : AF) (cs : List AF) (S : Hp) : SR :=
  AF.rec (motive := fun _ => DrawF → Env → List AF → Hp → SR) (fun fn nt tm todo dfs md lost dk rd D E cs S => AMd.rec (motive := fun _ => SM) mRun mRet mPan md D E fn nt tm todo dfs lost dk rd cs S) f D E cs S
noncomputable def stepA0 (D : DrawF) (E : Env) (f : AF) (cs : List AF) (S : Hp) : SR :=
  match f with
  | ⟨fn, nt, tm, todo, dfs, md, lost, dk, rd⟩ => match md with
    | .run => (match lost with | false => sRun D todo E fn nt tm dfs dk rd cs S | true => .bad)
    | .ret => sDefers E fn nt tm todo dfs .ret lost dk rd cs S (sReturn E fn tm lost dk cs S)
    | .pan v r => sDefers E fn nt tm todo dfs (.pan v r) lost dk rd cs S (match r with | false => sRaise v cs S | true => .bad)
theorem stepA_eq (D : DrawF) (E : Env) (f : AF) (cs : List AF) (S : Hp) : stepA D E f cs S = stepA0 D E f cs S := by
  obtain ⟨fn, nt, tm, todo, dfs, md, lost, dk, rd⟩ := f
  cases md with
  | run => cases lost <;> rfl
  | ret => rfl
  | pan v r => rfl
/-- a run: to the end of the frames that lie there -/
noncomputable def runA (D : DrawF) (E : Env) (n : Nat) : AF → List AF → Hp → SR :=
  Nat.rec (motive := fun _ => AF → List AF → Hp → SR) (fun f cs S => .next f cs S) (fun _ ih f cs S => SR.rec ih .fin .finP .bad (stepA D E f cs S)) n
end Go.AM
