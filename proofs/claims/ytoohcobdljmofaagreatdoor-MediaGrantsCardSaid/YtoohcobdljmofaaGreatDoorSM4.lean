/-
  A machine over abstract values, sound for the model's machine: part 4 (A18, A19, A20, A21, A22, A23, A24, A25, A26, A27, A28, A29). Conditions: none of the program's; it is shown for every program.
-/
import Derived.Test.YtoohcobdljmofaaGreatDoorSM3
import Derived.Orders
/-! A18: The steps of the model's machine, for any frame. -/
namespace Go.AM

section
variable {P : Program} {fr : Frame} {cs : List Frame} {w w' : World} {k : List Item}

theorem s_op {ops : Array Oper} {i : Nat} {rest : List Nat} {o : Oper} (hm : fr.mode = .run) (ht : fr.todo = .inRegion ops (i :: rest) :: k) (ho : ops[i]? = some o) (hw : Region.wanted o (yielded ops fr.tmps) = true)
    (hd : fr.roundOf = none ∨ ∀ c, o.op ≠ .defer c) :
    stepG P true { frame := fr, callers := cs, status := .running, dying := none } w = stepG.apply P true fr cs none (execOp fr.eval o) w := by
  obtain ⟨fn, tmps, todo, defers, mode, kind, roundOf⟩ := fr
  simp only at hm ht hw hd
  subst hm ht
  simp only [stepG, stepG.exec, ho, Option.map_some, Option.getD_some, hw, if_true, stepG.oper, Frame.oper?]
  rcases hd with rfl | hd
  · rfl
  · cases roundOf with
    | none => rfl
    | some l =>
      obtain ⟨dst, op, type, pos, after, guard⟩ := o
      cases op <;> first | rfl | exact absurd rfl (hd _)

theorem step_val {ops : Array Oper} {i : Nat} {rest : List Nat} {o : Oper} {v : Value} (hm : fr.mode = .run) (ht : fr.todo = .inRegion ops (i :: rest) :: k) (ho : ops[i]? = some o) (hw : Region.wanted o (yielded ops fr.tmps) = true)
    (hd : fr.roundOf = none ∨ ∀ c, o.op ≠ .defer c) (hr : (execOp fr.eval o).run P w = .ok (.value v) w' ∨ ((execOp fr.eval o).run P w = .ok .skip w' ∧ v = undef)) :
    step P (lone fr cs w) = .next (lone (fr.finish v) cs w') := by
  refine step_lone_go ?_
  rw [s_op hm ht ho hw hd]
  rcases hr with hr | ⟨hr, rfl⟩
  · simp [stepG.apply, Sem.runT_eq, hr]
  · simp [stepG.apply, Sem.runT_eq, hr]
theorem step_unwanted {ops : Array Oper} {i : Nat} {rest : List Nat} {o : Oper} (hm : fr.mode = .run) (ht : fr.todo = .inRegion ops (i :: rest) :: k) (ho : ops[i]? = some o) (hw : Region.wanted o (yielded ops fr.tmps) = false) :
    step P (lone fr cs w) = .next (lone (fr.finish undef) cs w) := by
  refine step_lone_go ?_
  obtain ⟨fn, tmps, todo, defers, mode, kind, roundOf⟩ := fr
  simp only at hm ht hw
  subst hm ht
  simp [stepG, stepG.exec, ho, hw]
theorem step_enter {ops : Array Oper} {i : Nat} {rest : List Nat} {o : Oper} {f : FuncId} {args : Array Value} (hm : fr.mode = .run) (ht : fr.todo = .inRegion ops (i :: rest) :: k) (ho : ops[i]? = some o) (hw : Region.wanted o (yielded ops fr.tmps) = true)
    (hd : fr.roundOf = none ∨ ∀ c, o.op ≠ .defer c) (hr : (execOp fr.eval o).run P w = .ok (.enter f args) w') :
    step P (lone fr cs w) = .next (lone (Frame.enter P f args .normal) (fr :: cs) w') := by
  refine step_lone_go ?_
  rw [s_op hm ht ho hw hd]
  simp [stepG.apply, Sem.runT_eq, hr, ht]
theorem step_round {ops : Array Oper} {i : Nat} {rest : List Nat} {o : Oper} {l : Nat} {f : FuncId} {tmps : Array Value} {a b : Code} (hm : fr.mode = .run) (ht : fr.todo = .inRegion ops (i :: rest) :: k) (ho : ops[i]? = some o) (hw : Region.wanted o (yielded ops fr.tmps) = true)
    (hd : fr.roundOf = none ∨ ∀ c, o.op ≠ .defer c) (hr : (execOp fr.eval o).run P w = .ok (.round l f tmps a b) w') :
    step P (lone fr cs w) = .next (lone (Frame.round l f tmps a b .normal) (fr :: cs) w') := by
  refine step_lone_go ?_
  rw [s_op hm ht ho hw hd]
  simp [stepG.apply, Sem.runT_eq, hr]
theorem step_defer {ops : Array Oper} {i : Nat} {rest : List Nat} {o : Oper} {d : Deferred} (hm : fr.mode = .run) (ht : fr.todo = .inRegion ops (i :: rest) :: k) (ho : ops[i]? = some o) (hw : Region.wanted o (yielded ops fr.tmps) = true)
    (hd : fr.roundOf = none) (hr : (execOp fr.eval o).run P w = .ok (.defer d) w') :
    step P (lone fr cs w) = .next (lone (({ fr with defers := d :: fr.defers } : Frame).finish undef) cs w') := by
  refine step_lone_go ?_
  rw [s_op hm ht ho hw (.inl hd)]
  simp [stepG.apply, Sem.runT_eq, hr]
theorem step_panic {ops : Array Oper} {i : Nat} {rest : List Nat} {o : Oper} {v : Value} (hm : fr.mode = .run) (ht : fr.todo = .inRegion ops (i :: rest) :: k) (ho : ops[i]? = some o) (hw : Region.wanted o (yielded ops fr.tmps) = true)
    (hd : fr.roundOf = none ∨ ∀ c, o.op ≠ .defer c) (hr : (execOp fr.eval o).run P w = .halt (.panic v) w') :
    step P (lone fr cs w) = .next (lone (fr.raise [{ v, recovered := false }]) cs w') := by
  refine step_lone_go ?_
  rw [s_op hm ht ho hw hd]
  simp [stepG.apply, Sem.runT_eq, hr]
theorem step_recover {ops : Array Oper} {i : Nat} {rest : List Nat} {o : Oper} (hm : fr.mode = .run) (ht : fr.todo = .inRegion ops (i :: rest) :: k) (ho : ops[i]? = some o) (hw : Region.wanted o (yielded ops fr.tmps) = true)
    (hd : fr.roundOf = none) (hr : (execOp fr.eval o).run P w = .ok .recover w') :
    step P (lone fr cs w) = .next (match tryRecover fr cs with | some (v, cs') => lone (fr.finish v) cs' w' | none => lone (fr.finish .nilIface) cs w') := by
  cases ht2 : tryRecover fr cs with
  | none =>
    refine step_lone_go ?_
    rw [s_op hm ht ho hw (.inl hd)]
    simp [stepG.apply, Sem.runT_eq, hr, hd, ht2]
  | some q =>
    obtain ⟨v, cs'⟩ := q
    refine step_lone_go ?_
    rw [s_op hm ht ho hw (.inl hd)]
    simp [stepG.apply, Sem.runT_eq, hr, hd, ht2]

/-- steps that only turn the list of what is to be done -/
theorem step_to {t t' : List Item} (hm : fr.mode = .run) (ht : fr.todo = t) (h : ∀ fn tmps defers kind roundOf, stepG.exec P true true { fn, tmps, todo := t, defers, mode := .run, kind, roundOf } cs none w =
      .go { frame := { fn, tmps, todo := t', defers, mode := .run, kind, roundOf }, callers := cs, status := .running, dying := none } w) :
    step P (lone fr cs w) = .next (lone { fr with todo := t' } cs w) := by
  obtain ⟨fn, tmps, todo, defers, mode, kind, roundOf⟩ := fr
  simp only at hm ht
  subst hm ht
  refine step_lone_go ?_
  simp [stepG, h]
theorem st_skip (hm : fr.mode = .run) (ht : fr.todo = .code .skip :: k) : step P (lone fr cs w) = .next (lone { fr with todo := k } cs w) := step_to hm ht (fun _ _ _ _ _ => by simp [stepG.exec])
theorem st_label {l : Nat} (hm : fr.mode = .run) (ht : fr.todo = .code (.label l) :: k) : step P (lone fr cs w) = .next (lone { fr with todo := k } cs w) := step_to hm ht (fun _ _ _ _ _ => by simp [stepG.exec])
theorem st_inBlock {l : Nat} (hm : fr.mode = .run) (ht : fr.todo = .inBlock l :: k) : step P (lone fr cs w) = .next (lone { fr with todo := k } cs w) := step_to hm ht (fun _ _ _ _ _ => by simp [stepG.exec])
theorem st_inScope {c : Code} (hm : fr.mode = .run) (ht : fr.todo = .inScope c :: k) : step P (lone fr cs w) = .next (lone { fr with todo := k } cs w) := step_to hm ht (fun _ _ _ _ _ => by simp [stepG.exec])
theorem st_seq {a b : Code} (hm : fr.mode = .run) (ht : fr.todo = .code (.seq a b) :: k) : step P (lone fr cs w) = .next (lone { fr with todo := .code a :: .code b :: k } cs w) := step_to hm ht (fun _ _ _ _ _ => by simp [stepG.exec])
theorem st_block {id : Nat} {b : Code} (hm : fr.mode = .run) (ht : fr.todo = .code (.block id b) :: k) : step P (lone fr cs w) = .next (lone { fr with todo := .code b :: .inBlock id :: k } cs w) := step_to hm ht (fun _ _ _ _ _ => by simp [stepG.exec])
theorem st_loop {b : Code} (hm : fr.mode = .run) (ht : fr.todo = .code (.loop b) :: k) : step P (lone fr cs w) = .next (lone { fr with todo := .code b :: .inLoop b :: k } cs w) := step_to hm ht (fun _ _ _ _ _ => by simp [stepG.exec])
theorem st_inLoop {b : Code} (hm : fr.mode = .run) (ht : fr.todo = .inLoop b :: k) : step P (lone fr cs w) = .next (lone { fr with todo := .code b :: .inLoop b :: k } cs w) := step_to hm ht (fun _ _ _ _ _ => by simp [stepG.exec])
theorem st_scope {b : Code} (hm : fr.mode = .run) (ht : fr.todo = .code (.scope b) :: k) : step P (lone fr cs w) = .next (lone { fr with todo := .code b :: .inScope b :: k } cs w) := step_to hm ht (fun _ _ _ _ _ => by simp [stepG.exec])
theorem st_exit {id : Nat} {k' : List Item} (hm : fr.mode = .run) (ht : fr.todo = .code (.exit id) :: k) (h : exitTo id k = some k') : step P (lone fr cs w) = .next (lone { fr with todo := k' } cs w) := step_to hm ht (fun _ _ _ _ _ => by simp [stepG.exec, h])
theorem st_goto {id : Nat} {k' : List Item} (hm : fr.mode = .run) (ht : fr.todo = .code (.goto id) :: k) (h : gotoIn id k = some k') : step P (lone fr cs w) = .next (lone { fr with todo := k' } cs w) := step_to hm ht (fun _ _ _ _ _ => by simp [stepG.exec, h])
theorem st_region {id : Nat} {ops : Array Oper} (hm : fr.mode = .run) (ht : fr.todo = .code (.region id ops false) :: k) : step P (lone fr cs w) = .next (lone { fr with todo := .inRegion ops (List.range ops.size) :: k } cs w) := step_to hm ht (fun _ _ _ _ _ => by simp [stepG.exec])
theorem st_regionEnd {ops : Array Oper} (hm : fr.mode = .run) (ht : fr.todo = .inRegion ops [] :: k) : step P (lone fr cs w) = .next (lone { fr with todo := k } cs w) := step_to hm ht (fun _ _ _ _ _ => by simp [stepG.exec])
theorem st_cond {c : Operand} {a b : Code} {t : Bool} (hm : fr.mode = .run) (ht : fr.todo = .code (.cond c a b) :: k) (hc : fr.eval c = .bool t) : step P (lone fr cs w) = .next (lone { fr with todo := .code (if t then a else b) :: k } cs w) := by
  obtain ⟨fn, tmps, todo, defers, mode, kind, roundOf⟩ := fr
  simp only at hm ht
  subst hm ht
  refine step_lone_go ?_
  simp [stepG, stepG.exec, hc]
theorem st_draw {id : Nat} {ops : Array Oper} (hm : fr.mode = .run) (ht : fr.todo = .code (.region id ops true) :: k) :
    step P (lone fr cs w) = .next (lone { fr with todo := .inRegion ops (Region.schedule (P.follows .mixedOrders) ops (w.tape w.drawn (.order fr.fn id))) :: k } cs { w with drawn := w.drawn + 1 }) := by
  obtain ⟨fn, tmps, todo, defers, mode, kind, roundOf⟩ := fr
  simp only at hm ht
  subst hm ht
  refine step_lone_go ?_
  simp [stepG, stepG.exec, choose, Sem.run, Question.forced, Question.cut]

/-- a function's end -/
theorem st_ret (hm : fr.mode = .run) (ht : fr.todo = [] ∨ fr.todo = .code .ret :: k) (hr : fr.roundOf = none) : step P (lone fr cs w) = .next (lone { fr with mode := .returning } cs w) := by
  obtain ⟨fn, tmps, todo, defers, mode, kind, roundOf⟩ := fr
  simp only at hm ht hr
  subst hm hr
  refine step_lone_go ?_
  rcases ht with rfl | rfl <;> simp [stepG, stepG.exec]
/-- a mark among the deferred calls -/
theorem st_take {b : Nat} {ds : List Deferred} (hm : fr.mode = .returning ∨ ∃ c, fr.mode = .panicking c) (hd : fr.defers = { target := .collected b, args := #[] } :: ds) (hb : w.heap[b]? = some (.deferred (some []))) :
    step P (lone fr cs w) = .next (lone { fr with defers := ds } cs { w with heap := w.heap.setIfInBounds b (.deferred none) }) := by
  obtain ⟨fn, tmps, todo, defers, mode, kind, roundOf⟩ := fr
  simp only at hm hd
  subst hd
  refine step_lone_go ?_
  have h1 : (Instr.takeDeferred b).run P w = .ok [] { w with heap := w.heap.setIfInBounds b (.deferred none) } := by
    simp only [Instr.takeDeferred, Sem.run_bind, run_getObj hb (fun _ _ _ e => by cases e), Result.andThen_ok]
    simp only [Go.setObj, Sem.run, hb, Result.andThen_ok, Sem.run_pure]
  rcases hm with rfl | ⟨c, rfl⟩
  · simp [stepG, unwind, Sem.runT_eq, h1]
  · simp [stepG, unwind, Sem.runT_eq, h1]
/-- a deferred call -/
theorem st_deferred {f : FuncId} {cap args : Array Value} {ds : List Deferred} (hm : fr.mode = .returning ∨ ∃ c, fr.mode = .panicking c) (hd : fr.defers = { target := .fn (.func f) cap, args := args } :: ds)
    (hr : ∀ w, (callFunc f (args ++ cap)).run P w = .ok (.enter f (args ++ cap)) w) :
    step P (lone fr cs w) = .next (lone (Frame.enter P f (args ++ cap) .deferred) ({ fr with defers := ds } :: cs) w) := by
  obtain ⟨fn, tmps, todo, defers, mode, kind, roundOf⟩ := fr
  simp only at hm hd
  subst hd
  refine step_lone_go ?_
  rcases hm with rfl | ⟨c, rfl⟩
  · simp [stepG, unwind, callDeferred, invoke, Sem.runT_eq, hr]
  · simp [stepG, unwind, callDeferred, invoke, Sem.runT_eq, hr]
/-- the return itself -/
theorem st_return {c : Frame} {fn : Func} {v : Value} (hm : fr.mode = .returning) (hd : fr.defers = []) (hf : P.funcs[fr.fn]? = some fn) (hk : fr.kind = .normal) (hr : (results fn fr.tmps).run P w = .ok v w) :
    step P (lone fr (c :: cs) w) = .next (lone (c.finish v) cs w) := by
  refine step_lone_go ?_
  obtain ⟨fn', tmps, todo, defers, mode, kind, roundOf⟩ := fr
  simp only at hm hd hf hk hr
  subst hm hd hk
  simp [stepG, unwind, doReturn, hf, Sem.runT_eq, hr]
/-- the return of a deferred call -/
theorem st_returnD {c : Frame} {fn : Func} {v : Value} (hm : fr.mode = .returning) (hd : fr.defers = []) (hf : P.funcs[fr.fn]? = some fn) (hk : fr.kind = .deferred) (hr : (results fn fr.tmps).run P w = .ok v w) :
    step P (lone fr (c :: cs) w) = .next (lone (match c.mode with
        | .panicking ({ recovered := true, .. } :: older) => (match older.dropWhile (!·.goexit) with
          | [] => { c with mode := .returning }
          | rest => { c with mode := .panicking rest })
        | _ => c) cs w) := by
  refine step_lone_go ?_
  obtain ⟨fn', tmps, todo, defers, mode, kind, roundOf⟩ := fr
  simp only at hm hd hf hk hr
  subst hm hd hk
  simp [stepG, unwind, doReturn, hf, Sem.runT_eq, hr]
  rfl
/-- a panic goes on to the caller -/
theorem st_raise {c : Frame} {ch : List PanicEntry} {fn : Func} (hm : fr.mode = .panicking ch) (hd : fr.defers = []) (hf : P.funcs[fr.fn]? = some fn) : step P (lone fr (c :: cs) w) = .next (lone (c.raise ch) cs w) := by
  refine step_lone_go ?_
  obtain ⟨fn', tmps, todo, defers, mode, kind, roundOf⟩ := fr
  simp only at hm hd hf
  subst hm hd
  simp [stepG, unwind, Frame.catches, hf]

/-! loops over functions -/
theorem st_rangeFunc {f : Operand} {ps : Array Tmp} {a b : Code} {l : Nat} {mark : List Deferred} {w1 : World} {g : FuncId} {args : Array Value} (hm : fr.mode = .run) (ht : fr.todo = .code (.rangeFunc f ps a b) :: k)
    (he : (Instr.enterLoop fr.fn fr.tmps ps a b fr.roundOf).run P w = .ok (l, mark) w1)
    (hr : (do let d ← Deferred.ofValue (fr.eval f) #[.func (.yield l) #[] #[]]; invoke d.target d.args : Sem Next).run P w1 = .ok (.enter g args) w') :
    step P (lone fr cs w) = .next (lone (Frame.enter P g args .normal) ({ fr with todo := .inRangeFunc l :: k, defers := mark ++ fr.defers } :: cs) w') := by
  refine step_lone_go ?_
  obtain ⟨fn, tmps, todo, defers, mode, kind, roundOf⟩ := fr
  simp only at hm ht he hr
  subst hm ht
  have h2 : ∀ (x : Operand), Frame.eval { fn, tmps, todo := .inRangeFunc l :: k, defers := mark ++ defers, mode := .run, kind, roundOf } x = Frame.eval { fn, tmps, todo := .code (.rangeFunc f ps a b) :: k, defers, mode := .run, kind, roundOf } x := by
    intro x; cases x <;> rfl
  have h3 : (do let d ← resolve (Frame.eval { fn, tmps, todo := .inRangeFunc l :: k, defers := mark ++ defers, mode := .run, kind, roundOf }) { callee := .value f, args := #[.const (.func (.yield l) #[] #[])], argTypes := #[] } 0; invoke d.target d.args : Sem Next).run P w1 = .ok (.enter g args) w' := by
    rw [← hr]
    simp only [resolve, h2, List.map_toArray, List.map_cons, List.map_nil]
    rfl
  simp [stepG, stepG.exec, Sem.runT_eq, he, stepG.apply, h3]
theorem st_begin {l : Nat} {r : Loop} (hm : fr.mode = .run) (ht : fr.todo = .beginRound :: k) (hl : fr.roundOf = some l) (hb : w.heap[l]? = some (.loop r)) (hs : r.state = .ready) :
    step P (lone fr cs w) = .next (lone { fr with todo := k } cs { w with heap := w.heap.setIfInBounds l (.loop { r with state := .busy }) }) := by
  refine step_lone_go ?_
  obtain ⟨fn, tmps, todo, defers, mode, kind, roundOf⟩ := fr
  simp only at hm ht hl
  subst hm ht hl
  have h1 : (Instr.beginRound l).run P w = .ok () { w with heap := w.heap.setIfInBounds l (.loop { r with state := .busy }) } := by
    simp only [Instr.beginRound, Instr.getLoop, Sem.run_bind, run_getObj hb (fun _ _ _ e => by cases e), Result.andThen_ok, Sem.run_pure]
    simp only [Go.setObj, Sem.run, hb, Result.andThen_ok, hs, Sem.run_pure]
  simp [stepG, stepG.exec, stepG.apply, Sem.runT_eq, h1, Frame.finish]
theorem run_endRound {l : Nat} {r : Loop} {jump : Option Code} (hb : w.heap[l]? = some (.loop r)) :
    (Instr.endRound l jump).run P w = .ok (.bool jump.isNone) { w with heap := w.heap.setIfInBounds l (.loop { r with state := if jump.isNone then .ready else .done, pending := jump }) } := by
  simp only [Instr.endRound, Instr.getLoop, Sem.run_bind, run_getObj hb (fun _ _ _ e => by cases e), Result.andThen_ok, Sem.run_pure]
  simp only [Go.setObj, Sem.run, hb, Result.andThen_ok]
theorem st_endRound {c : Frame} {l : Nat} {r : Loop} {jump : Option Code} (hm : fr.mode = .run) (ht : (fr.todo = [] ∧ jump = none) ∨ (fr.todo = .code .ret :: k ∧ jump = some .ret) ∨ (∃ id, fr.todo = .code (.exit id) :: k ∧ exitTo id k = none ∧ jump = some (.exit id)))
    (hl : fr.roundOf = some l) (hk : fr.kind = .normal) (hb : w.heap[l]? = some (.loop r)) :
    step P (lone fr (c :: cs) w) = .next (lone (c.finish (.bool jump.isNone)) cs { w with heap := w.heap.setIfInBounds l (.loop { r with state := if jump.isNone then .ready else .done, pending := jump }) }) := by
  refine step_lone_go ?_
  have h1 := run_endRound (P := P) (jump := jump) hb
  obtain ⟨fn, tmps, todo, defers, mode, kind, roundOf⟩ := fr
  simp only at hm ht hl hk
  subst hm hl hk
  rcases ht with ⟨rfl, rfl⟩ | ⟨rfl, rfl⟩ | ⟨id, rfl, h2, rfl⟩
  · simp [stepG, stepG.exec, Sem.runT_eq, h1, doReturn]
  · simp [stepG, stepG.exec, Sem.runT_eq, h1, doReturn]
  · simp [stepG, stepG.exec, Sem.runT_eq, h1, doReturn, h2]
theorem st_endLoop {l : Nat} {r : Loop} (hm : fr.mode = .run) (ht : fr.todo = .endRangeFunc l :: k) (hb : w.heap[l]? = some (.loop r)) (hs : r.state ≠ .busy) :
    step P (lone fr cs w) = .next (lone { fr with todo := (r.pending.map Item.code).toList ++ k } cs { w with heap := w.heap.setIfInBounds l (.loop { r with state := .exhausted }) }) := by
  refine step_lone_go ?_
  obtain ⟨fn, tmps, todo, defers, mode, kind, roundOf⟩ := fr
  simp only at hm ht
  subst hm ht
  have h1 : (Instr.endLoop l).run P w = .ok r.pending { w with heap := w.heap.setIfInBounds l (.loop { r with state := .exhausted }) } := by
    have h2 : (r.state == LoopState.busy) = false := by
      cases h : r.state <;> first | rfl | exact absurd h hs
    simp only [Instr.endLoop, Instr.getLoop, Sem.run_bind, run_getObj hb (fun _ _ _ e => by cases e), Result.andThen_ok, Sem.run_pure, h2, Bool.false_eq_true, if_false]
    simp only [Go.setObj, Sem.run, hb, Result.andThen_ok]
  simp [stepG, stepG.exec, Sem.runT_eq, h1]
end
end Go.AM

/-! A19: The abstract machine: frames and steps. -/
namespace Go.AM

/-- what is to be done -/
inductive AI where
  | code (c : Code)
  | blk (id : Nat)
  | lop (c : Code)
  | scp (c : Code)
  | reg (ops : Array Oper) (i : Nat) (rest : List Oper)
  | inRF (l : Ps)
  | endRF (l : Ps)
  | beg
inductive AMd where
  | run
  | ret
  | pan (v : AV) (rec : Bool)
/-- a frame. lost: nothing is known of the temporaries; dk: a deferred call -/
structure AF where
  fn : Nat
  nt : Nat
  tm : Tm
  todo : List AI
  dfs : List AD
  md : AMd
  lost : Bool
  dk : Bool
  rd : Option Ps
inductive SR where
  | next (f : AF) (cs : List AF) (S : Hp)
  | fin (v : AV) (S : Hp)
  | finP (v : AV) (S : Hp)
  | bad

noncomputable def exitA (id : Nat) (l : List AI) : Option (List AI) :=
  List.rec none (fun x k ih => match x with | .blk j => Bool.rec ih (some k) (Nat.beq j id) | _ => ih) l
noncomputable def putD (nt : Nat) (d : Option Nat) (v : AV) (tm : Tm) : Option (Tm) :=
  Option.rec (some tm) (fun d => Bool.rec none (some (tset d v tm)) (Nat.blt d nt)) d
abbrev FF := Nat → Nat → Tm → List AD → AMd → Bool → Bool → Option Ps → AV → Option AF
noncomputable def fNo : FF := fun _ _ _ _ _ _ _ _ _ => none
noncomputable def fNoK : List AI → FF := fun _ => fNo
noncomputable def fReg (ops : Array Oper) (i : Nat) (rest : List Oper) : List AI → FF := fun k fn nt tm dfs md lost dk rd v =>
  List.rec none (fun o rest' _ => Option.rec none (fun tm' => some ⟨fn, nt, tm', .reg ops (Nat.succ i) rest' :: k, dfs, md, lost, dk, rd⟩) (putD nt o.dst v tm)) rest
noncomputable def fInRF (l : Ps) : List AI → FF := fun k fn nt tm dfs md lost dk rd _ => some ⟨fn, nt, tm, .endRF l :: k, dfs, md, lost, dk, rd⟩
noncomputable def finishA (f : AF) (v : AV) : Option AF :=
  AF.rec (motive := fun _ => AV → Option AF) (fun fn nt tm todo dfs md lost dk rd v =>
    List.rec (motive := fun _ => FF) fNo (fun x k _ => AI.rec (motive := fun _ => List AI → FF) (fun _ => fNoK) (fun _ => fNoK) (fun _ => fNoK) (fun _ => fNoK) fReg fInRF (fun _ => fNoK) fNoK x k) todo fn nt tm dfs md lost dk rd v) f v
noncomputable def finishA0 (f : AF) (v : AV) : Option AF :=
  match f with
  | ⟨fn, nt, tm, todo, dfs, md, lost, dk, rd⟩ => match todo with
    | .reg ops i (o :: rest) :: k => (match putD nt o.dst v tm with | some tm' => some ⟨fn, nt, tm', .reg ops (Nat.succ i) rest :: k, dfs, md, lost, dk, rd⟩ | none => none)
    | .inRF l :: k => some ⟨fn, nt, tm, .endRF l :: k, dfs, md, lost, dk, rd⟩
    | _ => none
theorem finishA_eq (f : AF) (v : AV) : finishA f v = finishA0 f v := by
  obtain ⟨fn, nt, tm, todo, dfs, md, lost, dk, rd⟩ := f
  unfold finishA0
  cases todo with
  | nil => rfl
  | cons x k =>
    cases x with
    | reg ops i rest =>
      cases rest with
      | nil => rfl
      | cons o rest =>
        show (Option.rec none (fun tm' => some ⟨fn, nt, tm', .reg ops (Nat.succ i) rest :: k, dfs, md, lost, dk, rd⟩) (putD nt o.dst v tm) : Option AF) = _
        simp only
        cases putD nt o.dst v tm <;> rfl
    | _ => rfl
noncomputable def isRun (m : AMd) : Bool := match m with | .run => true | _ => false
/-- a value goes back to the caller -/
noncomputable def backA (v : AV) (cs : List AF) (S : Hp) : SR :=
  List.rec (.fin v S) (fun c cs _ => Bool.rec .bad (Bool.rec (Option.rec .bad (fun c' => .next c' cs S) (finishA c v)) .bad c.lost) (isRun c.md)) cs
noncomputable def backA0 (v : AV) (cs : List AF) (S : Hp) : SR :=
  match cs with
  | [] => .fin v S
  | c :: cs => (match isRun c.md, c.lost, finishA c v with | true, false, some c' => .next c' cs S | _, _, _ => .bad)
theorem backA_eq (v : AV) (cs : List AF) (S : Hp) : backA v cs S = backA0 v cs S := by
  cases cs with
  | nil => rfl
  | cons c cs =>
    unfold backA backA0
    simp only
    cases isRun c.md <;> cases c.lost <;> cases finishA c v <;> rfl

/-- is the operation wanted? -/
noncomputable def wantG (nt : Nat) (ops : Array Oper) (tm : Tm) (g : Nat × Bool) : Option Bool :=
  Prod.rec (fun j want => Option.rec none (fun oj => Option.rec none (fun d => Bool.rec none (Option.rec (some false) (fun b => some (b == want)) (boolOf (tget tm d))) (Nat.blt d nt)) oj.dst) (nth ops.toList j)) g
noncomputable def wantA (nt : Nat) (ops : Array Oper) (tm : Tm) (o : Oper) : Option Bool := Option.rec (some true) (fun g => wantG nt ops tm g) o.guard
noncomputable def wantA0 (nt : Nat) (ops : Array Oper) (tm : Tm) (o : Oper) : Option Bool :=
  match o.guard with
  | none => some true
  | some (j, want) => (match nth ops.toList j with
    | some oj => (match oj.dst with
      | some d => Bool.rec none (match tget tm d with | .bool b => some (b == want) | _ => some false) (Nat.blt d nt)
      | none => none)
    | none => none)
theorem wantA_eq (nt : Nat) (ops : Array Oper) (tm : Tm) (o : Oper) : wantA nt ops tm o = wantA0 nt ops tm o := by
  unfold wantA wantA0
  cases o.guard with
  | none => rfl
  | some g =>
    obtain ⟨j, want⟩ := g
    show wantG nt ops tm (j, want) = _
    unfold wantG
    simp only
    cases nth ops.toList j with
    | none => rfl
    | some oj =>
      simp only
      cases oj.dst with
      | none => rfl
      | some d =>
        simp only
        cases Nat.blt d nt with
        | false => rfl
        | true => simp only; cases tget tm d <;> rfl
inductive RS where
  | done (tm : Tm) (S : Hp)
  | stop (tm : Tm) (S : Hp) (i : Nat) (rest : List Oper) (r : RO)
  | bad
noncomputable def roV (r : RO) : Option (AV × Hp) := RO.rec (fun x S => some (x, S)) (fun _ _ => none) (fun _ _ => none) (fun _ => none) (fun _ => none) none r
noncomputable def goOn (nt : Nat) (d : Option Nat) (i : Nat) (tm : Tm) (go : Nat → Tm → Hp → RS) (x : AV) (S : Hp) : RS := Option.rec .bad (fun tm' => go (Nat.succ i) tm' S) (putD nt d x tm)
noncomputable def opRes (nt : Nat) (o : Oper) (rest : List Oper) (i : Nat) (tm : Tm) (S : Hp) (go : Nat → Tm → Hp → RS) (r : RO) : RS :=
  Option.rec (.stop tm S i (o :: rest) r) (fun p => Prod.rec (fun x S' => goOn nt o.dst i tm go x S') p) (roV r)
noncomputable def runOp (E : Env) (nt : Nat) (ops : Array Oper) (o : Oper) (rest : List Oper) (i : Nat) (tm : Tm) (S : Hp) (go : Nat → Tm → Hp → RS) : RS :=
  Option.rec .bad (fun w => Bool.rec (goOn nt o.dst i tm go (.tup []) S) (Option.rec .bad (fun r => opRes nt o rest i tm S go r) (evOp o.op E tm S o.type)) w) (wantA nt ops tm o)
noncomputable def runOp0 (E : Env) (nt : Nat) (ops : Array Oper) (o : Oper) (rest : List Oper) (i : Nat) (tm : Tm) (S : Hp) (go : Nat → Tm → Hp → RS) : RS :=
  match wantA nt ops tm o with
  | none => .bad
  | some false => (match putD nt o.dst (.tup []) tm with | some tm' => go (Nat.succ i) tm' S | none => .bad)
  | some true => (match evOp o.op E tm S o.type with
    | none => .bad
    | some (.v x S') => (match putD nt o.dst x tm with | some tm' => go (Nat.succ i) tm' S' | none => .bad)
    | some r => .stop tm S i (o :: rest) r)
theorem goOn_eq (nt : Nat) (d : Option Nat) (i : Nat) (tm : Tm) (go : Nat → Tm → Hp → RS) (x : AV) (S : Hp) : goOn nt d i tm go x S = (match putD nt d x tm with | some tm' => go (Nat.succ i) tm' S | none => .bad) := by
  unfold goOn; cases putD nt d x tm <;> rfl
theorem runOp_eq (E : Env) (nt : Nat) (ops : Array Oper) (o : Oper) (rest : List Oper) (i : Nat) (tm : Tm) (S : Hp) (go : Nat → Tm → Hp → RS) : runOp E nt ops o rest i tm S go = runOp0 E nt ops o rest i tm S go := by
  unfold runOp runOp0
  cases wantA nt ops tm o with
  | none => rfl
  | some b =>
    cases b with
    | false => exact goOn_eq ..
    | true =>
      simp only
      cases evOp o.op E tm S o.type with
      | none => rfl
      | some r =>
        cases r with
        | v x S' => exact goOn_eq ..
        | _ => rfl
noncomputable def runOps (E : Env) (nt : Nat) (ops : Array Oper) (l : List Oper) : Nat → Tm → Hp → RS :=
  List.rec (motive := fun _ => Nat → Tm → Hp → RS) (fun _ tm S => .done tm S) (fun o rest ih i tm S => runOp E nt ops o rest i tm S ih) l

/-- the arguments' tree -/
noncomputable def argT (l : List AV) : Nat → Tm → Tm :=
  List.rec (motive := fun _ => Nat → Tm → Tm) (fun _ t => t) (fun v _ ih i t => ih (Nat.succ i) (tset i v t)) l
noncomputable def enterA (E : Env) (f : Nat) (args : List AV) (dk : Bool) : Option AF :=
  match T.get (Ps.of f) E.funcs with
  | some (some i) => Bool.rec none (some ⟨f, i.nt, argT args 0 te, [.code i.code], [], .run, false, dk, none⟩) (Nat.ble (llen args) i.nt)
  | _ => none
noncomputable def parT (nt : Nat) (ps : List Nat) : List AV → Tm → Option (Tm) :=
  List.rec (motive := fun _ => List AV → Tm → Option (Tm)) (fun l t => match l with | [] => some t | _ => none)
    (fun p _ ih l t => match l with | v :: l => Bool.rec none (ih l (tset p v t)) (Nat.blt p nt) | [] => none) ps
noncomputable def roundA (E : Env) (S : Hp) (l : Ps) (args : List AV) : Option AF :=
  match T.get l S.hp with
  | some (.loop _ _ fn nt tm ps a b _) => (match parT nt ps args tm, T.get (Ps.of fn) E.funcs with | some tm', some (some _) => some ⟨fn, nt, tm', [.code a, .beg, .code b], [], .run, false, false, some l⟩ | _, _ => none)
  | _ => none
/-- a new frame over the old one -/
noncomputable def pushA (f : Option AF) (c : AF) (cs : List AF) (S : Hp) : SR := Option.rec .bad (fun f => .next f (c :: cs) S) f
/-- recover -/
noncomputable def recA (dk : Bool) (cs : List AF) : Option (AV × List AF) :=
  match dk with
  | false => some (.nili, cs)
  | true => (match cs with
    | [] => none
    | ⟨fn, nt, tm, todo, dfs, md, lost, dk, rd⟩ :: cs => (match md with
      | .pan v false => some (v, ⟨fn, nt, tm, todo, dfs, .pan v true, lost, dk, rd⟩ :: cs)
      | _ => some (.nili, ⟨fn, nt, tm, todo, dfs, md, lost, dk, rd⟩ :: cs)))
noncomputable def nextO (f : Option AF) (cs : List AF) (S : Hp) : SR := Option.rec .bad (fun f => .next f cs S) f

abbrev SF := Env → Nat → Nat → Tm → List AI → List AD → Bool → Option Ps → List AF → Hp → SR
abbrev SG := Array Oper → Env → Nat → Nat → Tm → Hp → Nat → List Oper → List AI → List AD → Bool → Option Ps → List AF → SR
noncomputable def gCall (f : Nat) (args : List AV) : SG := fun ops E fn nt tm S i rest k dfs dk rd cs => pushA (enterA E f args false) ⟨fn, nt, tm, .reg ops i rest :: k, dfs, .run, false, dk, rd⟩ cs S
noncomputable def gYld (l : Ps) (args : List AV) : SG := fun ops E fn nt tm S i rest k dfs dk rd cs => pushA (roundA E S l args) ⟨fn, nt, tm, .reg ops i rest :: k, dfs, .run, false, dk, rd⟩ cs S
noncomputable def gDfr (d : AD) : SG := fun ops _ fn nt tm S i rest k dfs dk rd cs => Option.rec (nextO (finishA ⟨fn, nt, tm, .reg ops i rest :: k, d :: dfs, .run, false, dk, rd⟩ (.tup [])) cs S) (fun _ => .bad) rd
noncomputable def gPan (v : AV) : SG := fun _ _ fn nt tm S _ _ _ dfs dk rd cs => .next ⟨fn, nt, tm, [], dfs, .pan v false, false, dk, rd⟩ cs S
noncomputable def gRcv : SG := fun ops _ fn nt tm S i rest k dfs dk rd cs =>
  (match rd, recA dk cs with | none, some (v, cs') => nextO (finishA ⟨fn, nt, tm, .reg ops i rest :: k, dfs, .run, false, dk, rd⟩ v) cs' S | _, _ => .bad)
noncomputable def gV (_ : AV) (_ : Hp) : SG := fun _ _ _ _ _ _ _ _ _ _ _ _ _ => .bad
noncomputable def afterOps (ops : Array Oper) (r : RS) : SF := fun E fn nt _ k dfs dk rd cs _ =>
  RS.rec (fun tm S => .next ⟨fn, nt, tm, k, dfs, .run, false, dk, rd⟩ cs S)
    (fun tm S i rest ro => RO.rec (motive := fun _ => SG) gV gCall gYld gDfr gPan gRcv ro ops E fn nt tm S i rest k dfs dk rd cs) .bad r
noncomputable def afterOps0 (ops : Array Oper) (r : RS) : SF := fun E fn nt _ k dfs dk rd cs _ =>
  match r with
  | .done tm S => .next ⟨fn, nt, tm, k, dfs, .run, false, dk, rd⟩ cs S
  | .bad => .bad
  | .stop tm S i rest ro => (match ro with
    | .call f args => pushA (enterA E f args false) ⟨fn, nt, tm, .reg ops i rest :: k, dfs, .run, false, dk, rd⟩ cs S
    | .yld l args => pushA (roundA E S l args) ⟨fn, nt, tm, .reg ops i rest :: k, dfs, .run, false, dk, rd⟩ cs S
    | .dfr d => (match rd with | none => nextO (finishA ⟨fn, nt, tm, .reg ops i rest :: k, d :: dfs, .run, false, dk, rd⟩ (.tup [])) cs S | some _ => .bad)
    | .pan v => .next ⟨fn, nt, tm, [], dfs, .pan v false, false, dk, rd⟩ cs S
    | .rcv => (match rd, recA dk cs with | none, some (v, cs') => nextO (finishA ⟨fn, nt, tm, .reg ops i rest :: k, dfs, .run, false, dk, rd⟩ v) cs' S | _, _ => .bad)
    | .v _ _ => .bad)
theorem afterOps_eq (ops : Array Oper) (r : RS) : afterOps ops r = afterOps0 ops r := by
  funext E fn nt tm0 k dfs dk rd cs S0
  cases r with
  | done tm S => rfl
  | bad => rfl
  | stop tm S i rest ro =>
    cases ro with
    | dfr d => cases rd <;> rfl
    | _ => rfl
noncomputable def sReg (ops : Array Oper) (i : Nat) (rest : List Oper) : SF := fun E fn nt tm k dfs dk rd cs S => afterOps ops (runOps E nt ops rest i tm S) E fn nt tm k dfs dk rd cs S
noncomputable def sTo (t : List AI) : SF := fun _ fn nt tm _ dfs dk rd cs S => .next ⟨fn, nt, tm, t, dfs, .run, false, dk, rd⟩ cs S
noncomputable def loopJump (j : Option Code) : LoopState := match j with | none => .ready | some _ => .done
/-- a round or a function ends -/
noncomputable def sLeave (j : Option Code) : SF := fun _ fn nt tm _ dfs dk rd cs S =>
  match rd with
  | none => (match j with
    | none => .next ⟨fn, nt, tm, [], dfs, .ret, false, dk, none⟩ cs S
    | some .ret => .next ⟨fn, nt, tm, [], dfs, .ret, false, dk, none⟩ cs S
    | _ => .bad)
  | some l => (match T.get l S.hp, Nat.ble S.fl l.idx, dk, dfs with
    | some (.loop _ _ lf ln lt ps a b d), true, false, [] => backA (.bool j.isNone) cs (S.put l (.loop (loopJump j) j lf ln lt ps a b d))
    | _, _, _, _ => .bad)
noncomputable def sRet : SF := sLeave (some .ret)
noncomputable def sSkip : SF := fun _ fn nt tm k dfs dk rd cs S => .next ⟨fn, nt, tm, k, dfs, .run, false, dk, rd⟩ cs S
noncomputable def sSeq (a b : Code) : SF := fun _ fn nt tm k dfs dk rd cs S => .next ⟨fn, nt, tm, .code a :: .code b :: k, dfs, .run, false, dk, rd⟩ cs S
noncomputable def sCond (c : Operand) (a b : Code) : SF := fun E fn nt tm k dfs dk rd cs S =>
  Option.rec .bad (fun v => Option.rec .bad (fun t => .next ⟨fn, nt, tm, .code (Bool.rec b a t) :: k, dfs, .run, false, dk, rd⟩ cs S) (boolOf v)) (evX E.ng tm c)
theorem sCond_eq (c : Operand) (a b : Code) (E : Env) (fn nt : Nat) (tm : Tm) (k : List AI) (dfs : List AD) (dk : Bool) (rd : Option Ps) (cs : List AF) (S : Hp) : sCond c a b E fn nt tm k dfs dk rd cs S = (match evX E.ng tm c with
  | some (.bool t) => .next ⟨fn, nt, tm, .code (Bool.rec b a t) :: k, dfs, .run, false, dk, rd⟩ cs S
  | _ => .bad) := by
  unfold sCond
  cases evX E.ng tm c with
  | none => rfl
  | some v => cases v <;> rfl
noncomputable def sBlock (id : Nat) (b : Code) : SF := fun _ fn nt tm k dfs dk rd cs S => .next ⟨fn, nt, tm, .code b :: .blk id :: k, dfs, .run, false, dk, rd⟩ cs S
noncomputable def sLoop (b : Code) : SF := fun _ fn nt tm k dfs dk rd cs S => .next ⟨fn, nt, tm, .code b :: .lop b :: k, dfs, .run, false, dk, rd⟩ cs S
noncomputable def sScope (b : Code) : SF := fun _ fn nt tm k dfs dk rd cs S => .next ⟨fn, nt, tm, .code b :: .scp b :: k, dfs, .run, false, dk, rd⟩ cs S
noncomputable def sExit (id : Nat) : SF := fun E fn nt tm k dfs dk rd cs S => Option.rec (sLeave (some (.exit id)) E fn nt tm k dfs dk rd cs S) (fun k' => .next ⟨fn, nt, tm, k', dfs, .run, false, dk, rd⟩ cs S) (exitA id k)
noncomputable def allocLoop (S : Hp) (fn nt : Nat) (tm : Tm) (ps : List Nat) (a b : Code) (d : Ps) : Hp := S.alloc (.loop .ready none fn nt tm ps a b d)
noncomputable def sRF (f : Operand) (ps : Array Tmp) (a b : Code) : SF := fun E fn nt tm k dfs dk rd cs S =>
  match evX E.ng tm f with
  | some (.fn g first cap) => (match rd with
    | none => pushA (enterA E g (lapp (lapp first [.yl (S.alloc (.dfr false)).nx]) cap) false) ⟨fn, nt, tm, .inRF (S.alloc (.dfr false)).nx :: k, .mark S.nx :: dfs, .run, false, dk, rd⟩ cs
        (allocLoop (S.alloc (.dfr false)) fn nt tm ps.toList a b S.nx)
    | some l => (match T.get l S.hp with
      | some (.loop _ _ _ _ _ _ _ _ d) => pushA (enterA E g (lapp (lapp first [.yl S.nx]) cap) false) ⟨fn, nt, tm, .inRF S.nx :: k, dfs, .run, false, dk, rd⟩ cs (allocLoop S fn nt tm ps.toList a b d)
      | _ => .bad))
  | _ => .bad
/-- the way in which a drawn region is done comes from outside -/
abbrev DrawF := Env → Nat → Nat → Tm → Array Oper → List AD → Bool → Option Ps → Hp → Option (Sum (Tm × Hp) (AV × Hp))
noncomputable def sRegion (D : DrawF) (_ : Nat) (ops : Array Oper) (draw : Bool) : SF := fun E fn nt tm k dfs dk rd cs S =>
  match draw with
  | false => sReg ops 0 ops.toList E fn nt tm k dfs dk rd cs S
  | true => (match D E fn nt tm ops dfs dk rd S with
    | some (.inl (tm', S')) => .next ⟨fn, nt, tm', k, dfs, .run, false, dk, rd⟩ cs S'
    | some (.inr (v, S')) => .next ⟨fn, nt, tm, [], dfs, .pan v false, true, dk, rd⟩ cs S'
    | none => .bad)
noncomputable def sBad : SF := fun _ _ _ _ _ _ _ _ _ _ => .bad
noncomputable def sCode (D : DrawF) (c : Code) : SF :=
  Code.rec (motive := fun _ => SF) sSkip (sRegion D) (fun a b _ _ => sSeq a b) (fun c a b _ _ => sCond c a b) (fun id b _ => sBlock id b) (fun b _ => sLoop b) (fun f ps a b _ _ => sRF f ps a b) sExit (fun b _ => sScope b) (fun _ => sSkip) (fun _ => sBad) sRet (fun _ => sBad) c
noncomputable def sEndRF (l : Ps) : SF := fun _ fn nt tm k dfs dk rd cs S =>
  match T.get l S.hp, Nat.ble S.fl l.idx with
  | some (.loop st pend lf ln lt ps a b d), true => (match st with
    | .busy => .bad
    | _ => .next ⟨fn, nt, tm, (match pend with | none => k | some c => .code c :: k), dfs, .run, false, dk, rd⟩ cs (S.put l (.loop .exhausted pend lf ln lt ps a b d)))
  | _, _ => .bad
noncomputable def sBeg : SF := fun _ fn nt tm k dfs dk rd cs S =>
  match rd with
  | none => .bad
  | some l => (match T.get l S.hp, Nat.ble S.fl l.idx with
    | some (.loop .ready pend lf ln lt ps a b d), true => .next ⟨fn, nt, tm, k, dfs, .run, false, dk, rd⟩ cs (S.put l (.loop .busy pend lf ln lt ps a b d))
    | _, _ => .bad)
noncomputable def sItem (D : DrawF) (x : AI) : SF :=
  AI.rec (motive := fun _ => SF) (sCode D) (fun _ => sSkip) sLoop (fun _ => sSkip) sReg (fun _ => sBad) sEndRF sBeg x
noncomputable def sRun (D : DrawF) (todo : List AI) (E : Env) (fn nt : Nat) (tm : Tm) (dfs : List AD) (dk : Bool) (rd : Option Ps) (cs : List AF) (S : Hp) : SR :=
  List.rec (motive := fun _ => DrawF → SF) (fun _ E fn nt tm _ dfs dk rd cs S => sLeave none E fn nt tm [] dfs dk rd cs S) (fun x k _ D E fn nt tm _ dfs dk rd cs S => sItem D x E fn nt tm k dfs dk rd cs S) todo D E fn nt tm [] dfs dk rd cs S
/-- results -/
noncomputable def res1 (E : Env) (S : Hp) (tm : Tm) (r : ResultVar) : Option AV :=
  match r with
  | .tmp t => some (tget tm t)
  | .cell a t => (match tget tm a with | .ptr b o => loadA E S t (.ptr b o) | _ => none)
noncomputable def resL (E : Env) (S : Hp) (tm : Tm) (l : List ResultVar) : Option (List AV) :=
  List.rec (some []) (fun r _ ih => Option.rec none (fun x => Option.rec none (fun t => some (x :: t)) ih) (res1 E S tm r)) l
noncomputable def resA (E : Env) (S : Hp) (tm : Tm) (l : List ResultVar) : Option AV :=
  match resL E S tm l with
  | some [x] => some x
  | some l => some (.tup l)
  | none => none
/-- behind the last deferred call -/
noncomputable def sReturn (E : Env) (fn : Nat) (tm : Tm) (lost dk : Bool) (cs : List AF) (S : Hp) : SR :=
  match T.get (Ps.of fn) E.funcs with
  | some (some i) => (match lost with
    | true => .bad
    | false => (match resA E S tm i.res with
      | none => .bad
      | some v => (match dk with
        | false => backA v cs S
        | true => (match cs with
          | ⟨fn, nt, tm, todo, dfs, .pan _ true, lost, dk, rd⟩ :: cs => .next ⟨fn, nt, tm, todo, dfs, .ret, lost, dk, rd⟩ cs S
          | c :: cs => .next c cs S
          | [] => .bad))))
  | _ => .bad
noncomputable def sDefers (E : Env) (fn nt : Nat) (tm : Tm) (todo : List AI) (dfs : List AD) (md : AMd) (lost dk : Bool) (rd : Option Ps) (cs : List AF) (S : Hp) (last : SR) : SR :=
  match dfs with
  | [] => last
  | .mark b :: ds => (match T.get b S.hp, Nat.ble S.fl b.idx with
    | some (.dfr false), true => .next ⟨fn, nt, tm, todo, ds, md, lost, dk, rd⟩ cs (S.put b (.dfr true))
    | _, _ => .bad)
  | .call f args cap :: ds => pushA (enterA E f (lapp args cap) true) ⟨fn, nt, tm, todo, ds, md, lost, dk, rd⟩ cs S
noncomputable def sRaise (v : AV) (cs : List AF) (S : Hp) : SR :=
  match cs with
  | [] => .finP v S
  | ⟨fn, nt, tm, todo, dfs, .run, lost, dk, rd⟩ :: cs => .next ⟨fn, nt, tm, todo, dfs, .pan v false, lost, dk, rd⟩ cs S
  | _ => .bad
abbrev SM := DrawF → Env → Nat → Nat → Tm → List AI → List AD → Bool → Bool → Option Ps → List AF → Hp → SR
noncomputable def mRun : SM := fun D E fn nt tm todo dfs lost dk rd cs S => Bool.rec (sRun D todo E fn nt tm dfs dk rd cs S) .bad lost
noncomputable def mRet : SM := fun _ E fn nt tm todo dfs lost dk rd cs S => sDefers E fn nt tm todo dfs .ret lost dk rd cs S (sReturn E fn tm lost dk cs S)
noncomputable def mPan (v : AV) (r : Bool) : SM := fun _ E fn nt tm todo dfs lost dk rd cs S => sDefers E fn nt tm todo dfs (.pan v r) lost dk rd cs S (match r with | false => sRaise v cs S | true => .bad)
noncomputable def stepA (D : DrawF) (E : Env) (f : AF) (cs : List AF) (S : Hp) : SR :=
  AF.rec (motive := fun _ => DrawF → Env → List AF → Hp → SR) (fun fn nt tm todo dfs md lost dk rd D E cs S => AMd.rec (motive := fun _ => SM) mRun mRet mPan md D E fn nt tm todo dfs lost dk rd cs S) f D E cs S
noncomputable def stepA0 (D : DrawF) (E : Env) (f : AF) (cs : List AF) (S : Hp) : SR :=
  match f with
  | ⟨fn, nt, tm, todo, dfs, md, lost, dk, rd⟩ => match md with
    | .run => (match lost with | false => sRun D todo E fn nt tm dfs dk rd cs S | true => .bad)
    | .ret => sDefers E fn nt tm todo dfs .ret lost dk rd cs S (sReturn E fn tm lost dk cs S)
    | .pan v r => sDefers E fn nt tm todo dfs (.pan v r) lost dk rd cs S (match r with | false => sRaise v cs S | true => .bad)
theorem stepA_eq (D : DrawF) (E : Env) (f : AF) (cs : List AF) (S : Hp) : stepA D E f cs S = stepA0 D E f cs S := by
  obtain ⟨fn, nt, tm, todo, dfs, md, lost, dk, rd⟩ := f
  cases md with
  | run => cases lost <;> rfl
  | ret => rfl
  | pan v r => rfl
/-- a run: to the end of the frames that lie there -/
noncomputable def runA (D : DrawF) (E : Env) (n : Nat) : AF → List AF → Hp → SR :=
  Nat.rec (motive := fun _ => AF → List AF → Hp → SR) (fun f cs S => .next f cs S) (fun _ ih f cs S => SR.rec ih .fin .finP .bad (stepA D E f cs S)) n
end Go.AM

/-! A20: The relation between the abstract machine's frames and the model's; the steps within a frame. -/
namespace Go.AM

inductive IR (γ : Gm) : AI → Item → Prop where
  | code (c : Code) : IR γ (.code c) (.code c)
  | blk (id : Nat) : IR γ (.blk id) (.inBlock id)
  | lop (c : Code) : IR γ (.lop c) (.inLoop c)
  | scp (c : Code) : IR γ (.scp c) (.inScope c)
  | reg {ops : Array Oper} {i : Nat} {rest : List Oper} (h : ops.toList.drop i = rest) : IR γ (.reg ops i rest) (.inRegion ops (List.range' i rest.length))
  | inRF {l : Ps} {L : Loc} (h : γ l = some L) : IR γ (.inRF l) (.inRangeFunc L.blk)
  | endRF {l : Ps} {L : Loc} (h : γ l = some L) : IR γ (.endRF l) (.endRangeFunc L.blk)
  | beg : IR γ .beg .beginRound
inductive IsR (γ : Gm) : List AI → List Item → Prop where
  | nil : IsR γ [] []
  | cons {x : AI} {y : Item} {l : List AI} {l' : List Item} (h : IR γ x y) (t : IsR γ l l') : IsR γ (x :: l) (y :: l')
inductive DsR (γ : Gm) : List AD → List Deferred → Prop where
  | nil : DsR γ [] []
  | cons {x : AD} {y : Deferred} {l : List AD} {l' : List Deferred} (h : DR γ x y) (t : DsR γ l l') : DsR γ (x :: l) (y :: l')
inductive MR (γ : Gm) : AMd → FrameMode → Prop where
  | run : MR γ .run .run
  | ret : MR γ .ret .returning
  | pan {v : AV} {v' : Value} (r : Bool) (h : VR γ v v') : MR γ (.pan v r) (.panicking [{ v := v', recovered := r }])
inductive RdR (γ : Gm) : Option Ps → Option Nat → Prop where
  | none : RdR γ none none
  | some {l : Ps} {L : Loc} (h : γ l = some L) : RdR γ (some l) (some L.blk)

structure FR (γ : Gm) (E : Env) (f : AF) (fr : Frame) : Prop where
  fn : fr.fn = f.fn
  nt : fr.tmps.size = f.nt
  tm : f.lost = false → TR γ f.tm fr.tmps
  todo : f.md = .run → IsR γ f.todo fr.todo
  dfs : DsR γ f.dfs fr.defers
  md : MR γ f.md fr.mode
  kind : fr.kind = if f.dk then .deferred else .normal
  rd : RdR γ f.rd fr.roundOf
  fi : ∃ i, T.get (Ps.of f.fn) E.funcs = some (some i)
inductive CsR (γ : Gm) (E : Env) : List AF → List Frame → Prop where
  | nil : CsR γ E [] []
  | cons {x : AF} {y : Frame} {l : List AF} {l' : List Frame} (h : FR γ E x y) (t : CsR γ E l l') : CsR γ E (x :: l) (y :: l')

section mono
variable {γ γ' : Gm} (hg : Gm.le γ γ')
include hg
theorem IR.mono {x : AI} {y : Item} (h : IR γ x y) : IR γ' x y := by
  cases h with
  | code c => exact .code c
  | blk id => exact .blk id
  | lop c => exact .lop c
  | scp c => exact .scp c
  | reg h => exact .reg h
  | inRF h => exact .inRF (hg _ _ h)
  | endRF h => exact .endRF (hg _ _ h)
  | beg => exact .beg
theorem IsR.mono {x : List AI} {y : List Item} (h : IsR γ x y) : IsR γ' x y := by
  induction h with
  | nil => exact .nil
  | cons h _ ih => exact .cons (h.mono hg) ih
theorem DsR.mono {x : List AD} {y : List Deferred} (h : DsR γ x y) : DsR γ' x y := by
  induction h with
  | nil => exact .nil
  | cons h _ ih => exact .cons (h.mono hg) ih
theorem MR.mono {x : AMd} {y : FrameMode} (h : MR γ x y) : MR γ' x y := by
  cases h with
  | run => exact .run
  | ret => exact .ret
  | pan r h => exact .pan r (h.mono hg)
theorem RdR.mono {x : Option Ps} {y : Option Nat} (h : RdR γ x y) : RdR γ' x y := by
  cases h with
  | none => exact .none
  | some h => exact .some (hg _ _ h)
theorem FR.mono {E : Env} {f : AF} {fr : Frame} (h : FR γ E f fr) : FR γ' E f fr :=
  ⟨h.fn, h.nt, fun e => (h.tm e).mono hg, fun e => (h.todo e).mono hg, h.dfs.mono hg, h.md.mono hg, h.kind, h.rd.mono hg, h.fi⟩
theorem CsR.mono {E : Env} {x : List AF} {y : List Frame} (h : CsR γ E x y) : CsR γ' E x y := by
  induction h with
  | nil => exact .nil
  | cons h _ ih => exact .cons (h.mono hg) ih
end mono

/-- the frame at the bottom: its function and its loop -/
def lastF : Frame → List Frame → Nat × Option Nat
  | fr, [] => (fr.fn, fr.roundOf)
  | _, c :: cs => lastF c cs
/-- the machine goes on -/
def Goes (E : Env) (γ : Gm) (S : Hp) (fr : Frame) (frs : List Frame) (w : World) (f' : AF) (cs' : List AF) (S' : Hp) : Prop :=
  ∀ bot, ∃ γ' fr' frs' w', Steps E.P (lone fr (frs ++ bot) w) (lone fr' (frs' ++ bot) w') ∧ FR γ' E f' fr' ∧ CsR γ' E cs' frs' ∧ HR γ' E.ng S' w' ∧ Pres S γ w S' γ' w' ∧ lastF fr' frs' = lastF fr frs

section
variable {E : Env} {γ : Gm} {S : Hp} {fr : Frame} {frs : List Frame} {w : World}
theorem lastF_eq {fr fr' : Frame} (h1 : fr'.fn = fr.fn) (h2 : fr'.roundOf = fr.roundOf) (frs : List Frame) : lastF fr' frs = lastF fr frs := by
  cases frs with
  | nil => simp [lastF, h1, h2]
  | cons c cs => rfl
theorem RdR.eq {γ γ' : Gm} (hg : Gm.le γ γ') {r : Option Ps} {a b : Option Nat} (h : RdR γ r a) (k : RdR γ' r b) : b = a := by
  cases h with
  | none => cases k; rfl
  | some h => cases k with | some k => rw [hg _ _ h] at k; cases k; rfl
/-- the frame itself goes on -/
theorem Goes.here {f f' : AF} {cs : List AF} {S' : Hp} (hf : FR γ E f fr) (hc : CsR γ E cs frs) (hfn : f'.fn = f.fn) (hrd : f'.rd = f.rd)
    (h : ∀ cs, ∃ γ' fr' w', Steps E.P (lone fr cs w) (lone fr' cs w') ∧ FR γ' E f' fr' ∧ HR γ' E.ng S' w' ∧ Pres S γ w S' γ' w') : Goes E γ S fr frs w f' cs S' := by
  intro bot
  obtain ⟨γ', fr', w', h1, h2, h3, h4⟩ := h (frs ++ bot)
  refine ⟨γ', fr', frs, w', h1, h2, hc.mono h4.ext, h3, h4, lastF_eq ?_ ?_ frs⟩
  · rw [h2.fn, hf.fn, hfn]
  · have := h2.rd
    rw [hrd] at this
    exact RdR.eq h4.ext hf.rd this
/-- the same frame with something else to do -/
theorem FR.to {f : AF} (h : FR γ E f fr) {t : List AI} {t' : List Item} (ht : IsR γ t t') : FR γ E { f with todo := t } { fr with todo := t' } :=
  ⟨h.fn, h.nt, h.tm, fun _ => ht, h.dfs, h.md, h.kind, h.rd, h.fi⟩
theorem FR.mode {f : AF} (h : FR γ E f fr) (hm : f.md = .run) : fr.mode = .run := by
  have := h.md
  rw [hm] at this
  generalize fr.mode = m at this
  cases this; rfl
theorem exitA_ok {id : Nat} {l : List AI} {l' : List Item} (h : IsR γ l l') : (∀ k, exitA id l = some k → ∃ k', exitTo id l' = some k' ∧ IsR γ k k') ∧ (exitA id l = none → exitTo id l' = none) := by
  induction h with
  | nil => exact ⟨fun k e => (by cases e), fun _ => rfl⟩
  | @cons x y l l' hx t ih =>
    cases hx with
    | blk j =>
      have e : exitA id (.blk j :: l) = Bool.rec (exitA id l) (some l) (Nat.beq j id) := rfl
      rw [e]
      have e2 : exitTo id (.inBlock j :: l') = if j == id then some l' else exitTo id l' := rfl
      rw [e2]
      rw [nat_beq_decide]
      by_cases hj : j = id
      · simp only [hj, decide_true, beq_self_eq_true, if_true]
        exact ⟨fun k e => (by cases e; exact ⟨l', rfl, t⟩), fun e => (by cases e)⟩
      · have : (j == id) = false := by simpa using hj
        simp only [hj, decide_false, this, Bool.false_eq_true, if_false]
        exact ih
    | code c => exact ih
    | lop c => exact ih
    | scp c => exact ih
    | reg h => exact ih
    | inRF h => exact ih
    | endRF h => exact ih
    | beg => exact ih
def setD (d : Option Nat) (v : Value) (t : Array Value) : Array Value := match d with | some d => t.setIfInBounds d v | none => t
theorem putD_ok {nt : Nat} {d : Option Nat} {v : AV} {tm tm' : Tm} (h : putD nt d v tm = some tm') {tmps : Array Value} (hs : tmps.size = nt) (ht : TR γ tm tmps) {v' : Value} (hv : VR γ v v') :
    TR γ tm' (setD d v' tmps) := by
  cases d with
  | none => cases h; exact ht
  | some d =>
    obtain ⟨h1, h2⟩ := rec_some (b := Nat.blt d nt) h
    cases h2
    rw [nat_blt_decide] at h1
    exact ht.set (by rw [hs]; exact of_decide_eq_true h1) hv
theorem range'_cons (i : Nat) (o : Oper) (rest : List Oper) : List.range' i (o :: rest).length = i :: List.range' (i + 1) rest.length := by
  rw [List.length_cons, List.range'_succ]
theorem drop_cons {ops : Array Oper} {i : Nat} {o : Oper} {rest : List Oper} (h : ops.toList.drop i = o :: rest) : ops[i]? = some o ∧ ops.toList.drop (i + 1) = rest := by
  constructor
  · have : (ops.toList.drop i)[0]? = some o := by rw [h]; rfl
    rw [List.getElem?_drop] at this
    simpa using this
  · have : (ops.toList.drop i).drop 1 = rest := by rw [h]; rfl
    rw [List.drop_drop] at this
    exact this
/-- a value comes back -/
theorem finishA_ok {f f' : AF} {v : AV} (h : finishA f v = some f') (hf : FR γ E f fr) (hm : f.md = .run) (hl : f.lost = false) {v' : Value} (hv : VR γ v v') : FR γ E f' (fr.finish v') := by
  obtain ⟨fn, nt, tm, todo, dfs, md, lost, dk, rd⟩ := f
  simp only at hm hl
  subst hm hl
  rw [finishA_eq] at h; unfold finishA0 at h
  simp only at h
  have hto := hf.todo rfl
  simp only at hto
  split at h
  · rename_i ops i o rest k
    split at h
    · rename_i tm' hp
      cases h
      generalize hft : fr.todo = ft at hto
      cases hto with
      | cons hx ht =>
        cases hx with
        | reg hd =>
          obtain ⟨ho, hd2⟩ := drop_cons hd
          rw [range'_cons] at hft
          have h2 := putD_ok hp hf.nt (hf.tm rfl) hv
          refine ⟨?_, ?_, fun _ => ?_, fun _ => ?_, ?_, ?_, ?_, ?_, hf.fi⟩
          · simp only [Frame.finish, hft]; exact hf.fn
          · simp only [Frame.finish, hft, ho, Option.bind_some]
            have := hf.nt
            cases o.dst <;> simp [this]
          · simp only [Frame.finish, hft, ho, Option.bind_some]
            show TR γ tm' (setD o.dst v' fr.tmps)
            exact h2
          · simp only [Frame.finish, hft]; exact .cons (.reg hd2) ht
          · simp only [Frame.finish, hft]; exact hf.dfs
          · simp only [Frame.finish, hft]; exact hf.md
          · simp only [Frame.finish, hft]; exact hf.kind
          · simp only [Frame.finish, hft]; exact hf.rd
    · cases h
  · rename_i l k
    cases h
    generalize hft : fr.todo = ft at hto
    cases hto with
    | cons hx ht =>
      cases hx with
      | inRF hL =>
        refine ⟨?_, ?_, fun _ => ?_, fun _ => ?_, ?_, ?_, ?_, ?_, hf.fi⟩
        · simp only [Frame.finish, hft]; exact hf.fn
        · simp only [Frame.finish, hft]; exact hf.nt
        · simp only [Frame.finish, hft]; exact hf.tm rfl
        · simp only [Frame.finish, hft]; exact .cons (.endRF hL) ht
        · simp only [Frame.finish, hft]; exact hf.dfs
        · simp only [Frame.finish, hft]; exact hf.md
        · simp only [Frame.finish, hft]; exact hf.kind
        · simp only [Frame.finish, hft]; exact hf.rd
  · cases h
end
end Go.AM

/-! A21: Regions in the order of the text. -/
namespace Go.AM

/-- the frame goes on by itself -/
def In (E : Env) (fr : Frame) (w : World) (Q : Gm → Frame → World → Prop) : Prop :=
  ∃ γ' fr' w', (∀ cs, Steps E.P (lone fr cs w) (lone fr' cs w')) ∧ Q γ' fr' w'
section
variable {E : Env} (hE : E.Ok) {γ : Gm} {S : Hp} {fr : Frame} {w : World}

theorem wantA_ok {nt : Nat} {ops : Array Oper} {tm : Tm} {o : Oper} {b : Bool} (h : wantA nt ops tm o = some b) {tmps : Array Value} (hs : tmps.size = nt) (ht : TR γ tm tmps) : Region.wanted o (yielded ops tmps) = b := by
  rw [wantA_eq] at h; unfold wantA0 at h
  unfold Region.wanted
  split at h
  · rename_i hg; rw [hg]; cases h; rfl
  · rename_i j want hg
    rw [hg]
    simp only
    split at h
    · rename_i oj hj
      rw [nth_eq, Array.getElem?_toList] at hj
      split at h
      · rename_i d hd
        obtain ⟨h1, h2⟩ := rec_some h
        rw [nat_blt_decide] at h1
        have hlt : d < tmps.size := by rw [hs]; exact of_decide_eq_true h1
        have hv := ht d
        have hy : yielded ops tmps j = (match tmps[d] with | .bool b => some b | _ => none) := by
          unfold yielded
          simp only [hj, hd, Option.bind_some, Array.getElem?_eq_getElem hlt]
          cases tmps[d] <;> rfl
        have hget : tmps.getD d Go.undef = tmps[d] := by simp [Array.getD, hlt]
        rw [hget] at hv
        rw [hy]
        split at h2
        · rename_i c hc
          rw [hc] at hv
          cases h2
          generalize tmps[d] = u at hv
          cases hv
          cases c <;> cases want <;> rfl
        · rename_i hnb
          cases h2
          generalize tmps[d] = u at hv
          generalize tget tm d = t at hv hnb
          cases hv <;> first | exact absurd rfl (hnb _) | rfl
      · cases h
    · cases h

theorem todo_reg {γ : Gm} {E : Env} {fn nt : Nat} {tm : Tm} {ops : Array Oper} {i : Nat} {o : Oper} {rest : List Oper} {k : List AI} {dfs : List AD} {lost dk : Bool} {rd : Option Ps} {fr : Frame}
    (h : FR γ E ⟨fn, nt, tm, .reg ops i (o :: rest) :: k, dfs, .run, lost, dk, rd⟩ fr) : ∃ k', fr.todo = .inRegion ops (i :: List.range' (i + 1) rest.length) :: k' ∧ ops[i]? = some o := by
  have := h.todo rfl
  simp only at this
  generalize fr.todo = ft at this
  cases this with
  | cons hx ht =>
    cases hx with
    | reg hd =>
      obtain ⟨ho, _⟩ := drop_cons hd
      exact ⟨_, by rw [range'_cons], ho⟩
theorem rd_or {γ : Gm} {E : Env} {f : AF} {fr : Frame} (h : FR γ E f fr) (hr : f.rd = none) : fr.roundOf = none := by
  have := h.rd
  rw [hr] at this
  generalize fr.roundOf = r at this
  cases this; rfl
theorem evOp_noDefer {o : Oper} {E : Env} {tm : Tm} {S : Hp} {r : RO} (h : evOp o.op E tm S o.type = some r) (hr : ∀ d, r ≠ .dfr d) : ∀ c, o.op ≠ .defer c := by
  intro c e
  rw [e] at h
  obtain ⟨args, h1, h2⟩ := recb_ok (o := evXs E.ng tm c.args.toList) h
  cases hc : c.callee with
  | value f =>
    rw [hc] at h2
    obtain ⟨fv, h3, h4⟩ := b1_ok h2
    split at h4
    · cases h4; exact hr _ rfl
    · cases h4
  | invoke a b => rw [hc] at h2; cases h2
  | builtin b => rw [hc] at h2; cases h2

/-- behind a region, or before an operation that is no mere value -/
inductive RegQ (E : Env) (S : Hp) (γ : Gm) (w : World) (fn nt : Nat) (k : List AI) (dfs : List AD) (dk : Bool) (rd : Option Ps) (ops : Array Oper) : RS → Gm → Frame → World → Prop where
  | done {tm : Tm} {S' : Hp} {i : Nat} {γ' : Gm} {fr' : Frame} {w' : World} (hf : FR γ' E ⟨fn, nt, tm, .reg ops i [] :: k, dfs, .run, false, dk, rd⟩ fr') (hH : HR γ' E.ng S' w') (hP : Pres S γ w S' γ' w') :
      RegQ E S γ w fn nt k dfs dk rd ops (.done tm S') γ' fr' w'
  | stop {tm : Tm} {S' : Hp} {i : Nat} {o : Oper} {rest : List Oper} {r : RO} {γ' : Gm} {fr' : Frame} {w' : World} (hf : FR γ' E ⟨fn, nt, tm, .reg ops i (o :: rest) :: k, dfs, .run, false, dk, rd⟩ fr') (hH : HR γ' E.ng S' w')
      (hP : Pres S γ w S' γ' w') (hw : Region.wanted o (yielded ops fr'.tmps) = true) (he : evOp o.op E tm S' o.type = some r) (hr : ∀ x S, r ≠ .v x S) : RegQ E S γ w fn nt k dfs dk rd ops (.stop tm S' i (o :: rest) r) γ' fr' w'

include hE in
theorem runOps_ok {fn nt : Nat} {k : List AI} {dfs : List AD} {dk : Bool} {rd : Option Ps} {ops : Array Oper} : ∀ (rest : List Oper) (i : Nat) (tm : Tm) (S : Hp) (γ : Gm) (fr : Frame) (w : World),
    FR γ E ⟨fn, nt, tm, .reg ops i rest :: k, dfs, .run, false, dk, rd⟩ fr → HR γ E.ng S w → (runOps E nt ops rest i tm S = .bad) ∨ In E fr w (RegQ E S γ w fn nt k dfs dk rd ops (runOps E nt ops rest i tm S))
  | [], i, tm, S, γ, fr, w, hf, hH => .inr ⟨γ, fr, w, fun cs => Steps.refl _ _, .done hf hH (Pres.refl _ _ _)⟩
  | o :: rest, i, tm, S, γ, fr, w, hf, hH => by
    have e : runOps E nt ops (o :: rest) i tm S = runOp E nt ops o rest i tm S (fun i tm S => runOps E nt ops rest i tm S) := rfl
    rw [e]
    obtain ⟨k', ht, ho⟩ := todo_reg hf
    have hm := hf.mode rfl
    have hT := hf.tm rfl
    rw [runOp_eq]; unfold runOp0
    cases hw : wantA nt ops tm o with
    | none => exact .inl rfl
    | some b =>
      have hwd := wantA_ok hw hf.nt hT
      cases b with
      | false =>
        simp only
        cases hp : putD nt o.dst (.tup []) tm with
        | none => exact .inl rfl
        | some tm' =>
          simp only
          have hfin : finishA ⟨fn, nt, tm, .reg ops i (o :: rest) :: k, dfs, .run, false, dk, rd⟩ (.tup []) = some ⟨fn, nt, tm', .reg ops (i + 1) rest :: k, dfs, .run, false, dk, rd⟩ := by
            simp only [finishA_eq, finishA0, hp]
          have hf2 := finishA_ok hfin hf rfl rfl .undef
          rcases runOps_ok rest (i + 1) tm' S γ _ w hf2 hH with h | ⟨γ', fr', w', h1, h2⟩
          · exact .inl h
          · exact .inr ⟨γ', fr', w', fun cs => Steps.head (step_unwanted hm ht ho hwd) (h1 cs), h2⟩
      | true =>
        simp only
        cases hev : evOp o.op E tm S o.type with
        | none => exact .inl rfl
        | some r =>
          have hop := evOp_ok hE hT hH hev
          cases r with
          | v x S' =>
            simp only
            cases hp : putD nt o.dst x tm with
            | none => exact .inl rfl
            | some tm' =>
              simp only
              obtain ⟨γ₁, v, w₁, hr, hv, hH1, hP1⟩ := hop
              have hfin : finishA ⟨fn, nt, tm, .reg ops i (o :: rest) :: k, dfs, .run, false, dk, rd⟩ x = some ⟨fn, nt, tm', .reg ops (i + 1) rest :: k, dfs, .run, false, dk, rd⟩ := by
                simp only [finishA_eq, finishA0, hp]
              have hf2 := finishA_ok hfin (hf.mono hP1.ext) rfl rfl hv
              rcases runOps_ok rest (i + 1) tm' S' γ₁ _ w₁ hf2 hH1 with h | ⟨γ', fr', w', h1, h2⟩
              · exact .inl h
              · refine .inr ⟨γ', fr', w', fun cs => Steps.head (step_val hm ht ho hwd (.inr (evOp_noDefer hev (fun d e => by cases e))) hr) (h1 cs), ?_⟩
                generalize runOps E nt ops rest (i + 1) tm' S' = rs at h2
                cases h2 with
                | done a b c => exact .done a b (hP1.trans c)
                | stop a b c d e f => exact .stop a b (hP1.trans c) d e f
          | call f args => exact .inr ⟨γ, fr, w, fun cs => Steps.refl _ _, .stop hf hH (Pres.refl _ _ _) hwd hev (fun _ _ e => by cases e)⟩
          | yld l args => exact .inr ⟨γ, fr, w, fun cs => Steps.refl _ _, .stop hf hH (Pres.refl _ _ _) hwd hev (fun _ _ e => by cases e)⟩
          | dfr d => exact .inr ⟨γ, fr, w, fun cs => Steps.refl _ _, .stop hf hH (Pres.refl _ _ _) hwd hev (fun _ _ e => by cases e)⟩
          | pan v => exact .inr ⟨γ, fr, w, fun cs => Steps.refl _ _, .stop hf hH (Pres.refl _ _ _) hwd hev (fun _ _ e => by cases e)⟩
          | rcv => exact .inr ⟨γ, fr, w, fun cs => Steps.refl _ _, .stop hf hH (Pres.refl _ _ _) hwd hev (fun _ _ e => by cases e)⟩
end
end Go.AM

/-! A22: New frames; ends of frames. -/
namespace Go.AM

section
variable {E : Env} (hE : E.Ok) {γ : Gm} {S : Hp} {fr : Frame} {frs : List Frame} {w : World}

def Fin (E : Env) (γ : Gm) (S : Hp) (fr : Frame) (w : World) (v : AV) (S' : Hp) : Prop :=
  (fr.roundOf = none → ∀ bot, ∃ γ' v' fr' w' fn, Steps E.P (lone fr bot w) (lone fr' bot w') ∧ fr'.mode = .returning ∧ fr'.defers = [] ∧ fr'.kind = .normal ∧ fr'.fn = fr.fn ∧ E.P.funcs[fr'.fn]? = some fn ∧
    (results fn fr'.tmps).run E.P w' = .ok v' w' ∧ VR γ' v v' ∧ HR γ' E.ng S' w' ∧ Pres S γ w S' γ' w') ∧
  (∀ c bot, ∃ γ' v' w', Steps E.P (lone fr (c :: bot) w) (lone (c.finish v') bot w') ∧ VR γ' v v' ∧ HR γ' E.ng S' w' ∧ Pres S γ w S' γ' w')
def FinP (E : Env) (γ : Gm) (S : Hp) (fr : Frame) (w : World) (v : AV) (S' : Hp) : Prop :=
  ∀ c bot, ∃ γ' v' w', Steps E.P (lone fr (c :: bot) w) (lone (c.raise [{ v := v', recovered := false }]) bot w') ∧ VR γ' v v' ∧ HR γ' E.ng S' w' ∧ Pres S γ w S' γ' w'
def StepQ (E : Env) (γ : Gm) (S : Hp) (fr : Frame) (frs : List Frame) (w : World) : SR → Prop
  | .next f cs S' => Goes E γ S fr frs w f cs S'
  | .fin v S' => frs = [] ∧ Fin E γ S fr w v S'
  | .finP v S' => frs = [] ∧ FinP E γ S fr w v S'
  | .bad => True

/-- some steps ahead -/
theorem StepQ.ahead {γ₁ : Gm} {S₁ : Hp} {fr₁ : Frame} {w₁ : World} {r : SR} (hs : ∀ cs, Steps E.P (lone fr cs w) (lone fr₁ cs w₁)) (hP : Pres S γ w S₁ γ₁ w₁) (hfn : fr₁.fn = fr.fn) (hrd : fr₁.roundOf = fr.roundOf)
    (h : StepQ E γ₁ S₁ fr₁ frs w₁ r) : StepQ E γ S fr frs w r := by
  cases r with
  | next f cs S' =>
    intro bot
    obtain ⟨γ', fr', frs', w', h1, h2, h3, h4, h5, h6⟩ := h bot
    exact ⟨γ', fr', frs', w', Steps.trans (hs _) h1, h2, h3, h4, hP.trans h5, h6.trans (lastF_eq hfn hrd frs)⟩
  | fin v S' =>
    obtain ⟨h0, h1, h2⟩ := h
    refine ⟨h0, fun hr bot => ?_, fun c bot => ?_⟩
    · obtain ⟨γ', v', fr', w', fn, g1, g2, g3, g4, g5, g6, g7, g8, g9, g10⟩ := h1 (by rw [hrd]; exact hr) bot
      exact ⟨γ', v', fr', w', fn, Steps.trans (hs _) g1, g2, g3, g4, g5.trans hfn, g6, g7, g8, g9, hP.trans g10⟩
    · obtain ⟨γ', v', w', g1, g2, g3, g4⟩ := h2 c bot
      exact ⟨γ', v', w', Steps.trans (hs _) g1, g2, g3, hP.trans g4⟩
  | finP v S' =>
    obtain ⟨h0, h2⟩ := h
    refine ⟨h0, fun c bot => ?_⟩
    obtain ⟨γ', v', w', g1, g2, g3, g4⟩ := h2 c bot
    exact ⟨γ', v', w', Steps.trans (hs _) g1, g2, g3, hP.trans g4⟩
  | bad => trivial

/-! entering a function -/
theorem tget_argT (l : List AV) : ∀ (j : Nat) (t : Tm) (i : Nat), tget (argT l j t) i = if j ≤ i ∧ i < j + l.length then (l[i - j]?).getD (.tup []) else tget t i := by
  induction l with
  | nil =>
    intro j t i
    show tget t i = _
    rw [if_neg (fun h => by simp only [List.length_nil] at h; omega)]
  | cons v l ih =>
    intro j t i
    show tget (argT l (j + 1) (tset j v t)) i = _
    rw [ih (j + 1)]
    by_cases e : i = j
    · subst e
      rw [if_neg (by omega), if_pos (by simp)]
      rw [tget_same]; simp
    · by_cases h : j + 1 ≤ i ∧ i < j + 1 + l.length
      · rw [if_pos h, if_pos (by simp; omega)]
        rw [show i - j = (i - (j + 1)) + 1 from by omega]; simp
      · rw [if_neg h, if_neg (by simp; omega)]
        rw [tget_ne (fun e' => e e'.symm)]
theorem argT_ok {l : List AV} {l' : List Value} (h : LR γ l l') (n : Nat) : TR γ (argT l 0 te) ((⟨l'⟩ : Array Value) ++ Array.replicate n undef) := by
  intro i
  rw [tget_argT]
  have hl := h.length
  by_cases e : i < l.length
  · rw [if_pos ⟨Nat.zero_le _, by omega⟩, Nat.sub_zero]
    have hx : l[i]? = some l[i] := List.getElem?_eq_getElem e
    obtain ⟨y, hy, hv⟩ := h.nth i hx
    rw [hx]
    have : ((⟨l'⟩ : Array Value) ++ Array.replicate n undef).getD i Go.undef = y := by
      rw [Array.getD_eq_getD_getElem?, Array.getElem?_append_left (by simp; omega), List.getElem?_toArray, hy]; rfl
    rw [this]; exact hv
  · rw [if_neg (by omega)]
    have h1 : tget te i = .tup [] := tget_te i
    have h2 : ((⟨l'⟩ : Array Value) ++ Array.replicate n undef).getD i Go.undef = Go.undef := by
      rw [Array.getD_eq_getD_getElem?, Array.getElem?_append_right (by simp; omega)]
      rw [Array.getElem?_replicate]
      split <;> rfl
    rw [h1, h2]; exact .undef
include hE in
theorem enterA_ok {f : Nat} {args : List AV} {dk : Bool} {f' : AF} (h : enterA E f args dk = some f') {args' : List Value} (ha : LR γ args args') : FR γ E f' (Frame.enter E.P f ⟨args'⟩ (if dk then .deferred else .normal)) := by
  unfold enterA at h
  split at h
  · rename_i i hi
    obtain ⟨h1, h2⟩ := rec_some h
    cases h2
    rw [llen_eq] at h1
    have hle := Nat.le_of_ble_eq_true h1
    obtain ⟨fn, g1, g2, g3, g4, g5⟩ := hE.funcs f i hi
    have hl := ha.length
    refine ⟨rfl, ?_, fun _ => ?_, fun _ => ?_, .nil, .run, rfl, .none, i, hi⟩
    · simp only [Frame.enter, g1, Option.map_some, Option.getD_some, g3]
      simp; omega
    · exact argT_ok ha _
    · simp only [Frame.enter, g1, Option.bind_some, g2, Option.getD_some]
      exact .cons (.code _) .nil
  · cases h
include hE in
theorem pushA_ok {f' : Option AF} {c : AF} {cs : List AF} {S' : Hp} {g : Nat} {args : List AV} {dk : Bool} (hf' : f' = enterA E g args dk) {γ' : Gm} {c' : Frame} {w' : World} {args' : List Value} (ha : LR γ' args args')
    (hc : FR γ' E c c') (hcs : CsR γ E cs frs) (hH : HR γ' E.ng S' w') (hP : Pres S γ w S' γ' w')
    (hs : ∀ cs, Steps E.P (lone fr cs w) (lone (Frame.enter E.P g ⟨args'⟩ (if dk then .deferred else .normal)) (c' :: cs) w')) (hfn : c'.fn = fr.fn) (hrd : c'.roundOf = fr.roundOf) :
    StepQ E γ S fr frs w (pushA f' c cs S') := by
  subst hf'
  cases h : enterA E g args dk with
  | none => trivial
  | some f' =>
    intro bot
    exact ⟨γ', _, c' :: frs, w', hs _, enterA_ok hE h ha, .cons hc (hcs.mono hP.ext), hH, hP, lastF_eq hfn hrd frs⟩
theorem parT_ok {nt : Nat} {ps : List Nat} : ∀ {args : List AV} {tm tm' : Tm} {args' : List Value} {tmps : Array Value}, parT nt ps args tm = some tm' → LR γ args args' → TR γ tm tmps → tmps.size = nt →
    args'.length = ps.length ∧ TR γ tm' ((ps.zip args').foldl (fun (a : Array Value) (p : Nat × Value) => a.setIfInBounds p.1 p.2) tmps) ∧ ((ps.zip args').foldl (fun (a : Array Value) (p : Nat × Value) => a.setIfInBounds p.1 p.2) tmps).size = nt := by
  induction ps with
  | nil =>
    intro args tm tm' args' tmps h ha ht hs
    cases ha with
    | nil => cases h; exact ⟨rfl, ht, hs⟩
    | cons _ _ => cases h
  | cons p ps ih =>
    intro args tm tm' args' tmps h ha ht hs
    cases ha with
    | nil => cases h
    | @cons x y l l' hv htl =>
      obtain ⟨h1, h2⟩ := rec_some (b := Nat.blt p nt) h
      rw [nat_blt_decide] at h1
      have hlt : p < tmps.size := by rw [hs]; exact of_decide_eq_true h1
      obtain ⟨g1, g2, g3⟩ := ih (tmps := tmps.setIfInBounds p y) h2 htl (ht.set hlt hv) (by simpa using hs)
      exact ⟨by simp [g1], g2, g3⟩
theorem HR.loop {ng : Nat} (h : HR γ ng S w) {l : Ps} {st : LoopState} {pend : Option Code} {fn nt : Nat} {tm : Tm} {ps : List Nat} {a b : Code} {d : Ps} {L : Loc} (hl : T.get l S.hp = some (.loop st pend fn nt tm ps a b d)) (hL : γ l = some L) :
    ∃ tmps D, w.heap[L.blk]? = some (.loop { state := st, pending := pend, fn := fn, tmps := tmps, params := ⟨ps⟩, assign := a, body := b, defers := D.blk }) ∧ TR γ tm tmps ∧ γ d = some D ∧ tmps.size = nt := by
  obtain ⟨M, ob, h1, h2, tmps, D, rfl, h3, h4, h5⟩ := h.obj l _ hl
  rw [hL] at h1; cases h1
  exact ⟨tmps, D, h2, h3, h4, h5⟩
theorem roundA_ok {l : Ps} {args : List AV} {f' : AF} (h : roundA E S l args = some f') (hH : HR γ E.ng S w) {args' : List Value} (ha : LR γ args args') {L : Loc} (hL : γ l = some L) :
    ∃ fn tmps a b, (Instr.yield L.blk ⟨args'⟩).run E.P w = .ok (.round L.blk fn tmps a b) w ∧ FR γ E f' (Frame.round L.blk fn tmps a b .normal) := by
  unfold roundA at h
  split at h
  · rename_i st pend fn nt tm ps a b d hl
    split at h
    · rename_i tm' i hp hi
      cases h
      obtain ⟨tmps, D, h1, h2, h3, h4⟩ := hH.loop hl hL
      obtain ⟨g1, g2, g3⟩ := parT_ok hp ha h2 h4
      refine ⟨fn, _, a, b, ?_, ⟨rfl, g3, fun _ => g2, fun _ => .cons (.code a) (.cons .beg (.cons (.code b) .nil)), .nil, .run, rfl, .some hL, i, hi⟩⟩
      simp only [Instr.yield, Instr.getLoop, Sem.run_bind, run_getObj h1 (fun _ _ _ e => by cases e), Result.andThen_ok, Sem.run_pure]
      rw [if_neg (by simp [g1])]
      simp only [Sem.run_pure]
      congr 2
      rw [← Array.foldl_toList, Array.toList_zip]
    · cases h
  · cases h
end
end Go.AM

/-! A23: The steps of the abstract machine. -/
namespace Go.AM

section
variable {E : Env} (hE : E.Ok) {γ : Gm} {S : Hp} {fr : Frame} {frs : List Frame} {w : World}

theorem recA_ok {dk : Bool} {cs cs' : List AF} {v : AV} (h : recA dk cs = some (v, cs')) (hcs : CsR γ E cs frs) (hk : fr.kind = if dk then .deferred else .normal) (bot : List Frame) :
    ∃ v' frs', VR γ v v' ∧ CsR γ E cs' frs' ∧ (∀ g, lastF g frs' = lastF g frs) ∧ (tryRecover fr (frs ++ bot) = some (v', frs' ++ bot) ∨ (tryRecover fr (frs ++ bot) = none ∧ v' = .nilIface ∧ frs' = frs)) := by
  cases dk with
  | false =>
    cases h
    refine ⟨.nilIface, frs, .nili, hcs, fun _ => rfl, .inr ⟨?_, rfl, rfl⟩⟩
    obtain ⟨fn, tmps, todo, defers, mode, kind, roundOf⟩ := fr
    simp at hk
    subst hk
    simp [tryRecover]
  | true =>
    obtain ⟨fn, tmps, todo, defers, mode, kind, roundOf⟩ := fr
    simp at hk
    subst hk
    cases hcs with
    | nil => cases h
    | @cons x y l l' hx ht =>
      obtain ⟨xfn, xnt, xtm, xtodo, xdfs, xmd, xlost, xdk, xrd⟩ := x
      have hmd := hx.md
      simp only at hmd
      have other : (∀ u, y.mode ≠ .panicking [{ v := u, recovered := false }]) → (∀ e o, y.mode = .panicking (e :: o) → o = [] ∧ e.goexit = false) → recA true (⟨xfn, xnt, xtm, xtodo, xdfs, xmd, xlost, xdk, xrd⟩ :: l) = some (.nili, ⟨xfn, xnt, xtm, xtodo, xdfs, xmd, xlost, xdk, xrd⟩ :: l) →
          ∃ v' frs', VR γ v v' ∧ CsR γ E cs' frs' ∧ (∀ g, lastF g frs' = lastF g (y :: l')) ∧ (tryRecover { fn, tmps, todo, defers, mode, kind := .deferred, roundOf } (y :: l' ++ bot) = some (v', frs' ++ bot) ∨ (tryRecover { fn, tmps, todo, defers, mode, kind := .deferred, roundOf } (y :: l' ++ bot) = none ∧ v' = .nilIface ∧ frs' = y :: l')) := by
        intro h1 h2 h3
        rw [h3] at h
        cases h
        refine ⟨.nilIface, y :: l', .nili, .cons hx ht, fun _ => rfl, .inr ⟨?_, rfl, rfl⟩⟩
        simp only [tryRecover, List.cons_append]
        split
        · rename_i u o hm
          have := h2 _ _ hm
          obtain ⟨rfl, _⟩ := this
          exact absurd hm (h1 u)
        · rfl
      cases hmd2 : y.mode with
      | run =>
        rw [hmd2] at hmd
        cases hmd
        exact other (fun u e => by rw [hmd2] at e; cases e) (fun e o e' => by rw [hmd2] at e'; cases e') rfl
      | returning =>
        rw [hmd2] at hmd
        cases hmd
        exact other (fun u e => by rw [hmd2] at e; cases e) (fun e o e' => by rw [hmd2] at e'; cases e') rfl
      | panicking ch =>
        rw [hmd2] at hmd
        cases hmd with
        | @pan u u' r hu =>
          cases r with
          | true =>
            exact other (fun u e => by rw [hmd2] at e; simp at e) (fun e o e' => by rw [hmd2] at e'; simp at e'; obtain ⟨rfl, rfl⟩ := e'; exact ⟨rfl, rfl⟩) rfl
          | false =>
            cases h
            refine ⟨u', { y with mode := .panicking [{ v := u', recovered := true }] } :: l', hu, .cons ⟨hx.fn, hx.nt, hx.tm, fun e => (by cases e), hx.dfs, .pan true hu, hx.kind, hx.rd, hx.fi⟩ ht, ?_, .inl ?_⟩
            · intro g
              show lastF { y with mode := .panicking [{ v := u', recovered := true }] } l' = lastF y l'
              exact lastF_eq (fr := y) (fr' := { y with mode := .panicking [{ v := u', recovered := true }] }) rfl rfl l'
            · simp only [tryRecover, List.cons_append, hmd2]

include hE in
theorem afterOps_ok {fn nt : Nat} {k : List AI} {dfs : List AD} {dk : Bool} {rd : Option Ps} {ops : Array Oper} {tm0 : Tm} {S0 : Hp} {γ₀ : Gm} {w₀ : World} {cs : List AF} {rs : RS} (hq : RegQ E S0 γ₀ w₀ fn nt k dfs dk rd ops rs γ fr w)
    (hcs : CsR γ E cs frs) : ∃ S₁, Pres S0 γ₀ w₀ S₁ γ w ∧ StepQ E γ S₁ fr frs w (afterOps ops rs E fn nt tm0 k dfs dk rd cs S0) := by
  cases hq with
  | @done tm S' i _ _ _ hf hH hP =>
    refine ⟨S', hP, ?_⟩
    have hto := hf.todo rfl
    simp only at hto
    generalize hft : fr.todo = ft at hto
    cases hto with
    | @cons _ y _ k' hx ht =>
      cases hx with
      | reg hd =>
        refine Goes.here hf hcs rfl rfl (fun cs => ⟨γ, { fr with todo := k' }, w, Steps.one (st_regionEnd (ops := ops) (hf.mode rfl) hft), ?_, hH, Pres.refl _ _ _⟩)
        exact hf.to ht
  | @stop tm S' i o rest r _ _ _ hf hH hP hw he hr =>
    refine ⟨S', hP, ?_⟩
    obtain ⟨k', ht, ho⟩ := todo_reg hf
    have hm := hf.mode rfl
    have hT := hf.tm rfl
    have hop := evOp_ok hE hT hH he
    cases r with
    | v x S2 => exact absurd rfl (hr _ _)
    | call f args =>
      obtain ⟨vs, h1, h2, _⟩ := hop
      exact pushA_ok hE (dk := false) rfl h2 hf hcs hH (Pres.refl _ _ _) (fun cs => Steps.one (step_enter hm ht ho hw (.inr (evOp_noDefer he (fun d e => by cases e))) h1)) rfl rfl
    | yld l args =>
      obtain ⟨L, vs, hL, h2, h3⟩ := hop
      show StepQ E γ S' fr frs w (pushA (roundA E S' l args) ⟨fn, nt, tm, .reg ops i (o :: rest) :: k, dfs, .run, false, dk, rd⟩ cs S')
      cases hra : roundA E S' l args with
      | none => trivial
      | some f' =>
        obtain ⟨lf, tmps, a, b, g1, g2⟩ := roundA_ok hra hH h2 hL
        intro bot
        exact ⟨γ, _, fr :: frs, w, Steps.one (step_round hm ht ho hw (.inr (evOp_noDefer he (fun d e => by cases e))) ((h3 w).trans g1)), g2, .cons hf hcs, hH, Pres.refl _ _ _, rfl⟩
    | dfr d =>
      obtain ⟨d', h1, h2⟩ := hop
      cases rd with
      | some l => trivial
      | none =>
        show StepQ E γ S' fr frs w (nextO (finishA ⟨fn, nt, tm, .reg ops i (o :: rest) :: k, d :: dfs, .run, false, dk, none⟩ (.tup [])) cs S')
        cases hfi : finishA ⟨fn, nt, tm, .reg ops i (o :: rest) :: k, d :: dfs, .run, false, dk, none⟩ (.tup []) with
        | none => trivial
        | some f' =>
          have hf2 : FR γ E ⟨fn, nt, tm, .reg ops i (o :: rest) :: k, d :: dfs, .run, false, dk, none⟩ { fr with defers := d' :: fr.defers } := ⟨hf.fn, hf.nt, hf.tm, hf.todo, .cons h2 hf.dfs, hf.md, hf.kind, hf.rd, hf.fi⟩
          have hf3 := finishA_ok hfi hf2 rfl rfl .undef
          have e1 : f'.fn = fn ∧ f'.rd = none := by
            simp only [finishA_eq, finishA0] at hfi
            split at hfi
            · cases hfi; exact ⟨rfl, rfl⟩
            · cases hfi
          exact Goes.here hf hcs e1.1 e1.2 (fun cs => ⟨γ, _, w, Steps.one (step_defer hm ht ho hw (rd_or hf rfl) h1), hf3, hH, Pres.refl _ _ _⟩)
    | pan v =>
      obtain ⟨v', h1, h2⟩ := hop
      refine Goes.here hf hcs rfl rfl (fun cs => ⟨γ, _, w, Steps.one (step_panic hm ht ho hw (.inr (evOp_noDefer he (fun d e => by cases e))) h1), ?_, hH, Pres.refl _ _ _⟩)
      have hr : fr.raise [{ v := v', recovered := false }] = { fr with mode := .panicking [{ v := v', recovered := false }] } := by simp [Frame.raise, hm]
      rw [hr]
      exact ⟨hf.fn, hf.nt, hf.tm, fun e => (by cases e), hf.dfs, .pan false h2, hf.kind, hf.rd, hf.fi⟩
    | rcv =>
      cases rd with
      | some l => trivial
      | none =>
        simp only [afterOps_eq, afterOps0]
        cases hrec : recA dk cs with
        | none => trivial
        | some q =>
          obtain ⟨v, cs'⟩ := q
          simp only
          cases hfi : finishA ⟨fn, nt, tm, .reg ops i (o :: rest) :: k, dfs, .run, false, dk, none⟩ v with
          | none => trivial
          | some f' =>
            intro bot
            obtain ⟨v', frs', g1, g2, g3, g4⟩ := recA_ok hrec hcs hf.kind bot
            have hf3 := finishA_ok hfi hf rfl rfl g1
            have hst := step_recover (cs := frs ++ bot) hm ht ho hw (rd_or hf rfl) hop
            refine ⟨γ, fr.finish v', frs', w, Steps.one ?_, hf3, g2, hH, Pres.refl _ _ _, ?_⟩
            · rw [hst]
              rcases g4 with g4 | ⟨g4, rfl, rfl⟩
              · rw [g4]
              · rw [g4]
            · rw [g3]
              refine lastF_eq ?_ ?_ frs
              · unfold Frame.finish; rw [ht]
              · unfold Frame.finish; rw [ht]
end
end Go.AM

/-! A24: The steps of the abstract machine: the simple ones, and the ends of rounds and functions. -/
namespace Go.AM

section
variable {E : Env} (hE : E.Ok) {γ : Gm} {S : Hp} {fr : Frame} {frs : List Frame} {w : World}

theorem finish_fn (fr : Frame) (v : Value) : (fr.finish v).fn = fr.fn ∧ (fr.finish v).roundOf = fr.roundOf := by
  unfold Frame.finish; split <;> exact ⟨rfl, rfl⟩
theorem finishA_fn {f f' : AF} {v : AV} (h : finishA f v = some f') : f'.fn = f.fn ∧ f'.rd = f.rd := by
  obtain ⟨fn, nt, tm, todo, dfs, md, lost, dk, rd⟩ := f
  simp only [finishA_eq, finishA0] at h
  split at h
  · split at h
    · cases h; exact ⟨rfl, rfl⟩
    · cases h
  · cases h; exact ⟨rfl, rfl⟩
  · cases h

theorem backA_ok {v : AV} {v' : Value} {S' : Hp} {γ' : Gm} {w' : World} {cs : List AF} (hcs : CsR γ E cs frs) (hv : VR γ' v v') (hH : HR γ' E.ng S' w') (hP : Pres S γ w S' γ' w')
    (hs : ∀ c cs, Steps E.P (lone fr (c :: cs) w) (lone (c.finish v') cs w'))
    (h1 : fr.roundOf = none → ∀ bot, ∃ fr' fn, Steps E.P (lone fr bot w) (lone fr' bot w') ∧ fr'.mode = .returning ∧ fr'.defers = [] ∧ fr'.kind = .normal ∧ fr'.fn = fr.fn ∧ E.P.funcs[fr'.fn]? = some fn ∧
      (results fn fr'.tmps).run E.P w' = .ok v' w') : StepQ E γ S fr frs w (backA v cs S') := by
  cases hcs with
  | nil =>
    refine ⟨rfl, fun hr bot => ?_, fun c bot => ⟨γ', v', w', hs c bot, hv, hH, hP⟩⟩
    obtain ⟨fr', fn, g1, g2, g3, g4, g5, g6, g7⟩ := h1 hr bot
    exact ⟨γ', v', fr', w', fn, g1, g2, g3, g4, g5, g6, g7, hv, hH, hP⟩
  | @cons x y l l' hx ht =>
    rw [backA_eq]; unfold backA0
    simp only
    split
    · rename_i c' e1 e2 e3
      have hmd : x.md = .run := by
        cases h : x.md <;> rw [h] at e1 <;> first | rfl | cases e1
      have hf := finishA_ok e3 (hx.mono hP.ext) hmd e2 hv
      intro bot
      refine ⟨γ', y.finish v', l', w', hs y (l' ++ bot), hf, ht.mono hP.ext, hH, hP, ?_⟩
      show lastF (y.finish v') l' = lastF y l'
      exact lastF_eq (finish_fn y v').1 (finish_fn y v').2 l'
    · trivial

theorem put_loop {l : Ps} {L : Loc} {st st' : LoopState} {pend pend' : Option Code} {fn nt : Nat} {tm : Tm} {ps : List Nat} {a b : Code} {d : Ps} (hH : HR γ E.ng S w) (hl : T.get l S.hp = some (.loop st pend fn nt tm ps a b d)) (hL : γ l = some L)
    (hf : Nat.ble S.fl l.idx = true) {tmps : Array Value} {D : Loc} (h2 : w.heap[L.blk]? = some (.loop { state := st, pending := pend, fn := fn, tmps := tmps, params := ⟨ps⟩, assign := a, body := b, defers := D.blk })) (h3 : TR γ tm tmps) (h4 : γ d = some D) (h5 : tmps.size = nt) :
    HR γ E.ng (S.put l (.loop st' pend' fn nt tm ps a b d)) { w with heap := w.heap.setIfInBounds L.blk (.loop { state := st', pending := pend', fn := fn, tmps := tmps, params := ⟨ps⟩, assign := a, body := b, defers := D.blk }) } ∧
    Pres S γ w (S.put l (.loop st' pend' fn nt tm ps a b d)) γ { w with heap := w.heap.setIfInBounds L.blk (.loop { state := st', pending := pend', fn := fn, tmps := tmps, params := ⟨ps⟩, assign := a, body := b, defers := D.blk }) } := by
  have hlt : L.blk < w.heap.size := (Array.getElem?_eq_some_iff.1 h2).1
  refine hH.put hl hL (Nat.le_of_ble_eq_true hf) (by simp) (fun r hr => ?_) ?_ ⟨tmps, D, rfl, h3, h4, h5⟩ rfl rfl
  · show (w.heap.setIfInBounds L.blk _)[r]? = _
    rw [Array.getElem?_setIfInBounds_ne (fun e => hr e.symm)]
  · show (w.heap.setIfInBounds L.blk _)[L.blk]? = _
    rw [Array.getElem?_setIfInBounds_self_of_lt hlt]

/-- a round or a function ends -/
theorem sLeave_ok {j : Option Code} {fn nt : Nat} {tm : Tm} {t k : List AI} {dfs : List AD} {dk : Bool} {rd : Option Ps} {cs : List AF} {k' : List Item}
    (hf : FR γ E ⟨fn, nt, tm, t, dfs, .run, false, dk, rd⟩ fr) (hcs : CsR γ E cs frs) (hH : HR γ E.ng S w)
    (ht : (fr.todo = [] ∧ j = none) ∨ (fr.todo = .code .ret :: k' ∧ j = some .ret) ∨ (∃ id, fr.todo = .code (.exit id) :: k' ∧ exitTo id k' = none ∧ j = some (.exit id))) :
    StepQ E γ S fr frs w (sLeave j E fn nt tm k dfs dk rd cs S) := by
  have hm := hf.mode rfl
  cases rd with
  | none =>
    have key : ∀ (k' : List Item), (fr.todo = [] ∨ fr.todo = .code .ret :: k') → StepQ E γ S fr frs w (.next ⟨fn, nt, tm, [], dfs, .ret, false, dk, none⟩ cs S) := fun k' ht => by
      refine Goes.here hf hcs rfl rfl (fun cs => ⟨γ, { fr with mode := .returning }, w, Steps.one (st_ret hm ht (rd_or hf rfl)), ?_, hH, Pres.refl _ _ _⟩)
      exact ⟨hf.fn, hf.nt, hf.tm, fun e => (by cases e), hf.dfs, .ret, hf.kind, hf.rd, hf.fi⟩
    rcases ht with ⟨h1, rfl⟩ | ⟨h1, rfl⟩ | ⟨id, h1, h2, rfl⟩
    · exact key [] (.inl h1)
    · exact key k' (.inr h1)
    · trivial
  | some l =>
    have hrd : ∃ L, fr.roundOf = some L.blk ∧ γ l = some L := by
      have := hf.rd
      simp only at this
      generalize fr.roundOf = q at this
      cases this with
      | some h => exact ⟨_, rfl, h⟩
    obtain ⟨L, hr, hL⟩ := hrd
    unfold sLeave
    simp only
    split
    · rename_i st pend lf ln lt ps a b d h1 h2
      obtain ⟨tmps, D, g1, g2, g3, g4⟩ := hH.loop h1 hL
      obtain ⟨p1, p2⟩ := put_loop (st' := loopJump j) (pend' := j) hH h1 hL h2 g1 g2 g3 g4
      have e : (if j.isNone then LoopState.ready else .done) = loopJump j := by cases j <;> rfl
      have hk : fr.kind = .normal := hf.kind
      refine backA_ok hcs (.bool j.isNone) p1 p2 (fun c cs => Steps.one ?_) (fun e => by rw [hr] at e; cases e)
      have := st_endRound (P := E.P) (c := c) (cs := cs) (jump := j) hm ht hr hk g1
      rw [e] at this
      exact this
    · trivial

theorem IsR.code {γ : Gm} {c : Code} {k : List AI} {l : List Item} (h : IsR γ (.code c :: k) l) : ∃ k', l = .code c :: k' ∧ IsR γ k k' := by
  cases h with
  | cons hx ht => cases hx with | code => exact ⟨_, rfl, ht⟩
/-- only what is to be done has changed -/
theorem to_ok {fn nt : Nat} {tm : Tm} {t k : List AI} {dfs : List AD} {dk : Bool} {rd : Option Ps} {cs : List AF} {k' : List Item}
    (hf : FR γ E ⟨fn, nt, tm, t, dfs, .run, false, dk, rd⟩ fr) (hcs : CsR γ E cs frs) (hH : HR γ E.ng S w) (hk : IsR γ k k') (hs : ∀ cs, step E.P (lone fr cs w) = .next (lone { fr with todo := k' } cs w)) :
    StepQ E γ S fr frs w (.next ⟨fn, nt, tm, k, dfs, .run, false, dk, rd⟩ cs S) :=
  Goes.here hf hcs rfl rfl (fun cs => ⟨γ, { fr with todo := k' }, w, Steps.one (hs cs), hf.to hk, hH, Pres.refl _ _ _⟩)

/-- results -/
theorem res1_ok (hH : HR γ E.ng S w) {tm : Tm} {tmps : Array Value} (ht : TR γ tm tmps) {r : ResultVar} {x : AV} (hE : E.Ok) (h : res1 E S tm r = some x) :
    ∃ v, ((match r with | .tmp t => pure (tmps.getD t undef) | .cell a t => do loadVar t (← asAddr (tmps.getD a undef)) : Sem Value)).run E.P w = .ok v w ∧ VR γ x v := by
  cases r with
  | tmp t => cases h; exact ⟨_, rfl, ht t⟩
  | cell a t =>
    have ha := ht a
    unfold res1 at h
    simp only at h ⊢
    generalize tmps.getD a undef = u at ha
    split at h
    · rename_i b o e
      rw [e] at ha
      obtain ⟨v, h1, h2⟩ := loadA_ok hE hH h ha
      cases ha with
      | ptr o hL =>
        refine ⟨v, ?_, h2⟩
        simp only [Instr.loadAt, Instr.sureAddr, Sem.run_bind, Sem.run_pure, Result.andThen_ok] at h1
        simp only [asAddr, Sem.run_bind, Sem.run_pure, Result.andThen_ok]
        exact h1
    · cases h
theorem resL_ok (hH : HR γ E.ng S w) {tm : Tm} {tmps : Array Value} (ht : TR γ tm tmps) (hE : E.Ok) : ∀ {l : List ResultVar} {xs : List AV}, resL E S tm l = some xs →
    ∃ vs, (l.mapM (fun r => match r with | .tmp t => pure (tmps.getD t undef) | .cell a t => do loadVar t (← asAddr (tmps.getD a undef)) : ResultVar → Sem Value)).run E.P w = .ok vs w ∧ LR γ xs vs
  | [], xs, h => by cases h; exact ⟨[], rfl, .nil⟩
  | r :: l, xs, h => by
    have h' : (Option.rec none (fun x => Option.rec none (fun t => some (x :: t)) (resL E S tm l)) (res1 E S tm r) : Option (List AV)) = some xs := h
    obtain ⟨x, h1, h2⟩ := recb_ok h'
    obtain ⟨t, h3, h4⟩ := recb_ok h2
    cases h4
    obtain ⟨v, g1, g2⟩ := res1_ok hH ht hE h1
    obtain ⟨vs, g3, g4⟩ := resL_ok hH ht hE h3
    refine ⟨v :: vs, ?_, .cons g2 g4⟩
    rw [List.mapM_cons]
    simp only [Sem.run_bind, g1, g3, Result.andThen_ok, Sem.run_pure]
theorem resA_ok (hH : HR γ E.ng S w) {tm : Tm} {tmps : Array Value} (ht : TR γ tm tmps) (hE : E.Ok) {fn : Func} {x : AV} (h : resA E S tm fn.results.toList = some x) :
    ∃ v, (results fn tmps).run E.P w = .ok v w ∧ VR γ x v := by
  unfold resA at h
  have hrun : ∀ {vs : List Value}, (fn.results.toList.mapM (fun r => match r with | .tmp t => pure (tmps.getD t undef) | .cell a t => do loadVar t (← asAddr (tmps.getD a undef)) : ResultVar → Sem Value)).run E.P w = .ok vs w →
      (results fn tmps).run E.P w = .ok (if h : vs.length = 1 then vs[0] else .tuple ⟨vs⟩) w := by
    intro vs hv
    have hm : (fn.results.mapM (fun r => match r with | .tmp t => pure (tmps.getD t undef) | .cell a t => do loadVar t (← asAddr (tmps.getD a undef)) : ResultVar → Sem Value)).run E.P w = .ok ⟨vs⟩ w := by
      rw [← Array.toArray_toList (xs := fn.results), List.mapM_toArray, Sem.run_map, hv]; rfl
    unfold results
    rw [Sem.run_bind]
    refine (congrArg (fun r => Result.andThen r _) hm).trans ?_
    simp only [Result.andThen_ok, Sem.run_pure]
    rfl
  split at h
  · rename_i x' e
    cases h
    obtain ⟨vs, h1, h2⟩ := resL_ok hH ht hE e
    cases h2 with
    | cons hx hn => cases hn with
      | nil => exact ⟨_, hrun h1, hx⟩
  · rename_i l hn e
    cases h
    obtain ⟨vs, h1, h2⟩ := resL_ok hH ht hE e
    refine ⟨_, hrun h1, ?_⟩
    have : vs.length ≠ 1 := fun e1 => by
      have hl := h2.length
      rw [e1] at hl
      cases l with
      | nil => cases hl
      | cons a l => cases l with
        | nil => exact hn a rfl
        | cons b l => simp at hl
    rw [dif_neg this]
    exact .tup h2
  · cases h
end
end Go.AM

/-! A25: The steps of the abstract machine, all. -/
namespace Go.AM

section
variable {E : Env} (hE : E.Ok) {γ : Gm} {S : Hp} {fr : Frame} {frs : List Frame} {w : World}

theorem enterA_fi {f : Nat} {args : List AV} {dk : Bool} {f' : AF} (h : enterA E f args dk = some f') : ∃ i, T.get (Ps.of f) E.funcs = some (some i) := by
  unfold enterA at h
  split at h
  · rename_i i hi; exact ⟨i, hi⟩
  · cases h
include hE in
theorem invoke_run {g : Nat} {i : FI} (hi : T.get (Ps.of g) E.funcs = some (some i)) {first cap args : Array Value} (w : World) :
    (do let d ← Deferred.ofValue (.func (.func g) first cap) args; invoke d.target d.args : Sem Next).run E.P w = .ok (.enter g (first ++ args ++ cap)) w := by
  obtain ⟨fn, g1, g2, g3, g4, g5⟩ := hE.funcs g i hi
  simp only [Deferred.ofValue, Sem.run_bind, Sem.run_pure, Result.andThen_ok, invoke, callFunc, Go.program, Sem.run, g1]
  simp [g5, g2]
include hE in
theorem callFunc_run {g : Nat} {i : FI} (hi : T.get (Ps.of g) E.funcs = some (some i)) (args : Array Value) (w : World) : (callFunc g args).run E.P w = .ok (.enter g args) w := by
  obtain ⟨fn, g1, g2, g3, g4, g5⟩ := hE.funcs g i hi
  simp only [Sem.run_bind, Result.andThen_ok, callFunc, Go.program, Sem.run, g1]
  simp [g5, g2]

include hE in
theorem sRF_ok {f : Operand} {ps : Array Tmp} {a b : Code} {fn nt : Nat} {tm : Tm} {t k : List AI} {dfs : List AD} {dk : Bool} {rd : Option Ps} {cs : List AF} {k' : List Item}
    (hf : FR γ E ⟨fn, nt, tm, t, dfs, .run, false, dk, rd⟩ fr) (hcs : CsR γ E cs frs) (hH : HR γ E.ng S w) (ht : fr.todo = .code (.rangeFunc f ps a b) :: k') (hk : IsR γ k k') :
    StepQ E γ S fr frs w (sRF f ps a b E fn nt tm k dfs dk rd cs S) := by
  have hm := hf.mode rfl
  have hT := hf.tm rfl
  unfold sRF
  split
  · rename_i g first cap hev
    have hv := evX_ok (fr := fr) hT hH.glob hev
    generalize hfe : fr.eval f = fv at hv
    cases hv with
    | @fn _ _ first' cap' _ hfi hca =>
      cases rd with
      | none =>
        simp only
        cases hen : enterA E g (lapp (lapp first [.yl (S.alloc (.dfr false)).nx]) cap) false with
        | none => trivial
        | some f' =>
          obtain ⟨i, hi⟩ := enterA_fi hen
          obtain ⟨hH1, hP1⟩ := hH.alloc (w' := { w with heap := w.heap.push (.deferred (some [])) }) (o := .dfr false) (ob := .deferred (some [])) (siz := 0) rfl rfl rfl rfl
          obtain ⟨hH2, hP2⟩ := hH1.alloc (w' := { w with heap := (w.heap.push (.deferred (some []))).push (.loop { state := .ready, pending := none, fn := fr.fn, tmps := fr.tmps, params := ps, assign := a, body := b, defers := w.heap.size }) })
            (o := .loop .ready none fn nt tm ps.toList a b S.nx) (ob := .loop { state := .ready, pending := none, fn := fr.fn, tmps := fr.tmps, params := ps, assign := a, body := b, defers := w.heap.size }) (siz := 0) rfl rfl rfl
            ⟨fr.tmps, ⟨w.heap.size, 0, 0⟩, by rw [hf.fn], (hT.mono (hP1.ext)).mono (Gm.le_with hH1.nx_none), by
              rw [Gm.with_ne _ _ (fun e => by have := congrArg Ps.idx e; rw [show (S.alloc (.dfr false)).nx = Ps.succ S.nx from rfl, Ps.idx_succ] at this; omega)]; exact Gm.with_same _ _ _, hf.nt⟩
          have hP := hP1.trans hP2
          rw [← hen]
          refine pushA_ok hE (dk := false) (c' := { fr with todo := .inRangeFunc (w.heap.size + 1) :: k', defers := { target := .collected w.heap.size, args := #[] } :: fr.defers }) rfl
            (args' := first' ++ [.func (.yield (w.heap.size + 1)) #[] #[]] ++ cap') (((hfi.mono hP.ext).lapp (.cons (.yl (L := ⟨w.heap.size + 1, 0, 0⟩) ?_) .nil)).lapp (hca.mono hP.ext)) ?_ hcs hH2 hP (fun cs => Steps.one ?_) rfl rfl
          · rw [Gm.with_same]; simp
          · refine ⟨hf.fn, hf.nt, fun _ => hT.mono hP.ext, fun _ => .cons (.inRF (L := ⟨w.heap.size + 1, 0, 0⟩) ?_) (hk.mono hP.ext), .cons (.mark (L := ⟨w.heap.size, 0, 0⟩) ?_) (hf.dfs.mono hP.ext), hf.md.mono hP.ext, hf.kind, ?_, hf.fi⟩
            · rw [Gm.with_same]; simp
            · exact hP2.ext _ _ (Gm.with_same _ _ _)
            · exact hf.rd.mono hP.ext
          · have hr := rd_or hf rfl
            refine st_rangeFunc (mark := [{ target := .collected w.heap.size, args := #[] }]) (w1 := { w with heap := (w.heap.push (.deferred (some []))).push (.loop { state := .ready, pending := none, fn := fr.fn, tmps := fr.tmps, params := ps, assign := a, body := b, defers := w.heap.size }) }) hm ht ?_ ?_
            · rw [hr]
              simp only [Instr.enterLoop, Sem.run_bind, run_newObj, Result.andThen_ok, Sem.run_pure]
              simp
            · rw [hfe, invoke_run hE hi]
              simp
      | some l =>
        simp only
        split
        · rename_i st pend lf ln lt lps la lb d hl
          cases hen : enterA E g (lapp (lapp first [.yl S.nx]) cap) false with
          | none => trivial
          | some f' =>
            obtain ⟨i, hi⟩ := enterA_fi hen
            have hrd : ∃ L, fr.roundOf = some L.blk ∧ γ l = some L := by
              have := hf.rd
              simp only at this
              generalize fr.roundOf = q at this
              cases this with
              | some h => exact ⟨_, rfl, h⟩
            obtain ⟨L, hr, hL⟩ := hrd
            obtain ⟨tmps, D, g1, g2, g3, g4⟩ := hH.loop hl hL
            obtain ⟨hH2, hP⟩ := hH.alloc (w' := { w with heap := w.heap.push (.loop { state := .ready, pending := none, fn := fr.fn, tmps := fr.tmps, params := ps, assign := a, body := b, defers := D.blk }) })
              (o := .loop .ready none fn nt tm ps.toList a b d) (ob := .loop { state := .ready, pending := none, fn := fr.fn, tmps := fr.tmps, params := ps, assign := a, body := b, defers := D.blk }) (siz := 0) rfl rfl rfl
              ⟨fr.tmps, D, by rw [hf.fn], hT.mono (Gm.le_with hH.nx_none), Gm.le_with hH.nx_none _ _ g3, hf.nt⟩
            rw [← hen]
            refine pushA_ok hE (dk := false) (c' := { fr with todo := .inRangeFunc w.heap.size :: k' }) rfl
              (args' := first' ++ [.func (.yield w.heap.size) #[] #[]] ++ cap') (((hfi.mono hP.ext).lapp (.cons (.yl (L := ⟨w.heap.size, 0, 0⟩) (Gm.with_same _ _ _)) .nil)).lapp (hca.mono hP.ext)) ?_ hcs hH2 hP (fun cs => Steps.one ?_) rfl rfl
            · exact ⟨hf.fn, hf.nt, fun _ => hT.mono hP.ext, fun _ => .cons (.inRF (L := ⟨w.heap.size, 0, 0⟩) (Gm.with_same _ _ _)) (hk.mono hP.ext), hf.dfs.mono hP.ext, hf.md.mono hP.ext, hf.kind, hf.rd.mono hP.ext, hf.fi⟩
            · refine st_rangeFunc (mark := []) (w1 := { w with heap := w.heap.push (.loop { state := .ready, pending := none, fn := fr.fn, tmps := fr.tmps, params := ps, assign := a, body := b, defers := D.blk }) }) hm ht ?_ ?_
              · rw [hr]
                simp only [Instr.enterLoop, Instr.getLoop, Sem.run_bind, run_getObj g1 (fun _ _ _ e => by cases e), run_newObj, Result.andThen_ok, Sem.run_pure]
              · rw [hfe, invoke_run hE hi]
                simp
        · trivial
  · trivial

theorem sEndRF_ok {l : Ps} {fn nt : Nat} {tm : Tm} {t k : List AI} {dfs : List AD} {dk : Bool} {rd : Option Ps} {cs : List AF} {k' : List Item} {L : Loc}
    (hf : FR γ E ⟨fn, nt, tm, t, dfs, .run, false, dk, rd⟩ fr) (hcs : CsR γ E cs frs) (hH : HR γ E.ng S w) (ht : fr.todo = .endRangeFunc L.blk :: k') (hL : γ l = some L) (hk : IsR γ k k') :
    StepQ E γ S fr frs w (sEndRF l E fn nt tm k dfs dk rd cs S) := by
  have hm := hf.mode rfl
  unfold sEndRF
  split
  · rename_i st pend lf ln lt ps a b d h1 h2
    obtain ⟨tmps, D, g1, g2, g3, g4⟩ := hH.loop h1 hL
    obtain ⟨p1, p2⟩ := put_loop (st' := .exhausted) (pend' := pend) hH h1 hL h2 g1 g2 g3 g4
    split
    · trivial
    · rename_i hb
      refine Goes.here hf hcs rfl rfl (fun cs => ⟨γ, { fr with todo := (pend.map Item.code).toList ++ k' }, _, Steps.one (st_endLoop hm ht g1 hb), ?_, p1, p2⟩)
      refine hf.to ?_
      cases pend with
      | none => exact hk
      | some c => exact .cons (.code c) hk
  · trivial
theorem sBeg_ok {fn nt : Nat} {tm : Tm} {t k : List AI} {dfs : List AD} {dk : Bool} {rd : Option Ps} {cs : List AF} {k' : List Item}
    (hf : FR γ E ⟨fn, nt, tm, t, dfs, .run, false, dk, rd⟩ fr) (hcs : CsR γ E cs frs) (hH : HR γ E.ng S w) (ht : fr.todo = .beginRound :: k') (hk : IsR γ k k') :
    StepQ E γ S fr frs w (sBeg E fn nt tm k dfs dk rd cs S) := by
  have hm := hf.mode rfl
  unfold sBeg
  cases rd with
  | none => trivial
  | some l =>
    have hrd : ∃ L, fr.roundOf = some L.blk ∧ γ l = some L := by
      have := hf.rd
      simp only at this
      generalize fr.roundOf = q at this
      cases this with
      | some h => exact ⟨_, rfl, h⟩
    obtain ⟨L, hr, hL⟩ := hrd
    simp only
    split
    · rename_i pend lf ln lt ps a b d h1 h2
      obtain ⟨tmps, D, g1, g2, g3, g4⟩ := hH.loop h1 hL
      obtain ⟨p1, p2⟩ := put_loop (st' := .busy) (pend' := pend) hH h1 hL h2 g1 g2 g3 g4
      exact Goes.here hf hcs rfl rfl (fun cs => ⟨γ, { fr with todo := k' }, _, Steps.one (st_begin hm ht hr g1 rfl), hf.to hk, p1, p2⟩)
    · trivial
end
end Go.AM

/-! A26: The steps of the abstract machine: frames that end; the step itself; runs. -/
namespace Go.AM

section
variable {E : Env} (hE : E.Ok) {γ : Gm} {S : Hp} {fr : Frame} {frs : List Frame} {w : World}

theorem MR.not_run {m : AMd} {m' : FrameMode} (h : MR γ m m') (hn : m ≠ .run) : m' = .returning ∨ ∃ c, m' = .panicking c := by
  cases h with
  | run => exact absurd rfl hn
  | ret => exact .inl rfl
  | pan r h => exact .inr ⟨_, rfl⟩

include hE in
theorem sDefers_ok {fn nt : Nat} {tm : Tm} {todo : List AI} {dfs : List AD} {md : AMd} {lost dk : Bool} {rd : Option Ps} {cs : List AF} {last : SR}
    (hf : FR γ E ⟨fn, nt, tm, todo, dfs, md, lost, dk, rd⟩ fr) (hn : md ≠ .run) (hcs : CsR γ E cs frs) (hH : HR γ E.ng S w) (hl : dfs = [] → fr.defers = [] → StepQ E γ S fr frs w last) :
    StepQ E γ S fr frs w (sDefers E fn nt tm todo dfs md lost dk rd cs S last) := by
  have hd := hf.dfs
  have hmd := hf.md.not_run hn
  simp only at hd
  unfold sDefers
  generalize hfd : fr.defers = fd at hd
  cases hd with
  | nil => exact hl rfl hfd
  | @cons x y l l' hx htl =>
    cases hx with
    | @mark b L hL =>
      simp only
      split
      · rename_i h1 h2
        obtain ⟨M, ob, g1, g2, g3⟩ := hH.obj b _ h1
        rw [hL] at g1; cases g1
        have g3' : ob = .deferred (some []) := g3
        subst g3'
        have hlt : L.blk < w.heap.size := (Array.getElem?_eq_some_iff.1 g2).1
        obtain ⟨p1, p2⟩ := hH.put (w' := { w with heap := w.heap.setIfInBounds L.blk (.deferred none) }) (o' := .dfr true) (ob' := .deferred none) h1 hL (Nat.le_of_ble_eq_true h2) (by simp)
          (fun r hr => by
            show (w.heap.setIfInBounds L.blk _)[r]? = _
            rw [Array.getElem?_setIfInBounds_ne (fun e => hr e.symm)])
          (by
            show (w.heap.setIfInBounds L.blk _)[L.blk]? = _
            rw [Array.getElem?_setIfInBounds_self_of_lt hlt]) rfl rfl rfl
        refine Goes.here hf hcs rfl rfl (fun cs => ⟨γ, { fr with defers := l' }, _, Steps.one (st_take hmd hfd g2), ?_, p1, p2⟩)
        exact ⟨hf.fn, hf.nt, hf.tm, fun e => absurd e hn, htl, hf.md, hf.kind, hf.rd, hf.fi⟩
      · trivial
    | @call a c a' c' f ha hc =>
      simp only
      cases hen : enterA E f (lapp a c) true with
      | none => trivial
      | some f' =>
        obtain ⟨i, hi⟩ := enterA_fi hen
        rw [← hen]
        refine pushA_ok hE (dk := true) (c' := { fr with defers := l' }) rfl (args' := a' ++ c') (ha.lapp hc) ?_ hcs hH (Pres.refl _ _ _) (fun cs => Steps.one ?_) rfl rfl
        · exact ⟨hf.fn, hf.nt, hf.tm, fun e => absurd e hn, htl, hf.md, hf.kind, hf.rd, hf.fi⟩
        · have := st_deferred (P := E.P) (fr := fr) (cs := cs) (w := w) hmd hfd (fun w => callFunc_run hE hi _ w)
          simpa using this

include hE in
theorem sReturn_ok {fn nt : Nat} {tm : Tm} {todo : List AI} {lost dk : Bool} {rd : Option Ps} {cs : List AF}
    (hf : FR γ E ⟨fn, nt, tm, todo, [], .ret, lost, dk, rd⟩ fr) (hcs : CsR γ E cs frs) (hH : HR γ E.ng S w) (hd : fr.defers = []) : StepQ E γ S fr frs w (sReturn E fn tm lost dk cs S) := by
  unfold sReturn
  split
  · rename_i i hi
    cases lost with
    | true => trivial
    | false =>
      simp only
      cases hv : resA E S tm i.res with
      | none => trivial
      | some v =>
        obtain ⟨fu, g1, g2, g3, g4, g5⟩ := hE.funcs fn i hi
        rw [← g4] at hv
        obtain ⟨v', r1, r2⟩ := resA_ok hH (hf.tm rfl) hE hv
        have hfu : E.P.funcs[fr.fn]? = some fu := by rw [hf.fn]; exact g1
        have hm : fr.mode = .returning := by
          have := hf.md
          simp only at this
          generalize fr.mode = m at this
          cases this; rfl
        cases dk with
        | false =>
          have hk : fr.kind = .normal := hf.kind
          exact backA_ok hcs r2 hH (Pres.refl _ _ _) (fun c cs => Steps.one (st_return hm hd hfu hk r1)) (fun _ bot => ⟨fr, fu, Steps.refl _ _, hm, hd, hk, rfl, hfu, r1⟩)
        | true =>
          have hk : fr.kind = .deferred := hf.kind
          cases hcs with
          | nil => trivial
          | @cons x y l l' hx ht =>
            obtain ⟨xfn, xnt, xtm, xtodo, xdfs, xmd, xlost, xdk, xrd⟩ := x
            have hst := fun cs => st_returnD (P := E.P) (c := y) (cs := cs) hm hd hfu hk r1
            have hmd := hx.md
            simp only at hmd
            have same : (∀ cs, step E.P (lone fr (y :: cs) w) = .next (lone y cs w)) → StepQ E γ S fr (y :: l') w (.next ⟨xfn, xnt, xtm, xtodo, xdfs, xmd, xlost, xdk, xrd⟩ l S) := fun hs bot =>
              ⟨γ, y, l', w, Steps.one (hs (l' ++ bot)), hx, ht, hH, Pres.refl _ _ _, rfl⟩
            cases xmd with
            | run =>
              refine same (fun cs => ?_)
              rw [hst]
              have : y.mode = .run := hx.mode rfl
              rw [this]
            | ret =>
              refine same (fun cs => ?_)
              rw [hst]
              generalize y.mode = m at hmd
              cases hmd; rfl
            | pan u r =>
              generalize hym : y.mode = m at hmd
              cases hmd with
              | @pan _ u' _ hu =>
                cases r with
                | false =>
                  refine same (fun cs => ?_)
                  rw [hst, hym]
                | true =>
                  intro bot
                  refine ⟨γ, { y with mode := .returning }, l', w, Steps.one ?_, ⟨hx.fn, hx.nt, hx.tm, fun e => (by cases e), hx.dfs, .ret, hx.kind, hx.rd, hx.fi⟩, ht, hH, Pres.refl _ _ _, ?_⟩
                  · show step E.P (lone fr (y :: (l' ++ bot)) w) = _
                    rw [hst, hym]
                    rfl
                  · show lastF { y with mode := .returning } l' = lastF y l'
                    exact lastF_eq (fr := y) (fr' := { y with mode := .returning }) rfl rfl l'
  · trivial

include hE in
theorem sRaise_ok {fn nt : Nat} {tm : Tm} {todo : List AI} {lost dk : Bool} {rd : Option Ps} {cs : List AF} {v : AV}
    (hf : FR γ E ⟨fn, nt, tm, todo, [], .pan v false, lost, dk, rd⟩ fr) (hcs : CsR γ E cs frs) (hH : HR γ E.ng S w) (hd : fr.defers = []) : StepQ E γ S fr frs w (sRaise v cs S) := by
  obtain ⟨i, hi⟩ := hf.fi
  obtain ⟨fu, g1, _⟩ := hE.funcs fn i hi
  have hfu : E.P.funcs[fr.fn]? = some fu := by rw [hf.fn]; exact g1
  have hmd := hf.md
  simp only at hmd
  generalize hfm : fr.mode = m at hmd
  cases hmd with
  | @pan _ v' _ hv =>
    unfold sRaise
    cases hcs with
    | nil => exact ⟨rfl, fun c bot => ⟨γ, v', w, Steps.one (st_raise hfm hd hfu), hv, hH, Pres.refl _ _ _⟩⟩
    | @cons x y l l' hx ht =>
      obtain ⟨xfn, xnt, xtm, xtodo, xdfs, xmd, xlost, xdk, xrd⟩ := x
      cases xmd with
      | ret => trivial
      | pan _ _ => trivial
      | run =>
        have hym : y.mode = .run := hx.mode rfl
        have hr : y.raise [{ v := v', recovered := false }] = { y with mode := .panicking [{ v := v', recovered := false }] } := by simp [Frame.raise, hym]
        intro bot
        refine ⟨γ, { y with mode := .panicking [{ v := v', recovered := false }] }, l', w, Steps.one ?_, ⟨hx.fn, hx.nt, hx.tm, fun e => (by cases e), hx.dfs, .pan false hv, hx.kind, hx.rd, hx.fi⟩, ht, hH, Pres.refl _ _ _, ?_⟩
        · show step E.P (lone fr (y :: (l' ++ bot)) w) = _
          rw [st_raise hfm hd hfu, hr]
        · show lastF { y with mode := .panicking _ } l' = lastF y l'
          exact lastF_eq (fr := y) (fr' := { y with mode := .panicking _ }) rfl rfl l'
end
end Go.AM

/-! A27: The step of the abstract machine; runs. -/
namespace Go.AM

/-- what is asked of the way in which drawn regions are done -/
def DrawOk (D : DrawF) (E : Env) : Prop :=
  ∀ (id : Nat) (ops : Array Oper) (fn nt : Nat) (tm : Tm) (t k : List AI) (dfs : List AD) (dk : Bool) (rd : Option Ps) (cs : List AF) (S : Hp) (γ : Gm) (fr : Frame) (frs : List Frame) (w : World) (k' : List Item),
    FR γ E ⟨fn, nt, tm, t, dfs, .run, false, dk, rd⟩ fr → CsR γ E cs frs → HR γ E.ng S w → fr.todo = .code (.region id ops true) :: k' → IsR γ k k' →
    StepQ E γ S fr frs w (sRegion D id ops true E fn nt tm k dfs dk rd cs S)

section
variable {E : Env} (hE : E.Ok) {γ : Gm} {S : Hp} {fr : Frame} {frs : List Frame} {w : World}

include hE in
theorem sReg_ok {ops : Array Oper} {i : Nat} {rest : List Oper} {fn nt : Nat} {tm : Tm} {k : List AI} {dfs : List AD} {dk : Bool} {rd : Option Ps} {cs : List AF}
    (hf : FR γ E ⟨fn, nt, tm, .reg ops i rest :: k, dfs, .run, false, dk, rd⟩ fr) (hcs : CsR γ E cs frs) (hH : HR γ E.ng S w) : StepQ E γ S fr frs w (sReg ops i rest E fn nt tm k dfs dk rd cs S) := by
  unfold sReg
  rcases runOps_ok hE rest i tm S γ fr w hf hH with h | ⟨γ', fr', w', h1, h2⟩
  · rw [h]; trivial
  · have e : Gm.le γ γ' ∧ fr'.fn = fr.fn ∧ fr'.roundOf = fr.roundOf := by
      clear h1
      generalize runOps E nt ops rest i tm S = rs at h2
      cases h2 with
      | done hf2 _ hP => exact ⟨hP.ext, by rw [hf2.fn, hf.fn], RdR.eq hP.ext hf.rd hf2.rd⟩
      | stop hf2 _ hP _ _ _ => exact ⟨hP.ext, by rw [hf2.fn, hf.fn], RdR.eq hP.ext hf.rd hf2.rd⟩
    obtain ⟨S₁, h3, h4⟩ := afterOps_ok hE (tm0 := tm) h2 (hcs.mono e.1)
    exact StepQ.ahead h1 h3 e.2.1 e.2.2 h4

variable {D : DrawF} (hD : DrawOk D E)
include hE hD
theorem sCode_ok {c : Code} {fn nt : Nat} {tm : Tm} {k : List AI} {dfs : List AD} {dk : Bool} {rd : Option Ps} {cs : List AF}
    (hf : FR γ E ⟨fn, nt, tm, .code c :: k, dfs, .run, false, dk, rd⟩ fr) (hcs : CsR γ E cs frs) (hH : HR γ E.ng S w) : StepQ E γ S fr frs w (sCode D c E fn nt tm k dfs dk rd cs S) := by
  have hm := hf.mode rfl
  obtain ⟨k', ht, hk⟩ := IsR.code (hf.todo rfl)
  cases c with
  | skip => exact to_ok hf hcs hH hk (fun cs => st_skip hm ht)
  | label l => exact to_ok hf hcs hH hk (fun cs => st_label hm ht)
  | seq a b => exact to_ok hf hcs hH (.cons (.code a) (.cons (.code b) hk)) (fun cs => st_seq hm ht)
  | block id b => exact to_ok hf hcs hH (.cons (.code b) (.cons (.blk id) hk)) (fun cs => st_block hm ht)
  | loop b => exact to_ok hf hcs hH (.cons (.code b) (.cons (.lop b) hk)) (fun cs => st_loop hm ht)
  | scope b => exact to_ok hf hcs hH (.cons (.code b) (.cons (.scp b) hk)) (fun cs => st_scope hm ht)
  | cond c a b =>
    show StepQ E γ S fr frs w (sCond c a b E fn nt tm k dfs dk rd cs S)
    rw [sCond_eq]
    split
    · rename_i t he
      have hv := evX_ok (fr := fr) (hf.tm rfl) hH.glob he
      generalize hu : fr.eval c = u at hv
      cases hv
      refine to_ok hf hcs hH (.cons ?_ hk) (fun cs => st_cond hm ht hu)
      cases t
      · exact .code b
      · exact .code a
    · trivial
  | exit id =>
    show StepQ E γ S fr frs w (sExit id E fn nt tm k dfs dk rd cs S)
    unfold sExit
    cases he : exitA id k with
    | none => exact sLeave_ok hf hcs hH (.inr (.inr ⟨id, ht, (exitA_ok hk).2 he, rfl⟩))
    | some k2 =>
      obtain ⟨k3, h1, h2⟩ := (exitA_ok hk).1 k2 he
      exact to_ok hf hcs hH h2 (fun cs => st_exit hm ht h1)
  | ret => exact sLeave_ok (k := k) hf hcs hH (.inr (.inl ⟨ht, rfl⟩))
  | goto l => trivial
  | refuse s => trivial
  | rangeFunc f ps a b => exact sRF_ok hE hf hcs hH ht hk
  | region id ops draw =>
    cases draw with
    | true => exact hD id ops fn nt tm _ k dfs dk rd cs S γ fr frs w k' hf hcs hH ht hk
    | false =>
      have hf2 : FR γ E ⟨fn, nt, tm, .reg ops 0 ops.toList :: k, dfs, .run, false, dk, rd⟩ { fr with todo := .inRegion ops (List.range ops.size) :: k' } := by
        have : IsR γ (.reg ops 0 ops.toList :: k) (.inRegion ops (List.range ops.size) :: k') := by
          rw [List.range_eq_range', ← Array.length_toList]
          exact .cons (.reg rfl) hk
        exact hf.to this
      exact StepQ.ahead (fun cs => Steps.one (st_region hm ht)) (Pres.refl S γ w) rfl rfl (sReg_ok hE hf2 hcs hH)
theorem sRun_ok {todo : List AI} {fn nt : Nat} {tm : Tm} {dfs : List AD} {dk : Bool} {rd : Option Ps} {cs : List AF}
    (hf : FR γ E ⟨fn, nt, tm, todo, dfs, .run, false, dk, rd⟩ fr) (hcs : CsR γ E cs frs) (hH : HR γ E.ng S w) : StepQ E γ S fr frs w (sRun D todo E fn nt tm dfs dk rd cs S) := by
  have hm := hf.mode rfl
  have hto := hf.todo rfl
  simp only at hto
  generalize hft : fr.todo = ft at hto
  cases hto with
  | nil => exact sLeave_ok (k := []) (k' := []) hf hcs hH (.inl ⟨hft, rfl⟩)
  | @cons x y l l' hx ht =>
    cases hx with
    | code c => exact sCode_ok hE hD hf hcs hH
    | blk id => exact to_ok hf hcs hH ht (fun cs => st_inBlock hm hft)
    | lop c => exact to_ok hf hcs hH (.cons (.code c) (.cons (.lop c) ht)) (fun cs => st_inLoop hm hft)
    | scp c => exact to_ok hf hcs hH ht (fun cs => st_inScope hm hft)
    | reg h => exact sReg_ok hE hf hcs hH
    | inRF h => trivial
    | endRF h => exact sEndRF_ok hf hcs hH hft h ht
    | beg => exact sBeg_ok hf hcs hH hft ht
theorem stepA_ok {f : AF} {cs : List AF} (hf : FR γ E f fr) (hcs : CsR γ E cs frs) (hH : HR γ E.ng S w) : StepQ E γ S fr frs w (stepA D E f cs S) := by
  obtain ⟨fn, nt, tm, todo, dfs, md, lost, dk, rd⟩ := f
  rw [stepA_eq]; unfold stepA0
  cases md with
  | run =>
    cases lost with
    | true => trivial
    | false => exact sRun_ok hE hD hf hcs hH
  | ret => exact sDefers_ok hE hf (fun e => by cases e) hcs hH (fun e hd => by subst e; exact sReturn_ok hE hf hcs hH hd)
  | pan v r =>
    refine sDefers_ok hE hf (fun e => by cases e) hcs hH (fun e hd => ?_)
    subst e
    cases r with
    | true => trivial
    | false => exact sRaise_ok hE hf hcs hH hd

def RunQ (E : Env) (γ : Gm) (S : Hp) (fr : Frame) (frs : List Frame) (w : World) : SR → Prop
  | .next f cs S' => Goes E γ S fr frs w f cs S'
  | .fin v S' => ((lastF fr frs).2 = none → ∀ bot, ∃ γ' v' fr' w' fn, Steps E.P (lone fr (frs ++ bot) w) (lone fr' bot w') ∧ fr'.mode = .returning ∧ fr'.defers = [] ∧ fr'.kind = .normal ∧ fr'.fn = (lastF fr frs).1 ∧ E.P.funcs[fr'.fn]? = some fn ∧
      (results fn fr'.tmps).run E.P w' = .ok v' w' ∧ VR γ' v v' ∧ HR γ' E.ng S' w' ∧ Pres S γ w S' γ' w') ∧
      (∀ c bot, ∃ γ' v' w', Steps E.P (lone fr (frs ++ c :: bot) w) (lone (c.finish v') bot w') ∧ VR γ' v v' ∧ HR γ' E.ng S' w' ∧ Pres S γ w S' γ' w')
  | .finP v S' => ∀ c bot, ∃ γ' v' w', Steps E.P (lone fr (frs ++ c :: bot) w) (lone (c.raise [{ v := v', recovered := false }]) bot w') ∧ VR γ' v v' ∧ HR γ' E.ng S' w' ∧ Pres S γ w S' γ' w'
  | .bad => True
omit hE hD in
theorem StepQ.run {r : SR} (h : StepQ E γ S fr frs w r) : RunQ E γ S fr frs w r := by
  cases r with
  | next f cs S' => exact h
  | fin v S' => obtain ⟨rfl, h1, h2⟩ := h; exact ⟨h1, h2⟩
  | finP v S' => obtain ⟨rfl, h2⟩ := h; exact h2
  | bad => trivial
omit hE hD in
theorem RunQ.after {f : AF} {cs : List AF} {S1 : Hp} {r : SR} (h : Goes E γ S fr frs w f cs S1)
    (k : ∀ {γ' : Gm} {fr' : Frame} {frs' : List Frame} {w' : World}, FR γ' E f fr' → CsR γ' E cs frs' → HR γ' E.ng S1 w' → RunQ E γ' S1 fr' frs' w' r) : RunQ E γ S fr frs w r := by
  cases r with
  | next f cs S2 =>
    intro bot
    obtain ⟨γ1, fr1, frs1, w1, h1, h2, h3, h4, h5, h6⟩ := h bot
    obtain ⟨γ2, fr2, frs2, w2, g1, g2, g3, g4, g5, g6⟩ := k h2 h3 h4 bot
    exact ⟨γ2, fr2, frs2, w2, Steps.trans h1 g1, g2, g3, g4, h5.trans g5, g6.trans h6⟩
  | fin v S' =>
    refine ⟨fun hr bot => ?_, fun c bot => ?_⟩
    · obtain ⟨γ1, fr1, frs1, w1, h1, h2, h3, h4, h5, h6⟩ := h bot
      obtain ⟨γ2, v', fr', w', fn, g1, g2, g3, g4, g5, g6, g7, g8, g9, g10⟩ := (k h2 h3 h4).1 (by rw [h6]; exact hr) bot
      exact ⟨γ2, v', fr', w', fn, Steps.trans h1 g1, g2, g3, g4, by rw [g5, h6], g6, g7, g8, g9, h5.trans g10⟩
    · obtain ⟨γ1, fr1, frs1, w1, h1, h2, h3, h4, h5, h6⟩ := h (c :: bot)
      obtain ⟨γ2, v', w', g1, g2, g3, g4⟩ := (k h2 h3 h4).2 c bot
      exact ⟨γ2, v', w', Steps.trans h1 g1, g2, g3, h5.trans g4⟩
  | finP v S' =>
    intro c bot
    obtain ⟨γ1, fr1, frs1, w1, h1, h2, h3, h4, h5, h6⟩ := h (c :: bot)
    obtain ⟨γ2, v', w', g1, g2, g3, g4⟩ := k h2 h3 h4 c bot
    exact ⟨γ2, v', w', Steps.trans h1 g1, g2, g3, h5.trans g4⟩
  | bad => trivial
theorem runA_ok (n : Nat) : ∀ {f : AF} {cs : List AF} {S : Hp} {γ : Gm} {fr : Frame} {frs : List Frame} {w : World}, FR γ E f fr → CsR γ E cs frs → HR γ E.ng S w → RunQ E γ S fr frs w (runA D E n f cs S) := by
  induction n with
  | zero =>
    intro f cs S γ fr frs w hf hcs hH bot
    exact ⟨γ, fr, frs, w, Steps.refl _ _, hf, hcs, hH, Pres.refl _ _ _, rfl⟩
  | succ n ih =>
    intro f cs S γ fr frs w hf hcs hH
    have h1 := stepA_ok hE hD hf hcs hH
    have e : runA D E (n + 1) f cs S = SR.rec (runA D E n) .fin .finP .bad (stepA D E f cs S) := rfl
    rw [e]
    generalize stepA D E f cs S = r at h1
    cases r with
    | next f' cs' S' => exact RunQ.after h1 (fun a b c => ih a b c)
    | fin v S' => exact h1.run
    | finP v S' => exact h1.run
    | bad => trivial
end
end Go.AM

/-! A28: An operation looks only at its operands. -/
namespace Go.AM

theorem evXs_congr {ng : Nat} {tm tm' : Tm} : ∀ {l : List Operand}, (∀ x ∈ l, evX ng tm x = evX ng tm' x) → evXs ng tm l = evXs ng tm' l
  | [], _ => rfl
  | x :: l, h => by
    show (Option.rec none (fun y => Option.rec none (fun t => some (y :: t)) (evXs ng tm l)) (evX ng tm x) : Option (List AV)) = _
    rw [h x (by simp), evXs_congr (l := l) (fun y hy => h y (by simp [hy]))]
    rfl
theorem evPs_congr {ng : Nat} {tm tm' : Tm} : ∀ {l : List (Nat × Operand)}, (∀ x ∈ l.map (·.2), evX ng tm x = evX ng tm' x) → evPs ng tm l = evPs ng tm' l
  | [], _ => rfl
  | x :: l, h => by
    show (Option.rec none (fun y => Option.rec none (fun t => some ((x.1, y) :: t)) (evPs ng tm l)) (evX ng tm x.2) : Option (List (Nat × AV))) = _
    rw [h x.2 (by simp), evPs_congr (l := l) (fun y hy => h y (by simp at hy ⊢; exact .inr hy))]
    rfl
theorem evO_congr {ng : Nat} {tm tm' : Tm} {o : Option Operand} (h : ∀ x ∈ o, evX ng tm x = evX ng tm' x) : evO ng tm o = evO ng tm' o := by
  cases o with
  | none => rfl
  | some x => unfold evO; simp only [h x rfl]
theorem evOp_congr {E : Env} {tm tm' : Tm} {S : Hp} {ty : Nat} {op : Op} (h : ∀ x ∈ op.operands, evX E.ng tm x = evX E.ng tm' x) : evOp op E tm S ty = evOp op E tm' S ty := by
  cases op <;> simp only [Op.operands] at h <;> first
    | rfl
    | (simp only [evOp, oMove, oPick, oBox, oLoad, oStore, oNil, oBin, oUn, oConv, oIfc, oMakeS, oFaddr, oField, oIaddr, oIndex, oLook, oMapU, oExt, oTas, oPanic] <;> (simp_all; done))
    | skip
  case build t ps =>
    have h1 : evPs E.ng tm ps.toList = evPs E.ng tm' ps.toList := evPs_congr (fun x hx => h x (by simpa using hx))
    simp only [evOp, oBuild, h1]
  case buildSlice t n ps =>
    have h1 : evPs E.ng tm ps.toList = evPs E.ng tm' ps.toList := evPs_congr (fun x hx => h x (by simpa using hx))
    simp only [evOp, oBuildS, h1]
  case makeFunc fn first cap =>
    have h1 : evXs E.ng tm first.toList = evXs E.ng tm' first.toList := evXs_congr (fun x hx => h x (by simp at hx ⊢; exact .inl hx))
    have h2 : evXs E.ng tm cap.toList = evXs E.ng tm' cap.toList := evXs_congr (fun x hx => h x (by simp at hx ⊢; exact .inr hx))
    simp only [evOp, oFunc, h1, h2]
  case slice t x lo hi mx =>
    have h1 := h x (by simp)
    have h2 : evO E.ng tm lo = evO E.ng tm' lo := evO_congr (fun y hy => h y (by simp at hy; simp [hy]))
    have h3 : evO E.ng tm hi = evO E.ng tm' hi := evO_congr (fun y hy => h y (by simp at hy; simp [hy]))
    have h4 : evO E.ng tm mx = evO E.ng tm' mx := evO_congr (fun y hy => h y (by simp at hy; simp [hy]))
    simp only [evOp, oSlice, h1, h2, h3, h4]
  case call c =>
    have h1 : evXs E.ng tm c.args.toList = evXs E.ng tm' c.args.toList := evXs_congr (fun x hx => h x (by simp at hx; simp [Call.operands, hx]))
    simp only [evOp, oCall, h1]
    cases hc : c.callee with
    | value f => simp only [h f (by simp [Call.operands, hc])]
    | invoke r m => rfl
    | builtin b => rfl
  case defer c =>
    have h1 : evXs E.ng tm c.args.toList = evXs E.ng tm' c.args.toList := evXs_congr (fun x hx => h x (by simp at hx; simp [Call.operands, hx]))
    simp only [evOp, oDefer, h1]
    cases hc : c.callee with
    | value f => simp only [h f (by simp [Call.operands, hc])]
    | invoke r m => rfl
    | builtin b => rfl
end Go.AM

/-! A29: The orders of a drawn region; what must come before what. -/
namespace Go.AM

inductive Valid (ops : Array Oper) : Array Bool → List Nat → Prop where
  | nil {l : Array Bool} (h : Region.ready .any ops l = []) : Valid ops l []
  | cons {l : Array Bool} {i : Nat} {L : List Nat} (h : i ∈ Region.ready .any ops l) (t : Valid ops (l.setIfInBounds i true) L) : Valid ops l (i :: L)

/-- so many of the first m are not yet listed -/
def unl (l : Array Bool) : Nat → Nat
  | 0 => 0
  | m + 1 => unl l m + (if l.getD m true then 0 else 1)
theorem unl_set_ge {l : Array Bool} {i : Nat} : ∀ {m : Nat}, m ≤ i → unl (l.setIfInBounds i true) m = unl l m
  | 0, _ => rfl
  | m + 1, h => by
    unfold unl
    rw [unl_set_ge (Nat.le_of_succ_le h), getD_set_ne true (by omega)]
theorem unl_set_lt {l : Array Bool} {i : Nat} (hi : l.getD i true = false) : ∀ {m : Nat}, i < m → unl (l.setIfInBounds i true) m + 1 = unl l m
  | m + 1, h => by
    unfold unl
    by_cases e : i = m
    · subst e
      rw [unl_set_ge (Nat.le_refl _), hi]
      have : (l.setIfInBounds i true).getD i true = true := by
        rw [Array.getD_eq_getD_getElem?]
        by_cases h : i < l.size
        · rw [Array.getElem?_setIfInBounds_self_of_lt h]; rfl
        · rw [Array.getElem?_eq_none (by simp; omega)]; rfl
      rw [this]; simp
    · have := unl_set_lt hi (m := m) (by omega)
      rw [getD_set_ne true (by omega)]
      omega
theorem unl_zero {l : Array Bool} : ∀ {m : Nat}, unl l m = 0 → ∀ i, i < m → l.getD i true = true
  | m + 1, h, i, hi => by
    unfold unl at h
    by_cases e : i = m
    · subst e
      cases hb : l.getD i true with
      | true => rfl
      | false => rw [hb] at h; simp at h
    · exact unl_zero (m := m) (by omega) i (by omega)
theorem unl_le {l : Array Bool} : ∀ {m : Nat}, unl l m ≤ m
  | 0 => Nat.le_refl _
  | m + 1 => by unfold unl; have := unl_le (l := l) (m := m); split <;> omega

theorem go_valid (ops : Array Oper) : ∀ (fuel t : Nat) (l : Array Bool), unl l ops.size ≤ fuel → Valid ops l (Region.linearise.go .any ops fuel t l [])
  | 0, t, l, h => by
    refine .nil ?_
    have hz := unl_zero (Nat.le_zero.1 h)
    cases hr : Region.ready .any ops l with
    | nil => rfl
    | cons i r =>
      have hm : i ∈ Region.ready .any ops l := by rw [hr]; simp
      obtain ⟨h0, o, ho, _⟩ := mem_ready.1 hm
      rw [hz i (Array.getElem?_eq_some_iff.1 ho).1] at h0; cases h0
  | fuel + 1, t, l, h => by
    have e : Region.linearise.go .any ops (fuel + 1) t l [] = (match (Region.ready .any ops l)[t % (Region.ready .any ops l).length]? with
      | some i => Region.linearise.go .any ops fuel (t / (Region.ready .any ops l).length) (l.setIfInBounds i true) [i]
      | none => []) := by simp only [Region.linearise.go]; rfl
    rw [e]
    split
    · rename_i i hi
      have hm : i ∈ Region.ready .any ops l := List.mem_of_getElem? hi
      obtain ⟨h0, o, ho, _⟩ := mem_ready.1 hm
      rw [linearise_go_acc]
      refine .cons hm (go_valid ops fuel _ _ ?_)
      have := unl_set_lt h0 (Array.getElem?_eq_some_iff.1 ho).1
      omega
    · rename_i hn
      refine .nil ?_
      cases hr : Region.ready .any ops l with
      | nil => rfl
      | cons i r =>
        rw [hr] at hn
        have : t % (i :: r).length < (i :: r).length := Nat.mod_lt _ (by simp)
        rw [List.getElem?_eq_getElem this] at hn; cases hn
theorem schedule_valid (ops : Array Oper) (t : Nat) : Valid ops (Array.replicate ops.size false) (Region.schedule true ops t) := by
  unfold Region.schedule
  simp only [Bool.true_or, if_true]
  exact go_valid ops _ _ _ unl_le

/-! masks -/
noncomputable def tb (m i : Nat) : Bool := Nat.ble 1 (Nat.land 1 (Nat.shiftRight m i))
theorem tb_eq (m i : Nat) : tb m i = m.testBit i := by
  unfold tb Nat.testBit
  show Nat.ble 1 (1 &&& (m >>> i)) = _
  rw [nat_ble_decide]
  cases h : (1 &&& (m >>> i)) with
  | zero => rfl
  | succ n => simp
noncomputable def bit (i : Nat) : Nat := Nat.shiftLeft 1 i
theorem tb_bit (i j : Nat) : tb (bit i) j = decide (i = j) := by
  rw [tb_eq]
  show (1 <<< i).testBit j = _
  rw [Nat.one_shiftLeft, Nat.testBit_two_pow]
theorem tb_or (a b i : Nat) : tb (Nat.lor a b) i = (tb a i || tb b i) := by
  rw [tb_eq, tb_eq, tb_eq]; exact Nat.testBit_or a b i
theorem tb_and (a b i : Nat) : tb (Nat.land a b) i = (tb a i && tb b i) := by
  rw [tb_eq, tb_eq, tb_eq]; exact Nat.testBit_and a b i
theorem tb_zero (i : Nat) : tb 0 i = false := by rw [tb_eq]; simp
noncomputable def subM (a b : Nat) : Bool := Nat.beq (Nat.land a b) a
theorem subM_ok {a b : Nat} (h : subM a b = true) {i : Nat} (hi : tb a i = true) : tb b i = true := by
  have e : Nat.land a b = a := Nat.eq_of_beq_eq_true h
  rw [← e, tb_and] at hi
  simp at hi; exact hi.2
theorem subM_of {a b : Nat} (h : ∀ i, tb a i = true → tb b i = true) : subM a b = true := by
  unfold subM
  have : Nat.land a b = a := by
    apply Nat.eq_of_testBit_eq
    intro i
    have h1 := tb_and a b i
    rw [tb_eq] at h1
    rw [h1, ← tb_eq]
    cases ha : tb a i with
    | false => rfl
    | true => rw [h i ha]; rfl
  rw [this]; exact Nat.beq_refl a

/-- what must come before: of the edges -/
noncomputable def maskE (i : Nat) (ms : List Nat) (l : List Edge) : Option Nat :=
  List.rec (some 0) (fun e _ ih => Bool.rec ih (Option.rec none (fun m => Bool.rec none (Option.rec none (fun m' => some (Nat.lor m (Nat.lor m' (bit e.on)))) (nth ms e.on)) (Nat.blt e.on i)) ih) (Region.binds .any e)) l
/-- what must come before: of the operations. ms: of those ahead, in the order of the text -/
noncomputable def masksG (l : List Oper) : Nat → List Nat → Option (List Nat) :=
  List.rec (motive := fun _ => Nat → List Nat → Option (List Nat)) (fun _ ms => some ms) (fun o _ ih i ms => Option.rec none (fun m => ih (Nat.succ i) (List.append ms [m])) (maskE i ms o.after.toList)) l

theorem maskE_ok {i : Nat} {ms : List Nat} : ∀ {l : List Edge} {m : Nat}, maskE i ms l = some m →
    (∀ e ∈ l, Region.binds .any e = true → e.on < i) ∧ ∀ p, tb m p = true → ∃ e ∈ l, Region.binds .any e = true ∧ (p = e.on ∨ ∃ m', ms[e.on]? = some m' ∧ tb m' p = true)
  | [], m, h => by
    cases h
    exact ⟨fun e he => (by cases he), fun p hp => (by rw [tb_zero] at hp; cases hp)⟩
  | e :: l, m, h => by
    have h' : (Bool.rec (maskE i ms l) (Option.rec none (fun m => Bool.rec none (Option.rec none (fun m' => some (Nat.lor m (Nat.lor m' (bit e.on)))) (nth ms e.on)) (Nat.blt e.on i)) (maskE i ms l)) (Region.binds .any e) : Option Nat) = some m := h
    cases hb : Region.binds .any e with
    | false =>
      rw [hb] at h'
      obtain ⟨g1, g2⟩ := maskE_ok (l := l) (m := m) h'
      refine ⟨fun x hx hbx => ?_, fun p hp => ?_⟩
      · rcases List.mem_cons.1 hx with rfl | hx
        · rw [hb] at hbx; cases hbx
        · exact g1 x hx hbx
      · obtain ⟨x, hx, r⟩ := g2 p hp
        exact ⟨x, List.mem_cons_of_mem _ hx, r⟩
    | true =>
      rw [hb] at h'
      obtain ⟨m1, h1, h2⟩ := recb_ok h'
      obtain ⟨h3, h4⟩ := rec_some h2
      obtain ⟨m2, h5, h6⟩ := recb_ok h4
      cases h6
      rw [nat_blt_decide] at h3
      obtain ⟨g1, g2⟩ := maskE_ok h1
      refine ⟨fun x hx hbx => ?_, fun p hp => ?_⟩
      · rcases List.mem_cons.1 hx with rfl | hx
        · exact of_decide_eq_true h3
        · exact g1 x hx hbx
      · rw [tb_or, tb_or, tb_bit] at hp
        simp only [Bool.or_eq_true, decide_eq_true_eq] at hp
        rcases hp with hp | hp | hp
        · obtain ⟨x, hx, r⟩ := g2 p hp
          exact ⟨x, List.mem_cons_of_mem _ hx, r⟩
        · exact ⟨e, by simp, hb, .inr ⟨m2, by rw [← nth_eq]; exact h5, hp⟩⟩
        · exact ⟨e, by simp, hb, .inl hp.symm⟩
/-- what is known of masks -/
structure MasksOk (ops : List Oper) (ms : List Nat) : Prop where
  len : ms.length = ops.length
  back : ∀ i o, ops[i]? = some o → ∀ e ∈ o.after, Region.binds .any e = true → e.on < i
  bits : ∀ (i : Nat) o m, ops[i]? = some o → ms[i]? = some m → ∀ p, tb m p = true → ∃ e ∈ o.after, Region.binds .any e = true ∧ (p = e.on ∨ ∃ m', ms[e.on]? = some m' ∧ tb m' p = true)
theorem masksG_ok : ∀ (l : List Oper) (pre : List Oper) (ms r : List Nat), masksG l pre.length ms = some r → MasksOk pre ms → MasksOk (pre ++ l) r
  | [], pre, ms, r, h, hm => by cases h; rw [List.append_nil]; exact hm
  | o :: l, pre, ms, r, h, hm => by
    have h' : (Option.rec none (fun m => masksG l (Nat.succ pre.length) (List.append ms [m])) (maskE pre.length ms o.after.toList) : Option (List Nat)) = some r := h
    obtain ⟨m, h1, h2⟩ := recb_ok h'
    obtain ⟨g1, g2⟩ := maskE_ok h1
    have := masksG_ok l (pre ++ [o]) (ms ++ [m]) r (by rw [List.length_append]; exact h2) ⟨by simp [hm.len], fun i x hx e he hb => ?_, fun i x y hx hy p hp => ?_⟩
    · rw [List.append_assoc] at this; exact this
    · by_cases hi : i < pre.length
      · rw [List.getElem?_append_left hi] at hx; exact hm.back i x hx e he hb
      · rw [List.getElem?_append_right (by omega)] at hx
        cases hk : i - pre.length with
        | zero => rw [hk] at hx; simp at hx; subst hx; have := g1 e (by simpa using he) hb; omega
        | succ k => rw [hk] at hx; simp at hx
    · by_cases hi : i < pre.length
      · rw [List.getElem?_append_left hi] at hx
        rw [List.getElem?_append_left (by rw [hm.len]; exact hi)] at hy
        obtain ⟨e, he, hb, r⟩ := hm.bits i x y hx hy p hp
        refine ⟨e, he, hb, r.imp id (fun ⟨m', h1, h2⟩ => ⟨m', ?_, h2⟩)⟩
        rw [List.getElem?_append_left (List.getElem?_eq_some_iff.1 h1).1]; exact h1
      · rw [List.getElem?_append_right (by omega)] at hx
        rw [List.getElem?_append_right (by rw [hm.len]; omega), hm.len] at hy
        cases hk : i - pre.length with
        | zero =>
          rw [hk] at hx hy
          simp at hx hy
          subst hx hy
          obtain ⟨e, he, hb, r⟩ := g2 p hp
          refine ⟨e, by simpa using he, hb, r.imp id (fun ⟨m', h1, h2⟩ => ⟨m', ?_, h2⟩)⟩
          rw [List.getElem?_append_left (List.getElem?_eq_some_iff.1 h1).1]; exact h1
        | succ k => rw [hk] at hx; simp at hx
noncomputable def masks (ops : Array Oper) : Option (List Nat) := masksG ops.toList 0 []
theorem masks_ok {ops : Array Oper} {ms : List Nat} (h : masks ops = some ms) : MasksOk ops.toList ms := by
  have := masksG_ok ops.toList [] [] ms h ⟨rfl, fun i o e => by simp at e, fun i o m e => by simp at e⟩
  simpa using this
end Go.AM
