import Derived.Test.YtemimkkjkggcoaaGreatDoorGA17
/- The steps of the model's machine, for any frame. -/
namespace Go.AM

section
variable {P : Program} {fr : Frame} {cs : List Frame} {w w' : World} {k : List Item}

theorem s_op {ops : Array Oper} {i : Nat} {rest : List Nat} {o : Oper} (hm : fr.mode = .run) (ht : fr.todo = .inRegion ops (i :: rest) :: k) (ho : ops[i]? = some o) (hw : Region.wanted o (yielded ops fr.tmps) = true)
    (hd : fr.roundOf = none ∨ ∀ c, o.op ≠ .defer c) :
    stepG P true { frame := fr, callers := cs, status := .running, dying := none } w = stepG.apply P true fr cs none (execOp fr.eval o) w := by
  obtain ⟨fn, tmps, todo, defers, mode, kind, roundOf⟩ := fr
  simp only at hm ht hw hd
  subst hm ht
  simp only [stepG, stepG.exec, ho, Option.map_some, Option.getD_some, hw, if_true, stepG.oper, Frame.oper?]
  rcases hd with rfl | hd
  · rfl
  · cases roundOf with
    | none => rfl
    | some l =>
      obtain ⟨dst, op, type, pos, after, guard⟩ := o
      cases op <;> first | rfl | exact absurd rfl (hd _)

theorem step_val {ops : Array Oper} {i : Nat} {rest : List Nat} {o : Oper} {v : Value} (hm : fr.mode = .run) (ht : fr.todo = .inRegion ops (i :: rest) :: k) (ho : ops[i]? = some o) (hw : Region.wanted o (yielded ops fr.tmps) = true)
    (hd : fr.roundOf = none ∨ ∀ c, o.op ≠ .defer c) (hr : (execOp fr.eval o).run P w = .ok (.value v) w' ∨ ((execOp fr.eval o).run P w = .ok .skip w' ∧ v = undef)) :
    step P (lone fr cs w) = .next (lone (fr.finish v) cs w') := by
  refine step_lone_go ?_
  rw [s_op hm ht ho hw hd]
  rcases hr with hr | ⟨hr, rfl⟩
  · simp [stepG.apply, Sem.runT_eq, hr]
  · simp [stepG.apply, Sem.runT_eq, hr]
theorem step_unwanted {ops : Array Oper} {i : Nat} {rest : List Nat} {o : Oper} (hm : fr.mode = .run) (ht : fr.todo = .inRegion ops (i :: rest) :: k) (ho : ops[i]? = some o) (hw : Region.wanted o (yielded ops fr.tmps) = false) :
    step P (lone fr cs w) = .next (lone (fr.finish undef) cs w) := by
  refine step_lone_go ?_
  obtain ⟨fn, tmps, todo, defers, mode, kind, roundOf⟩ := fr
  simp only at hm ht hw
  subst hm ht
  simp [stepG, stepG.exec, ho, hw]
theorem step_enter {ops : Array Oper} {i : Nat} {rest : List Nat} {o : Oper} {f : FuncId} {args : Array Value} (hm : fr.mode = .run) (ht : fr.todo = .inRegion ops (i :: rest) :: k) (ho : ops[i]? = some o) (hw : Region.wanted o (yielded ops fr.tmps) = true)
    (hd : fr.roundOf = none ∨ ∀ c, o.op ≠ .defer c) (hr : (execOp fr.eval o).run P w = .ok (.enter f args) w') :
    step P (lone fr cs w) = .next (lone (Frame.enter P f args .normal) (fr :: cs) w') := by
  refine step_lone_go ?_
  rw [s_op hm ht ho hw hd]
  simp [stepG.apply, Sem.runT_eq, hr, ht]
theorem step_round {ops : Array Oper} {i : Nat} {rest : List Nat} {o : Oper} {l : Nat} {f : FuncId} {tmps : Array Value} {a b : Code} (hm : fr.mode = .run) (ht : fr.todo = .inRegion ops (i :: rest) :: k) (ho : ops[i]? = some o) (hw : Region.wanted o (yielded ops fr.tmps) = true)
    (hd : fr.roundOf = none ∨ ∀ c, o.op ≠ .defer c) (hr : (execOp fr.eval o).run P w = .ok (.round l f tmps a b) w') :
    step P (lone fr cs w) = .next (lone (Frame.round l f tmps a b .normal) (fr :: cs) w') := by
  refine step_lone_go ?_
  rw [s_op hm ht ho hw hd]
  simp [stepG.apply, Sem.runT_eq, hr]
theorem step_defer {ops : Array Oper} {i : Nat} {rest : List Nat} {o : Oper} {d : Deferred} (hm : fr.mode = .run) (ht : fr.todo = .inRegion ops (i :: rest) :: k) (ho : ops[i]? = some o) (hw : Region.wanted o (yielded ops fr.tmps) = true)
    (hd : fr.roundOf = none) (hr : (execOp fr.eval o).run P w = .ok (.defer d) w') :
    step P (lone fr cs w) = .next (lone (({ fr with defers := d :: fr.defers } : Frame).finish undef) cs w') := by
  refine step_lone_go ?_
  rw [s_op hm ht ho hw (.inl hd)]
  simp [stepG.apply, Sem.runT_eq, hr]
theorem step_panic {ops : Array Oper} {i : Nat} {rest : List Nat} {o : Oper} {v : Value} (hm : fr.mode = .run) (ht : fr.todo = .inRegion ops (i :: rest) :: k) (ho : ops[i]? = some o) (hw : Region.wanted o (yielded ops fr.tmps) = true)
    (hd : fr.roundOf = none ∨ ∀ c, o.op ≠ .defer c) (hr : (execOp fr.eval o).run P w = .halt (.panic v) w') :
    step P (lone fr cs w) = .next (lone (fr.raise [{ v, recovered := false }]) cs w') := by
  refine step_lone_go ?_
  rw [s_op hm ht ho hw hd]
  simp [stepG.apply, Sem.runT_eq, hr]
theorem step_recover {ops : Array Oper} {i : Nat} {rest : List Nat} {o : Oper} (hm : fr.mode = .run) (ht : fr.todo = .inRegion ops (i :: rest) :: k) (ho : ops[i]? = some o) (hw : Region.wanted o (yielded ops fr.tmps) = true)
    (hd : fr.roundOf = none) (hr : (execOp fr.eval o).run P w = .ok .recover w') :
    step P (lone fr cs w) = .next (match tryRecover fr cs with | some (v, cs') => lone (fr.finish v) cs' w' | none => lone (fr.finish .nilIface) cs w') := by
  cases ht2 : tryRecover fr cs with
  | none =>
    refine step_lone_go ?_
    rw [s_op hm ht ho hw (.inl hd)]
    simp [stepG.apply, Sem.runT_eq, hr, hd, ht2]
  | some q =>
    obtain ⟨v, cs'⟩ := q
    refine step_lone_go ?_
    rw [s_op hm ht ho hw (.inl hd)]
    simp [stepG.apply, Sem.runT_eq, hr, hd, ht2]

/-- steps that only turn the list of what is to be done -/
theorem step_to {t t' : List Item} (hm : fr.mode = .run) (ht : fr.todo = t) (h : ∀ fn tmps defers kind roundOf, stepG.exec P true true { fn, tmps, todo := t, defers, mode := .run, kind, roundOf } cs none w =
      .go { frame := { fn, tmps, todo := t', defers, mode := .run, kind, roundOf }, callers := cs, status := .running, dying := none } w) :
    step P (lone fr cs w) = .next (lone { fr with todo := t' } cs w) := by
  obtain ⟨fn, tmps, todo, defers, mode, kind, roundOf⟩ := fr
  simp only at hm ht
  subst hm ht
  refine step_lone_go ?_
  simp [stepG, h]
theorem st_skip (hm : fr.mode = .run) (ht : fr.todo = .code .skip :: k) : step P (lone fr cs w) = .next (lone { fr with todo := k } cs w) := step_to hm ht (fun _ _ _ _ _ => by simp [stepG.exec])
theorem st_label {l : Nat} (hm : fr.mode = .run) (ht : fr.todo = .code (.label l) :: k) : step P (lone fr cs w) = .next (lone { fr with todo := k } cs w) := step_to hm ht (fun _ _ _ _ _ => by simp [stepG.exec])
theorem st_inBlock {l : Nat} (hm : fr.mode = .run) (ht : fr.todo = .inBlock l :: k) : step P (lone fr cs w) = .next (lone { fr with todo := k } cs w) := step_to hm ht (fun _ _ _ _ _ => by simp [stepG.exec])
theorem st_inScope {c : Code} (hm : fr.mode = .run) (ht : fr.todo = .inScope c :: k) : step P (lone fr cs w) = .next (lone { fr with todo := k } cs w) := step_to hm ht (fun _ _ _ _ _ => by simp [stepG.exec])
theorem st_seq {a b : Code} (hm : fr.mode = .run) (ht : fr.todo = .code (.seq a b) :: k) : step P (lone fr cs w) = .next (lone { fr with todo := .code a :: .code b :: k } cs w) := step_to hm ht (fun _ _ _ _ _ => by simp [stepG.exec])
theorem st_block {id : Nat} {b : Code} (hm : fr.mode = .run) (ht : fr.todo = .code (.block id b) :: k) : step P (lone fr cs w) = .next (lone { fr with todo := .code b :: .inBlock id :: k } cs w) := step_to hm ht (fun _ _ _ _ _ => by simp [stepG.exec])
theorem st_loop {b : Code} (hm : fr.mode = .run) (ht : fr.todo = .code (.loop b) :: k) : step P (lone fr cs w) = .next (lone { fr with todo := .code b :: .inLoop b :: k } cs w) := step_to hm ht (fun _ _ _ _ _ => by simp [stepG.exec])
theorem st_inLoop {b : Code} (hm : fr.mode = .run) (ht : fr.todo = .inLoop b :: k) : step P (lone fr cs w) = .next (lone { fr with todo := .code b :: .inLoop b :: k } cs w) := step_to hm ht (fun _ _ _ _ _ => by simp [stepG.exec])
theorem st_scope {b : Code} (hm : fr.mode = .run) (ht : fr.todo = .code (.scope b) :: k) : step P (lone fr cs w) = .next (lone { fr with todo := .code b :: .inScope b :: k } cs w) := step_to hm ht (fun _ _ _ _ _ => by simp [stepG.exec])
theorem st_exit {id : Nat} {k' : List Item} (hm : fr.mode = .run) (ht : fr.todo = .code (.exit id) :: k) (h : exitTo id k = some k') : step P (lone fr cs w) = .next (lone { fr with todo := k' } cs w) := step_to hm ht (fun _ _ _ _ _ => by simp [stepG.exec, h])
theorem st_goto {id : Nat} {k' : List Item} (hm : fr.mode = .run) (ht : fr.todo = .code (.goto id) :: k) (h : gotoIn id k = some k') : step P (lone fr cs w) = .next (lone { fr with todo := k' } cs w) := step_to hm ht (fun _ _ _ _ _ => by simp [stepG.exec, h])
theorem st_region {id : Nat} {ops : Array Oper} (hm : fr.mode = .run) (ht : fr.todo = .code (.region id ops false) :: k) : step P (lone fr cs w) = .next (lone { fr with todo := .inRegion ops (List.range ops.size) :: k } cs w) := step_to hm ht (fun _ _ _ _ _ => by simp [stepG.exec])
theorem st_regionEnd {ops : Array Oper} (hm : fr.mode = .run) (ht : fr.todo = .inRegion ops [] :: k) : step P (lone fr cs w) = .next (lone { fr with todo := k } cs w) := step_to hm ht (fun _ _ _ _ _ => by simp [stepG.exec])
theorem st_cond {c : Operand} {a b : Code} {t : Bool} (hm : fr.mode = .run) (ht : fr.todo = .code (.cond c a b) :: k) (hc : fr.eval c = .bool t) : step P (lone fr cs w) = .next (lone { fr with todo := .code (if t then a else b) :: k } cs w) := by
  obtain ⟨fn, tmps, todo, defers, mode, kind, roundOf⟩ := fr
  simp only at hm ht
  subst hm ht
  refine step_lone_go ?_
  simp [stepG, stepG.exec, hc]
theorem st_draw {id : Nat} {ops : Array Oper} (hm : fr.mode = .run) (ht : fr.todo = .code (.region id ops true) :: k) :
    step P (lone fr cs w) = .next (lone { fr with todo := .inRegion ops (Region.schedule (P.follows .mixedOrders) ops (w.tape w.drawn (.order fr.fn id))) :: k } cs { w with drawn := w.drawn + 1 }) := by
  obtain ⟨fn, tmps, todo, defers, mode, kind, roundOf⟩ := fr
  simp only at hm ht
  subst hm ht
  refine step_lone_go ?_
  simp [stepG, stepG.exec, choose, Sem.run, Question.forced, Question.cut]

/-- a function's end -/
theorem st_ret (hm : fr.mode = .run) (ht : fr.todo = [] ∨ fr.todo = .code .ret :: k) (hr : fr.roundOf = none) : step P (lone fr cs w) = .next (lone { fr with mode := .returning } cs w) := by
  obtain ⟨fn, tmps, todo, defers, mode, kind, roundOf⟩ := fr
  simp only at hm ht hr
  subst hm hr
  refine step_lone_go ?_
  rcases ht with rfl | rfl <;> simp [stepG, stepG.exec]
/-- a mark among the deferred calls -/
theorem st_take {b : Nat} {ds : List Deferred} (hm : fr.mode = .returning ∨ ∃ c, fr.mode = .panicking c) (hd : fr.defers = { target := .collected b, args := #[] } :: ds) (hb : w.heap[b]? = some (.deferred (some []))) :
    step P (lone fr cs w) = .next (lone { fr with defers := ds } cs { w with heap := w.heap.setIfInBounds b (.deferred none) }) := by
  obtain ⟨fn, tmps, todo, defers, mode, kind, roundOf⟩ := fr
  simp only at hm hd
  subst hd
  refine step_lone_go ?_
  have h1 : (Instr.takeDeferred b).run P w = .ok [] { w with heap := w.heap.setIfInBounds b (.deferred none) } := by
    simp only [Instr.takeDeferred, Sem.run_bind, run_getObj hb (fun _ _ _ e => by cases e), Result.andThen_ok]
    simp only [Go.setObj, Sem.run, hb, Result.andThen_ok, Sem.run_pure]
  rcases hm with rfl | ⟨c, rfl⟩
  · simp [stepG, unwind, Sem.runT_eq, h1]
  · simp [stepG, unwind, Sem.runT_eq, h1]
/-- a deferred call -/
theorem st_deferred {f : FuncId} {cap args : Array Value} {ds : List Deferred} (hm : fr.mode = .returning ∨ ∃ c, fr.mode = .panicking c) (hd : fr.defers = { target := .fn (.func f) cap, args := args } :: ds)
    (hr : ∀ w, (callFunc f (args ++ cap)).run P w = .ok (.enter f (args ++ cap)) w) :
    step P (lone fr cs w) = .next (lone (Frame.enter P f (args ++ cap) .deferred) ({ fr with defers := ds } :: cs) w) := by
  obtain ⟨fn, tmps, todo, defers, mode, kind, roundOf⟩ := fr
  simp only at hm hd
  subst hd
  refine step_lone_go ?_
  rcases hm with rfl | ⟨c, rfl⟩
  · simp [stepG, unwind, callDeferred, invoke, Sem.runT_eq, hr]
  · simp [stepG, unwind, callDeferred, invoke, Sem.runT_eq, hr]
/-- the return itself -/
theorem st_return {c : Frame} {fn : Func} {v : Value} (hm : fr.mode = .returning) (hd : fr.defers = []) (hf : P.funcs[fr.fn]? = some fn) (hk : fr.kind = .normal) (hr : (results fn fr.tmps).run P w = .ok v w) :
    step P (lone fr (c :: cs) w) = .next (lone (c.finish v) cs w) := by
  refine step_lone_go ?_
  obtain ⟨fn', tmps, todo, defers, mode, kind, roundOf⟩ := fr
  simp only at hm hd hf hk hr
  subst hm hd hk
  simp [stepG, unwind, doReturn, hf, Sem.runT_eq, hr]
/-- the return of a deferred call -/
theorem st_returnD {c : Frame} {fn : Func} {v : Value} (hm : fr.mode = .returning) (hd : fr.defers = []) (hf : P.funcs[fr.fn]? = some fn) (hk : fr.kind = .deferred) (hr : (results fn fr.tmps).run P w = .ok v w) :
    step P (lone fr (c :: cs) w) = .next (lone (match c.mode with
        | .panicking ({ recovered := true, .. } :: older) => (match older.dropWhile (!·.goexit) with
          | [] => { c with mode := .returning }
          | rest => { c with mode := .panicking rest })
        | _ => c) cs w) := by
  refine step_lone_go ?_
  obtain ⟨fn', tmps, todo, defers, mode, kind, roundOf⟩ := fr
  simp only at hm hd hf hk hr
  subst hm hd hk
  simp [stepG, unwind, doReturn, hf, Sem.runT_eq, hr]
  rfl
/-- a panic goes on to the caller -/
theorem st_raise {c : Frame} {ch : List PanicEntry} {fn : Func} (hm : fr.mode = .panicking ch) (hd : fr.defers = []) (hf : P.funcs[fr.fn]? = some fn) : step P (lone fr (c :: cs) w) = .next (lone (c.raise ch) cs w) := by
  refine step_lone_go ?_
  obtain ⟨fn', tmps, todo, defers, mode, kind, roundOf⟩ := fr
  simp only at hm hd hf
  subst hm hd
  simp [stepG, unwind, Frame.catches, hf]

/-! loops over functions -/
theorem st_rangeFunc {f : Operand} {ps : Array Tmp} {a b : Code} {l : Nat} {mark : List Deferred} {w1 : World} {g : FuncId} {args : Array Value} (hm : fr.mode = .run) (ht : fr.todo = .code (.rangeFunc f ps a b) :: k)
    (he : (Instr.enterLoop fr.fn fr.tmps ps a b fr.roundOf).run P w = .ok (l, mark) w1)
    (hr : (do let d ← Deferred.ofValue (fr.eval f) #[.func (.yield l) #[] #[]]; invoke d.target d.args : Sem Next).run P w1 = .ok (.enter g args) w') :
    step P (lone fr cs w) = .next (lone (Frame.enter P g args .normal) ({ fr with todo := .inRangeFunc l :: k, defers := mark ++ fr.defers } :: cs) w') := by
  refine step_lone_go ?_
  obtain ⟨fn, tmps, todo, defers, mode, kind, roundOf⟩ := fr
  simp only at hm ht he hr
  subst hm ht
  have h2 : ∀ (x : Operand), Frame.eval { fn, tmps, todo := .inRangeFunc l :: k, defers := mark ++ defers, mode := .run, kind, roundOf } x = Frame.eval { fn, tmps, todo := .code (.rangeFunc f ps a b) :: k, defers, mode := .run, kind, roundOf } x := by
    intro x; cases x <;> rfl
  have h3 : (do let d ← resolve (Frame.eval { fn, tmps, todo := .inRangeFunc l :: k, defers := mark ++ defers, mode := .run, kind, roundOf }) { callee := .value f, args := #[.const (.func (.yield l) #[] #[])], argTypes := #[] } 0; invoke d.target d.args : Sem Next).run P w1 = .ok (.enter g args) w' := by
    rw [← hr]
    simp only [resolve, h2, List.map_toArray, List.map_cons, List.map_nil]
    rfl
  simp [stepG, stepG.exec, Sem.runT_eq, he, stepG.apply, h3]
theorem st_begin {l : Nat} {r : Loop} (hm : fr.mode = .run) (ht : fr.todo = .beginRound :: k) (hl : fr.roundOf = some l) (hb : w.heap[l]? = some (.loop r)) (hs : r.state = .ready) :
    step P (lone fr cs w) = .next (lone { fr with todo := k } cs { w with heap := w.heap.setIfInBounds l (.loop { r with state := .busy }) }) := by
  refine step_lone_go ?_
  obtain ⟨fn, tmps, todo, defers, mode, kind, roundOf⟩ := fr
  simp only at hm ht hl
  subst hm ht hl
  have h1 : (Instr.beginRound l).run P w = .ok () { w with heap := w.heap.setIfInBounds l (.loop { r with state := .busy }) } := by
    simp only [Instr.beginRound, Instr.getLoop, Sem.run_bind, run_getObj hb (fun _ _ _ e => by cases e), Result.andThen_ok, Sem.run_pure]
    simp only [Go.setObj, Sem.run, hb, Result.andThen_ok, hs, Sem.run_pure]
  simp [stepG, stepG.exec, stepG.apply, Sem.runT_eq, h1, Frame.finish]
theorem run_endRound {l : Nat} {r : Loop} {jump : Option Code} (hb : w.heap[l]? = some (.loop r)) :
    (Instr.endRound l jump).run P w = .ok (.bool jump.isNone) { w with heap := w.heap.setIfInBounds l (.loop { r with state := if jump.isNone then .ready else .done, pending := jump }) } := by
  simp only [Instr.endRound, Instr.getLoop, Sem.run_bind, run_getObj hb (fun _ _ _ e => by cases e), Result.andThen_ok, Sem.run_pure]
  simp only [Go.setObj, Sem.run, hb, Result.andThen_ok]
theorem st_endRound {c : Frame} {l : Nat} {r : Loop} {jump : Option Code} (hm : fr.mode = .run) (ht : (fr.todo = [] ∧ jump = none) ∨ (fr.todo = .code .ret :: k ∧ jump = some .ret) ∨ (∃ id, fr.todo = .code (.exit id) :: k ∧ exitTo id k = none ∧ jump = some (.exit id)))
    (hl : fr.roundOf = some l) (hk : fr.kind = .normal) (hb : w.heap[l]? = some (.loop r)) :
    step P (lone fr (c :: cs) w) = .next (lone (c.finish (.bool jump.isNone)) cs { w with heap := w.heap.setIfInBounds l (.loop { r with state := if jump.isNone then .ready else .done, pending := jump }) }) := by
  refine step_lone_go ?_
  have h1 := run_endRound (P := P) (jump := jump) hb
  obtain ⟨fn, tmps, todo, defers, mode, kind, roundOf⟩ := fr
  simp only at hm ht hl hk
  subst hm hl hk
  rcases ht with ⟨rfl, rfl⟩ | ⟨rfl, rfl⟩ | ⟨id, rfl, h2, rfl⟩
  · simp [stepG, stepG.exec, Sem.runT_eq, h1, doReturn]
  · simp [stepG, stepG.exec, Sem.runT_eq, h1, doReturn]
  · simp [stepG, stepG.exec, Sem.runT_eq, h1, doReturn, h2]
theorem st_endLoop {l : Nat} {r : Loop} (hm : fr.mode = .run) (ht : fr.todo = .endRangeFunc l :: k) (hb : w.heap[l]? = some (.loop r)) (hs : r.state ≠ .busy) :
    step P (lone fr cs w) = .next (lone { fr with todo := (r.pending.map Item.code).toList ++ k } cs { w with heap := w.heap.setIfInBounds l (.loop { r with state := .exhausted }) }) := by
  refine step_lone_go ?_
  obtain ⟨fn, tmps, todo, defers, mode, kind, roundOf⟩ := fr
  simp only at hm ht
  subst hm ht
  have h1 : (Instr.endLoop l).run P w = .ok r.pending { w with heap := w.heap.setIfInBounds l (.loop { r with state := .exhausted }) } := by
    have h2 : (r.state == LoopState.busy) = false := by
      cases h : r.state <;> first | rfl | exact absurd h hs
    simp only [Instr.endLoop, Instr.getLoop, Sem.run_bind, run_getObj hb (fun _ _ _ e => by cases e), Result.andThen_ok, Sem.run_pure, h2, Bool.false_eq_true, if_false]
    simp only [Go.setObj, Sem.run, hb, Result.andThen_ok]
  simp [stepG, stepG.exec, Sem.runT_eq, h1]
end
end Go.AM
