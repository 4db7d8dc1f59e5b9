import Derived.Test.YtemimkkjkggcoaaGreatDoorGA23
/- The steps of the abstract machine: the simple ones, and the ends of rounds and functions. -/
namespace Go.AM

section
variable {E : Env} (hE : E.Ok) {γ : Gm} {S : Hp} {fr : Frame} {frs : List Frame} {w : World}

theorem finish_fn (fr : Frame) (v : Value) : (fr.finish v).fn = fr.fn ∧ (fr.finish v).roundOf = fr.roundOf := by
  unfold Frame.finish; split <;> exact ⟨rfl, rfl⟩
theorem finishA_fn {f f' : AF} {v : AV} (h : finishA f v = some f') : f'.fn = f.fn ∧ f'.rd = f.rd := by
  obtain ⟨fn, nt, tm, todo, dfs, md, lost, dk, rd⟩ := f
  simp only [finishA_eq, finishA0] at h
  split at h
  · split at h
    · cases h; exact ⟨rfl, rfl⟩
    · cases h
  · cases h; exact ⟨rfl, rfl⟩
  · cases h

theorem backA_ok {v : AV} {v' : Value} {S' : Hp} {γ' : Gm} {w' : World} {cs : List AF} (hcs : CsR γ E cs frs) (hv : VR γ' v v') (hH : HR γ' E.ng S' w') (hP : Pres S γ w S' γ' w')
    (hs : ∀ c cs, Steps E.P (lone fr (c :: cs) w) (lone (c.finish v') cs w'))
    (h1 : fr.roundOf = none → ∀ bot, ∃ fr' fn, Steps E.P (lone fr bot w) (lone fr' bot w') ∧ fr'.mode = .returning ∧ fr'.defers = [] ∧ fr'.kind = .normal ∧ fr'.fn = fr.fn ∧ E.P.funcs[fr'.fn]? = some fn ∧
      (results fn fr'.tmps).run E.P w' = .ok v' w') : StepQ E γ S fr frs w (backA v cs S') := by
  cases hcs with
  | nil =>
    refine ⟨rfl, fun hr bot => ?_, fun c bot => ⟨γ', v', w', hs c bot, hv, hH, hP⟩⟩
    obtain ⟨fr', fn, g1, g2, g3, g4, g5, g6, g7⟩ := h1 hr bot
    exact ⟨γ', v', fr', w', fn, g1, g2, g3, g4, g5, g6, g7, hv, hH, hP⟩
  | @cons x y l l' hx ht =>
    rw [backA_eq]; unfold backA0
    simp only
    split
    · rename_i c' e1 e2 e3
      have hmd : x.md = .run := by
        cases h : x.md <;> rw [h] at e1 <;> first | rfl | cases e1
      have hf := finishA_ok e3 (hx.mono hP.ext) hmd e2 hv
      intro bot
      refine ⟨γ', y.finish v', l', w', hs y (l' ++ bot), hf, ht.mono hP.ext, hH, hP, ?_⟩
      show lastF (y.finish v') l' = lastF y l'
      exact lastF_eq (finish_fn y v').1 (finish_fn y v').2 l'
    · trivial

theorem put_loop {l : Ps} {L : Loc} {st st' : LoopState} {pend pend' : Option Code} {fn nt : Nat} {tm : Tm} {ps : List Nat} {a b : Code} {d : Ps} (hH : HR γ E.ng S w) (hl : T.get l S.hp = some (.loop st pend fn nt tm ps a b d)) (hL : γ l = some L)
    (hf : Nat.ble S.fl l.idx = true) {tmps : Array Value} {D : Loc} (h2 : w.heap[L.blk]? = some (.loop { state := st, pending := pend, fn := fn, tmps := tmps, params := ⟨ps⟩, assign := a, body := b, defers := D.blk })) (h3 : TR γ tm tmps) (h4 : γ d = some D) (h5 : tmps.size = nt) :
    HR γ E.ng (S.put l (.loop st' pend' fn nt tm ps a b d)) { w with heap := w.heap.setIfInBounds L.blk (.loop { state := st', pending := pend', fn := fn, tmps := tmps, params := ⟨ps⟩, assign := a, body := b, defers := D.blk }) } ∧
    Pres S γ w (S.put l (.loop st' pend' fn nt tm ps a b d)) γ { w with heap := w.heap.setIfInBounds L.blk (.loop { state := st', pending := pend', fn := fn, tmps := tmps, params := ⟨ps⟩, assign := a, body := b, defers := D.blk }) } := by
  have hlt : L.blk < w.heap.size := (Array.getElem?_eq_some_iff.1 h2).1
  refine hH.put hl hL (Nat.le_of_ble_eq_true hf) (by simp) (fun r hr => ?_) ?_ ⟨tmps, D, rfl, h3, h4, h5⟩ rfl rfl
  · show (w.heap.setIfInBounds L.blk _)[r]? = _
    rw [Array.getElem?_setIfInBounds_ne (fun e => hr e.symm)]
  · show (w.heap.setIfInBounds L.blk _)[L.blk]? = _
    rw [Array.getElem?_setIfInBounds_self_of_lt hlt]

/-- a round or a function ends -/
theorem sLeave_ok {j : Option Code} {fn nt : Nat} {tm : Tm} {t k : List AI} {dfs : List AD} {dk : Bool} {rd : Option Ps} {cs : List AF} {k' : List Item}
    (hf : FR γ E ⟨fn, nt, tm, t, dfs, .run, false, dk, rd⟩ fr) (hcs : CsR γ E cs frs) (hH : HR γ E.ng S w)
    (ht : (fr.todo = [] ∧ j = none) ∨ (fr.todo = .code .ret :: k' ∧ j = some .ret) ∨ (∃ id, fr.todo = .code (.exit id) :: k' ∧ exitTo id k' = none ∧ j = some (.exit id))) :
    StepQ E γ S fr frs w (sLeave j E fn nt tm k dfs dk rd cs S) := by
  have hm := hf.mode rfl
  cases rd with
  | none =>
    have key : ∀ (k' : List Item), (fr.todo = [] ∨ fr.todo = .code .ret :: k') → StepQ E γ S fr frs w (.next ⟨fn, nt, tm, [], dfs, .ret, false, dk, none⟩ cs S) := fun k' ht => by
      refine Goes.here hf hcs rfl rfl (fun cs => ⟨γ, { fr with mode := .returning }, w, Steps.one (st_ret hm ht (rd_or hf rfl)), ?_, hH, Pres.refl _ _ _⟩)
      exact ⟨hf.fn, hf.nt, hf.tm, fun e => (by cases e), hf.dfs, .ret, hf.kind, hf.rd, hf.fi⟩
    rcases ht with ⟨h1, rfl⟩ | ⟨h1, rfl⟩ | ⟨id, h1, h2, rfl⟩
    · exact key [] (.inl h1)
    · exact key k' (.inr h1)
    · trivial
  | some l =>
    have hrd : ∃ L, fr.roundOf = some L.blk ∧ γ l = some L := by
      have := hf.rd
      simp only at this
      generalize fr.roundOf = q at this
      cases this with
      | some h => exact ⟨_, rfl, h⟩
    obtain ⟨L, hr, hL⟩ := hrd
    unfold sLeave
    simp only
    split
    · rename_i st pend lf ln lt ps a b d h1 h2
      obtain ⟨tmps, D, g1, g2, g3, g4⟩ := hH.loop h1 hL
      obtain ⟨p1, p2⟩ := put_loop (st' := loopJump j) (pend' := j) hH h1 hL h2 g1 g2 g3 g4
      have e : (if j.isNone then LoopState.ready else .done) = loopJump j := by cases j <;> rfl
      have hk : fr.kind = .normal := hf.kind
      refine backA_ok hcs (.bool j.isNone) p1 p2 (fun c cs => Steps.one ?_) (fun e => by rw [hr] at e; cases e)
      have := st_endRound (P := E.P) (c := c) (cs := cs) (jump := j) hm ht hr hk g1
      rw [e] at this
      exact this
    · trivial

theorem IsR.code {γ : Gm} {c : Code} {k : List AI} {l : List Item} (h : IsR γ (.code c :: k) l) : ∃ k', l = .code c :: k' ∧ IsR γ k k' := by
  cases h with
  | cons hx ht => cases hx with | code => exact ⟨_, rfl, ht⟩
/-- only what is to be done has changed -/
theorem to_ok {fn nt : Nat} {tm : Tm} {t k : List AI} {dfs : List AD} {dk : Bool} {rd : Option Ps} {cs : List AF} {k' : List Item}
    (hf : FR γ E ⟨fn, nt, tm, t, dfs, .run, false, dk, rd⟩ fr) (hcs : CsR γ E cs frs) (hH : HR γ E.ng S w) (hk : IsR γ k k') (hs : ∀ cs, step E.P (lone fr cs w) = .next (lone { fr with todo := k' } cs w)) :
    StepQ E γ S fr frs w (.next ⟨fn, nt, tm, k, dfs, .run, false, dk, rd⟩ cs S) :=
  Goes.here hf hcs rfl rfl (fun cs => ⟨γ, { fr with todo := k' }, w, Steps.one (hs cs), hf.to hk, hH, Pres.refl _ _ _⟩)

/-- results -/
theorem res1_ok (hH : HR γ E.ng S w) {tm : Tm} {tmps : Array Value} (ht : TR γ tm tmps) {r : ResultVar} {x : AV} (hE : E.Ok) (h : res1 E S tm r = some x) :
    ∃ v, ((match r with | .tmp t => pure (tmps.getD t undef) | .cell a t => do loadVar t (← asAddr (tmps.getD a undef)) : Sem Value)).run E.P w = .ok v w ∧ VR γ x v := by
  cases r with
  | tmp t => cases h; exact ⟨_, rfl, ht t⟩
  | cell a t =>
    have ha := ht a
    unfold res1 at h
    simp only at h ⊢
    generalize tmps.getD a undef = u at ha
    split at h
    · rename_i b o e
      rw [e] at ha
      obtain ⟨v, h1, h2⟩ := loadA_ok hE hH h ha
      cases ha with
      | ptr o hL =>
        refine ⟨v, ?_, h2⟩
        simp only [Instr.loadAt, Instr.sureAddr, Sem.run_bind, Sem.run_pure, Result.andThen_ok] at h1
        simp only [asAddr, Sem.run_bind, Sem.run_pure, Result.andThen_ok]
        exact h1
    · cases h
theorem resL_ok (hH : HR γ E.ng S w) {tm : Tm} {tmps : Array Value} (ht : TR γ tm tmps) (hE : E.Ok) : ∀ {l : List ResultVar} {xs : List AV}, resL E S tm l = some xs →
    ∃ vs, (l.mapM (fun r => match r with | .tmp t => pure (tmps.getD t undef) | .cell a t => do loadVar t (← asAddr (tmps.getD a undef)) : ResultVar → Sem Value)).run E.P w = .ok vs w ∧ LR γ xs vs
  | [], xs, h => by cases h; exact ⟨[], rfl, .nil⟩
  | r :: l, xs, h => by
    have h' : (Option.rec none (fun x => Option.rec none (fun t => some (x :: t)) (resL E S tm l)) (res1 E S tm r) : Option (List AV)) = some xs := h
    obtain ⟨x, h1, h2⟩ := recb_ok h'
    obtain ⟨t, h3, h4⟩ := recb_ok h2
    cases h4
    obtain ⟨v, g1, g2⟩ := res1_ok hH ht hE h1
    obtain ⟨vs, g3, g4⟩ := resL_ok hH ht hE h3
    refine ⟨v :: vs, ?_, .cons g2 g4⟩
    rw [List.mapM_cons]
    simp only [Sem.run_bind, g1, g3, Result.andThen_ok, Sem.run_pure]
theorem resA_ok (hH : HR γ E.ng S w) {tm : Tm} {tmps : Array Value} (ht : TR γ tm tmps) (hE : E.Ok) {fn : Func} {x : AV} (h : resA E S tm fn.results.toList = some x) :
    ∃ v, (results fn tmps).run E.P w = .ok v w ∧ VR γ x v := by
  unfold resA at h
  have hrun : ∀ {vs : List Value}, (fn.results.toList.mapM (fun r => match r with | .tmp t => pure (tmps.getD t undef) | .cell a t => do loadVar t (← asAddr (tmps.getD a undef)) : ResultVar → Sem Value)).run E.P w = .ok vs w →
      (results fn tmps).run E.P w = .ok (if h : vs.length = 1 then vs[0] else .tuple ⟨vs⟩) w := by
    intro vs hv
    have hm : (fn.results.mapM (fun r => match r with | .tmp t => pure (tmps.getD t undef) | .cell a t => do loadVar t (← asAddr (tmps.getD a undef)) : ResultVar → Sem Value)).run E.P w = .ok ⟨vs⟩ w := by
      rw [← Array.toArray_toList (xs := fn.results), List.mapM_toArray, Sem.run_map, hv]; rfl
    unfold results
    rw [Sem.run_bind]
    refine (congrArg (fun r => Result.andThen r _) hm).trans ?_
    simp only [Result.andThen_ok, Sem.run_pure]
    rfl
  split at h
  · rename_i x' e
    cases h
    obtain ⟨vs, h1, h2⟩ := resL_ok hH ht hE e
    cases h2 with
    | cons hx hn => cases hn with
      | nil => exact ⟨_, hrun h1, hx⟩
  · rename_i l hn e
    cases h
    obtain ⟨vs, h1, h2⟩ := resL_ok hH ht hE e
    refine ⟨_, hrun h1, ?_⟩
    have : vs.length ≠ 1 := fun e1 => by
      have hl := h2.length
      rw [e1] at hl
      cases l with
      | nil => cases hl
      | cons a l => cases l with
        | nil => exact hn a rfl
        | cons b l => simp at hl
    rw [dif_neg this]
    exact .tup h2
  · cases h
end
end Go.AM
