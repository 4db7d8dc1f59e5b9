import Derived.Test.YtemimkkjkggcoaaGreatDoorGA24
/- The steps of the abstract machine, all. -/
namespace Go.AM

section
variable {E : Env} (hE : E.Ok) {γ : Gm} {S : Hp} {fr : Frame} {frs : List Frame} {w : World}

theorem enterA_fi {f : Nat} {args : List AV} {dk : Bool} {f' : AF} (h : enterA E f args dk = some f') : ∃ i, T.get (Ps.of f) E.funcs = some (some i) := by
  unfold enterA at h
  split at h
  · rename_i i hi; exact ⟨i, hi⟩
  · cases h
include hE in
theorem invoke_run {g : Nat} {i : FI} (hi : T.get (Ps.of g) E.funcs = some (some i)) {first cap args : Array Value} (w : World) :
    (do let d ← Deferred.ofValue (.func (.func g) first cap) args; invoke d.target d.args : Sem Next).run E.P w = .ok (.enter g (first ++ args ++ cap)) w := by
  obtain ⟨fn, g1, g2, g3, g4, g5⟩ := hE.funcs g i hi
  simp only [Deferred.ofValue, Sem.run_bind, Sem.run_pure, Result.andThen_ok, invoke, callFunc, Go.program, Sem.run, g1]
  simp [g5, g2]
include hE in
theorem callFunc_run {g : Nat} {i : FI} (hi : T.get (Ps.of g) E.funcs = some (some i)) (args : Array Value) (w : World) : (callFunc g args).run E.P w = .ok (.enter g args) w := by
  obtain ⟨fn, g1, g2, g3, g4, g5⟩ := hE.funcs g i hi
  simp only [Sem.run_bind, Result.andThen_ok, callFunc, Go.program, Sem.run, g1]
  simp [g5, g2]

include hE in
theorem sRF_ok {f : Operand} {ps : Array Tmp} {a b : Code} {fn nt : Nat} {tm : Tm} {t k : List AI} {dfs : List AD} {dk : Bool} {rd : Option Ps} {cs : List AF} {k' : List Item}
    (hf : FR γ E ⟨fn, nt, tm, t, dfs, .run, false, dk, rd⟩ fr) (hcs : CsR γ E cs frs) (hH : HR γ E.ng S w) (ht : fr.todo = .code (.rangeFunc f ps a b) :: k') (hk : IsR γ k k') :
    StepQ E γ S fr frs w (sRF f ps a b E fn nt tm k dfs dk rd cs S) := by
  have hm := hf.mode rfl
  have hT := hf.tm rfl
  unfold sRF
  split
  · rename_i g first cap hev
    have hv := evX_ok (fr := fr) hT hH.glob hev
    generalize hfe : fr.eval f = fv at hv
    cases hv with
    | @fn _ _ first' cap' _ hfi hca =>
      cases rd with
      | none =>
        simp only
        cases hen : enterA E g (lapp (lapp first [.yl (S.alloc (.dfr false)).nx]) cap) false with
        | none => trivial
        | some f' =>
          obtain ⟨i, hi⟩ := enterA_fi hen
          obtain ⟨hH1, hP1⟩ := hH.alloc (w' := { w with heap := w.heap.push (.deferred (some [])) }) (o := .dfr false) (ob := .deferred (some [])) (siz := 0) rfl rfl rfl rfl
          obtain ⟨hH2, hP2⟩ := hH1.alloc (w' := { w with heap := (w.heap.push (.deferred (some []))).push (.loop { state := .ready, pending := none, fn := fr.fn, tmps := fr.tmps, params := ps, assign := a, body := b, defers := w.heap.size }) })
            (o := .loop .ready none fn nt tm ps.toList a b S.nx) (ob := .loop { state := .ready, pending := none, fn := fr.fn, tmps := fr.tmps, params := ps, assign := a, body := b, defers := w.heap.size }) (siz := 0) rfl rfl rfl
            ⟨fr.tmps, ⟨w.heap.size, 0, 0⟩, by rw [hf.fn], (hT.mono (hP1.ext)).mono (Gm.le_with hH1.nx_none), by
              rw [Gm.with_ne _ _ (fun e => by have := congrArg Ps.idx e; rw [show (S.alloc (.dfr false)).nx = Ps.succ S.nx from rfl, Ps.idx_succ] at this; omega)]; exact Gm.with_same _ _ _, hf.nt⟩
          have hP := hP1.trans hP2
          rw [← hen]
          refine pushA_ok hE (dk := false) (c' := { fr with todo := .inRangeFunc (w.heap.size + 1) :: k', defers := { target := .collected w.heap.size, args := #[] } :: fr.defers }) rfl
            (args' := first' ++ [.func (.yield (w.heap.size + 1)) #[] #[]] ++ cap') (((hfi.mono hP.ext).lapp (.cons (.yl (L := ⟨w.heap.size + 1, 0, 0⟩) ?_) .nil)).lapp (hca.mono hP.ext)) ?_ hcs hH2 hP (fun cs => Steps.one ?_) rfl rfl
          · rw [Gm.with_same]; simp
          · refine ⟨hf.fn, hf.nt, fun _ => hT.mono hP.ext, fun _ => .cons (.inRF (L := ⟨w.heap.size + 1, 0, 0⟩) ?_) (hk.mono hP.ext), .cons (.mark (L := ⟨w.heap.size, 0, 0⟩) ?_) (hf.dfs.mono hP.ext), hf.md.mono hP.ext, hf.kind, ?_, hf.fi⟩
            · rw [Gm.with_same]; simp
            · exact hP2.ext _ _ (Gm.with_same _ _ _)
            · exact hf.rd.mono hP.ext
          · have hr := rd_or hf rfl
            refine st_rangeFunc (mark := [{ target := .collected w.heap.size, args := #[] }]) (w1 := { w with heap := (w.heap.push (.deferred (some []))).push (.loop { state := .ready, pending := none, fn := fr.fn, tmps := fr.tmps, params := ps, assign := a, body := b, defers := w.heap.size }) }) hm ht ?_ ?_
            · rw [hr]
              simp only [Instr.enterLoop, Sem.run_bind, run_newObj, Result.andThen_ok, Sem.run_pure]
              simp
            · rw [hfe, invoke_run hE hi]
              simp
      | some l =>
        simp only
        split
        · rename_i st pend lf ln lt lps la lb d hl
          cases hen : enterA E g (lapp (lapp first [.yl S.nx]) cap) false with
          | none => trivial
          | some f' =>
            obtain ⟨i, hi⟩ := enterA_fi hen
            have hrd : ∃ L, fr.roundOf = some L.blk ∧ γ l = some L := by
              have := hf.rd
              simp only at this
              generalize fr.roundOf = q at this
              cases this with
              | some h => exact ⟨_, rfl, h⟩
            obtain ⟨L, hr, hL⟩ := hrd
            obtain ⟨tmps, D, g1, g2, g3, g4⟩ := hH.loop hl hL
            obtain ⟨hH2, hP⟩ := hH.alloc (w' := { w with heap := w.heap.push (.loop { state := .ready, pending := none, fn := fr.fn, tmps := fr.tmps, params := ps, assign := a, body := b, defers := D.blk }) })
              (o := .loop .ready none fn nt tm ps.toList a b d) (ob := .loop { state := .ready, pending := none, fn := fr.fn, tmps := fr.tmps, params := ps, assign := a, body := b, defers := D.blk }) (siz := 0) rfl rfl rfl
              ⟨fr.tmps, D, by rw [hf.fn], hT.mono (Gm.le_with hH.nx_none), Gm.le_with hH.nx_none _ _ g3, hf.nt⟩
            rw [← hen]
            refine pushA_ok hE (dk := false) (c' := { fr with todo := .inRangeFunc w.heap.size :: k' }) rfl
              (args' := first' ++ [.func (.yield w.heap.size) #[] #[]] ++ cap') (((hfi.mono hP.ext).lapp (.cons (.yl (L := ⟨w.heap.size, 0, 0⟩) (Gm.with_same _ _ _)) .nil)).lapp (hca.mono hP.ext)) ?_ hcs hH2 hP (fun cs => Steps.one ?_) rfl rfl
            · exact ⟨hf.fn, hf.nt, fun _ => hT.mono hP.ext, fun _ => .cons (.inRF (L := ⟨w.heap.size, 0, 0⟩) (Gm.with_same _ _ _)) (hk.mono hP.ext), hf.dfs.mono hP.ext, hf.md.mono hP.ext, hf.kind, hf.rd.mono hP.ext, hf.fi⟩
            · refine st_rangeFunc (mark := []) (w1 := { w with heap := w.heap.push (.loop { state := .ready, pending := none, fn := fr.fn, tmps := fr.tmps, params := ps, assign := a, body := b, defers := D.blk }) }) hm ht ?_ ?_
              · rw [hr]
                simp only [Instr.enterLoop, Instr.getLoop, Sem.run_bind, run_getObj g1 (fun _ _ _ e => by cases e), run_newObj, Result.andThen_ok, Sem.run_pure]
              · rw [hfe, invoke_run hE hi]
                simp
        · trivial
  · trivial

theorem sEndRF_ok {l : Ps} {fn nt : Nat} {tm : Tm} {t k : List AI} {dfs : List AD} {dk : Bool} {rd : Option Ps} {cs : List AF} {k' : List Item} {L : Loc}
    (hf : FR γ E ⟨fn, nt, tm, t, dfs, .run, false, dk, rd⟩ fr) (hcs : CsR γ E cs frs) (hH : HR γ E.ng S w) (ht : fr.todo = .endRangeFunc L.blk :: k') (hL : γ l = some L) (hk : IsR γ k k') :
    StepQ E γ S fr frs w (sEndRF l E fn nt tm k dfs dk rd cs S) := by
  have hm := hf.mode rfl
  unfold sEndRF
  split
  · rename_i st pend lf ln lt ps a b d h1 h2
    obtain ⟨tmps, D, g1, g2, g3, g4⟩ := hH.loop h1 hL
    obtain ⟨p1, p2⟩ := put_loop (st' := .exhausted) (pend' := pend) hH h1 hL h2 g1 g2 g3 g4
    split
    · trivial
    · rename_i hb
      refine Goes.here hf hcs rfl rfl (fun cs => ⟨γ, { fr with todo := (pend.map Item.code).toList ++ k' }, _, Steps.one (st_endLoop hm ht g1 hb), ?_, p1, p2⟩)
      refine hf.to ?_
      cases pend with
      | none => exact hk
      | some c => exact .cons (.code c) hk
  · trivial
theorem sBeg_ok {fn nt : Nat} {tm : Tm} {t k : List AI} {dfs : List AD} {dk : Bool} {rd : Option Ps} {cs : List AF} {k' : List Item}
    (hf : FR γ E ⟨fn, nt, tm, t, dfs, .run, false, dk, rd⟩ fr) (hcs : CsR γ E cs frs) (hH : HR γ E.ng S w) (ht : fr.todo = .beginRound :: k') (hk : IsR γ k k') :
    StepQ E γ S fr frs w (sBeg E fn nt tm k dfs dk rd cs S) := by
  have hm := hf.mode rfl
  unfold sBeg
  cases rd with
  | none => trivial
  | some l =>
    have hrd : ∃ L, fr.roundOf = some L.blk ∧ γ l = some L := by
      have := hf.rd
      simp only at this
      generalize fr.roundOf = q at this
      cases this with
      | some h => exact ⟨_, rfl, h⟩
    obtain ⟨L, hr, hL⟩ := hrd
    simp only
    split
    · rename_i pend lf ln lt ps a b d h1 h2
      obtain ⟨tmps, D, g1, g2, g3, g4⟩ := hH.loop h1 hL
      obtain ⟨p1, p2⟩ := put_loop (st' := .busy) (pend' := pend) hH h1 hL h2 g1 g2 g3 g4
      exact Goes.here hf hcs rfl rfl (fun cs => ⟨γ, { fr with todo := k' }, _, Steps.one (st_begin hm ht hr g1 rfl), hf.to hk, p1, p2⟩)
    · trivial
end
end Go.AM
