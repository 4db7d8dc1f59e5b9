import Derived.Test.YtemimkkjkggcoaaGreatDoorGA26
/- The step of the abstract machine; runs. -/
namespace Go.AM

/-- what is asked of the way in which drawn regions are done -/
def DrawOk (D : DrawF) (E : Env) : Prop :=
  ∀ (id : Nat) (ops : Array Oper) (fn nt : Nat) (tm : Tm) (t k : List AI) (dfs : List AD) (dk : Bool) (rd : Option Ps) (cs : List AF) (S : Hp) (γ : Gm) (fr : Frame) (frs : List Frame) (w : World) (k' : List Item),
    FR γ E ⟨fn, nt, tm, t, dfs, .run, false, dk, rd⟩ fr → CsR γ E cs frs → HR γ E.ng S w → fr.todo = .code (.region id ops true) :: k' → IsR γ k k' →
    StepQ E γ S fr frs w (sRegion D id ops true E fn nt tm k dfs dk rd cs S)

section
variable {E : Env} (hE : E.Ok) {γ : Gm} {S : Hp} {fr : Frame} {frs : List Frame} {w : World}

include hE in
theorem sReg_ok {ops : Array Oper} {i : Nat} {rest : List Oper} {fn nt : Nat} {tm : Tm} {k : List AI} {dfs : List AD} {dk : Bool} {rd : Option Ps} {cs : List AF}
    (hf : FR γ E ⟨fn, nt, tm, .reg ops i rest :: k, dfs, .run, false, dk, rd⟩ fr) (hcs : CsR γ E cs frs) (hH : HR γ E.ng S w) : StepQ E γ S fr frs w (sReg ops i rest E fn nt tm k dfs dk rd cs S) := by
  unfold sReg
  rcases runOps_ok hE rest i tm S γ fr w hf hH with h | ⟨γ', fr', w', h1, h2⟩
  · rw [h]; trivial
  · have e : Gm.le γ γ' ∧ fr'.fn = fr.fn ∧ fr'.roundOf = fr.roundOf := by
      clear h1
      generalize runOps E nt ops rest i tm S = rs at h2
      cases h2 with
      | done hf2 _ hP => exact ⟨hP.ext, by rw [hf2.fn, hf.fn], RdR.eq hP.ext hf.rd hf2.rd⟩
      | stop hf2 _ hP _ _ _ => exact ⟨hP.ext, by rw [hf2.fn, hf.fn], RdR.eq hP.ext hf.rd hf2.rd⟩
    obtain ⟨S₁, h3, h4⟩ := afterOps_ok hE (tm0 := tm) h2 (hcs.mono e.1)
    exact StepQ.ahead h1 h3 e.2.1 e.2.2 h4

variable {D : DrawF} (hD : DrawOk D E)
include hE hD
theorem sCode_ok {c : Code} {fn nt : Nat} {tm : Tm} {k : List AI} {dfs : List AD} {dk : Bool} {rd : Option Ps} {cs : List AF}
    (hf : FR γ E ⟨fn, nt, tm, .code c :: k, dfs, .run, false, dk, rd⟩ fr) (hcs : CsR γ E cs frs) (hH : HR γ E.ng S w) : StepQ E γ S fr frs w (sCode D c E fn nt tm k dfs dk rd cs S) := by
  have hm := hf.mode rfl
  obtain ⟨k', ht, hk⟩ := IsR.code (hf.todo rfl)
  cases c with
  | skip => exact to_ok hf hcs hH hk (fun cs => st_skip hm ht)
  | label l => exact to_ok hf hcs hH hk (fun cs => st_label hm ht)
  | seq a b => exact to_ok hf hcs hH (.cons (.code a) (.cons (.code b) hk)) (fun cs => st_seq hm ht)
  | block id b => exact to_ok hf hcs hH (.cons (.code b) (.cons (.blk id) hk)) (fun cs => st_block hm ht)
  | loop b => exact to_ok hf hcs hH (.cons (.code b) (.cons (.lop b) hk)) (fun cs => st_loop hm ht)
  | scope b => exact to_ok hf hcs hH (.cons (.code b) (.cons (.scp b) hk)) (fun cs => st_scope hm ht)
  | cond c a b =>
    show StepQ E γ S fr frs w (sCond c a b E fn nt tm k dfs dk rd cs S)
    rw [sCond_eq]
    split
    · rename_i t he
      have hv := evX_ok (fr := fr) (hf.tm rfl) hH.glob he
      generalize hu : fr.eval c = u at hv
      cases hv
      refine to_ok hf hcs hH (.cons ?_ hk) (fun cs => st_cond hm ht hu)
      cases t
      · exact .code b
      · exact .code a
    · trivial
  | exit id =>
    show StepQ E γ S fr frs w (sExit id E fn nt tm k dfs dk rd cs S)
    unfold sExit
    cases he : exitA id k with
    | none => exact sLeave_ok hf hcs hH (.inr (.inr ⟨id, ht, (exitA_ok hk).2 he, rfl⟩))
    | some k2 =>
      obtain ⟨k3, h1, h2⟩ := (exitA_ok hk).1 k2 he
      exact to_ok hf hcs hH h2 (fun cs => st_exit hm ht h1)
  | ret => exact sLeave_ok (k := k) hf hcs hH (.inr (.inl ⟨ht, rfl⟩))
  | goto l => trivial
  | refuse s => trivial
  | rangeFunc f ps a b => exact sRF_ok hE hf hcs hH ht hk
  | region id ops draw =>
    cases draw with
    | true => exact hD id ops fn nt tm _ k dfs dk rd cs S γ fr frs w k' hf hcs hH ht hk
    | false =>
      have hf2 : FR γ E ⟨fn, nt, tm, .reg ops 0 ops.toList :: k, dfs, .run, false, dk, rd⟩ { fr with todo := .inRegion ops (List.range ops.size) :: k' } := by
        have : IsR γ (.reg ops 0 ops.toList :: k) (.inRegion ops (List.range ops.size) :: k') := by
          rw [List.range_eq_range', ← Array.length_toList]
          exact .cons (.reg rfl) hk
        exact hf.to this
      exact StepQ.ahead (fun cs => Steps.one (st_region hm ht)) (Pres.refl S γ w) rfl rfl (sReg_ok hE hf2 hcs hH)
theorem sRun_ok {todo : List AI} {fn nt : Nat} {tm : Tm} {dfs : List AD} {dk : Bool} {rd : Option Ps} {cs : List AF}
    (hf : FR γ E ⟨fn, nt, tm, todo, dfs, .run, false, dk, rd⟩ fr) (hcs : CsR γ E cs frs) (hH : HR γ E.ng S w) : StepQ E γ S fr frs w (sRun D todo E fn nt tm dfs dk rd cs S) := by
  have hm := hf.mode rfl
  have hto := hf.todo rfl
  simp only at hto
  generalize hft : fr.todo = ft at hto
  cases hto with
  | nil => exact sLeave_ok (k := []) (k' := []) hf hcs hH (.inl ⟨hft, rfl⟩)
  | @cons x y l l' hx ht =>
    cases hx with
    | code c => exact sCode_ok hE hD hf hcs hH
    | blk id => exact to_ok hf hcs hH ht (fun cs => st_inBlock hm hft)
    | lop c => exact to_ok hf hcs hH (.cons (.code c) (.cons (.lop c) ht)) (fun cs => st_inLoop hm hft)
    | scp c => exact to_ok hf hcs hH ht (fun cs => st_inScope hm hft)
    | reg h => exact sReg_ok hE hf hcs hH
    | inRF h => trivial
    | endRF h => exact sEndRF_ok hf hcs hH hft h ht
    | beg => exact sBeg_ok hf hcs hH hft ht
theorem stepA_ok {f : AF} {cs : List AF} (hf : FR γ E f fr) (hcs : CsR γ E cs frs) (hH : HR γ E.ng S w) : StepQ E γ S fr frs w (stepA D E f cs S) := by
  obtain ⟨fn, nt, tm, todo, dfs, md, lost, dk, rd⟩ := f
  rw [stepA_eq]; unfold stepA0
  cases md with
  | run =>
    cases lost with
    | true => trivial
    | false => exact sRun_ok hE hD hf hcs hH
  | ret => exact sDefers_ok hE hf (fun e => by cases e) hcs hH (fun e hd => by subst e; exact sReturn_ok hE hf hcs hH hd)
  | pan v r =>
    refine sDefers_ok hE hf (fun e => by cases e) hcs hH (fun e hd => ?_)
    subst e
    cases r with
    | true => trivial
    | false => exact sRaise_ok hE hf hcs hH hd

def RunQ (E : Env) (γ : Gm) (S : Hp) (fr : Frame) (frs : List Frame) (w : World) : SR → Prop
  | .next f cs S' => Goes E γ S fr frs w f cs S'
  | .fin v S' => ((lastF fr frs).2 = none → ∀ bot, ∃ γ' v' fr' w' fn, Steps E.P (lone fr (frs ++ bot) w) (lone fr' bot w') ∧ fr'.mode = .returning ∧ fr'.defers = [] ∧ fr'.kind = .normal ∧ fr'.fn = (lastF fr frs).1 ∧ E.P.funcs[fr'.fn]? = some fn ∧
      (results fn fr'.tmps).run E.P w' = .ok v' w' ∧ VR γ' v v' ∧ HR γ' E.ng S' w' ∧ Pres S γ w S' γ' w') ∧
      (∀ c bot, ∃ γ' v' w', Steps E.P (lone fr (frs ++ c :: bot) w) (lone (c.finish v') bot w') ∧ VR γ' v v' ∧ HR γ' E.ng S' w' ∧ Pres S γ w S' γ' w')
  | .finP v S' => ∀ c bot, ∃ γ' v' w', Steps E.P (lone fr (frs ++ c :: bot) w) (lone (c.raise [{ v := v', recovered := false }]) bot w') ∧ VR γ' v v' ∧ HR γ' E.ng S' w' ∧ Pres S γ w S' γ' w'
  | .bad => True
omit hE hD in
theorem StepQ.run {r : SR} (h : StepQ E γ S fr frs w r) : RunQ E γ S fr frs w r := by
  cases r with
  | next f cs S' => exact h
  | fin v S' => obtain ⟨rfl, h1, h2⟩ := h; exact ⟨h1, h2⟩
  | finP v S' => obtain ⟨rfl, h2⟩ := h; exact h2
  | bad => trivial
omit hE hD in
theorem RunQ.after {f : AF} {cs : List AF} {S1 : Hp} {r : SR} (h : Goes E γ S fr frs w f cs S1)
    (k : ∀ {γ' : Gm} {fr' : Frame} {frs' : List Frame} {w' : World}, FR γ' E f fr' → CsR γ' E cs frs' → HR γ' E.ng S1 w' → RunQ E γ' S1 fr' frs' w' r) : RunQ E γ S fr frs w r := by
  cases r with
  | next f cs S2 =>
    intro bot
    obtain ⟨γ1, fr1, frs1, w1, h1, h2, h3, h4, h5, h6⟩ := h bot
    obtain ⟨γ2, fr2, frs2, w2, g1, g2, g3, g4, g5, g6⟩ := k h2 h3 h4 bot
    exact ⟨γ2, fr2, frs2, w2, Steps.trans h1 g1, g2, g3, g4, h5.trans g5, g6.trans h6⟩
  | fin v S' =>
    refine ⟨fun hr bot => ?_, fun c bot => ?_⟩
    · obtain ⟨γ1, fr1, frs1, w1, h1, h2, h3, h4, h5, h6⟩ := h bot
      obtain ⟨γ2, v', fr', w', fn, g1, g2, g3, g4, g5, g6, g7, g8, g9, g10⟩ := (k h2 h3 h4).1 (by rw [h6]; exact hr) bot
      exact ⟨γ2, v', fr', w', fn, Steps.trans h1 g1, g2, g3, g4, by rw [g5, h6], g6, g7, g8, g9, h5.trans g10⟩
    · obtain ⟨γ1, fr1, frs1, w1, h1, h2, h3, h4, h5, h6⟩ := h (c :: bot)
      obtain ⟨γ2, v', w', g1, g2, g3, g4⟩ := (k h2 h3 h4).2 c bot
      exact ⟨γ2, v', w', Steps.trans h1 g1, g2, g3, h5.trans g4⟩
  | finP v S' =>
    intro c bot
    obtain ⟨γ1, fr1, frs1, w1, h1, h2, h3, h4, h5, h6⟩ := h (c :: bot)
    obtain ⟨γ2, v', w', g1, g2, g3, g4⟩ := k h2 h3 h4 c bot
    exact ⟨γ2, v', w', Steps.trans h1 g1, g2, g3, h5.trans g4⟩
  | bad => trivial
theorem runA_ok (n : Nat) : ∀ {f : AF} {cs : List AF} {S : Hp} {γ : Gm} {fr : Frame} {frs : List Frame} {w : World}, FR γ E f fr → CsR γ E cs frs → HR γ E.ng S w → RunQ E γ S fr frs w (runA D E n f cs S) := by
  induction n with
  | zero =>
    intro f cs S γ fr frs w hf hcs hH bot
    exact ⟨γ, fr, frs, w, Steps.refl _ _, hf, hcs, hH, Pres.refl _ _ _, rfl⟩
  | succ n ih =>
    intro f cs S γ fr frs w hf hcs hH
    have h1 := stepA_ok hE hD hf hcs hH
    have e : runA D E (n + 1) f cs S = SR.rec (runA D E n) .fin .finP .bad (stepA D E f cs S) := rfl
    rw [e]
    generalize stepA D E f cs S = r at h1
    cases r with
    | next f' cs' S' => exact RunQ.after h1 (fun a b c => ih a b c)
    | fin v S' => exact h1.run
    | finP v S' => exact h1.run
    | bad => trivial
end
end Go.AM
