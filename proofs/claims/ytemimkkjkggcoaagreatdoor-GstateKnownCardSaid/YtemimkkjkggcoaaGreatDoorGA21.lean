import Derived.Test.YtemimkkjkggcoaaGreatDoorGA20
/- Regions in the order of the text. -/
namespace Go.AM

/-- the frame goes on by itself -/
def In (E : Env) (fr : Frame) (w : World) (Q : Gm → Frame → World → Prop) : Prop :=
  ∃ γ' fr' w', (∀ cs, Steps E.P (lone fr cs w) (lone fr' cs w')) ∧ Q γ' fr' w'
section
variable {E : Env} (hE : E.Ok) {γ : Gm} {S : Hp} {fr : Frame} {w : World}

theorem wantA_ok {nt : Nat} {ops : Array Oper} {tm : Tm} {o : Oper} {b : Bool} (h : wantA nt ops tm o = some b) {tmps : Array Value} (hs : tmps.size = nt) (ht : TR γ tm tmps) : Region.wanted o (yielded ops tmps) = b := by
  rw [wantA_eq] at h; unfold wantA0 at h
  unfold Region.wanted
  split at h
  · rename_i hg; rw [hg]; cases h; rfl
  · rename_i j want hg
    rw [hg]
    simp only
    split at h
    · rename_i oj hj
      rw [nth_eq, Array.getElem?_toList] at hj
      split at h
      · rename_i d hd
        obtain ⟨h1, h2⟩ := rec_some h
        rw [nat_blt_decide] at h1
        have hlt : d < tmps.size := by rw [hs]; exact of_decide_eq_true h1
        have hv := ht d
        have hy : yielded ops tmps j = (match tmps[d] with | .bool b => some b | _ => none) := by
          unfold yielded
          simp only [hj, hd, Option.bind_some, Array.getElem?_eq_getElem hlt]
          cases tmps[d] <;> rfl
        have hget : tmps.getD d Go.undef = tmps[d] := by simp [Array.getD, hlt]
        rw [hget] at hv
        rw [hy]
        split at h2
        · rename_i c hc
          rw [hc] at hv
          cases h2
          generalize tmps[d] = u at hv
          cases hv
          cases c <;> cases want <;> rfl
        · rename_i hnb
          cases h2
          generalize tmps[d] = u at hv
          generalize tget tm d = t at hv hnb
          cases hv <;> first | exact absurd rfl (hnb _) | rfl
      · cases h
    · cases h

theorem todo_reg {γ : Gm} {E : Env} {fn nt : Nat} {tm : Tm} {ops : Array Oper} {i : Nat} {o : Oper} {rest : List Oper} {k : List AI} {dfs : List AD} {lost dk : Bool} {rd : Option Ps} {fr : Frame}
    (h : FR γ E ⟨fn, nt, tm, .reg ops i (o :: rest) :: k, dfs, .run, lost, dk, rd⟩ fr) : ∃ k', fr.todo = .inRegion ops (i :: List.range' (i + 1) rest.length) :: k' ∧ ops[i]? = some o := by
  have := h.todo rfl
  simp only at this
  generalize fr.todo = ft at this
  cases this with
  | cons hx ht =>
    cases hx with
    | reg hd =>
      obtain ⟨ho, _⟩ := drop_cons hd
      exact ⟨_, by rw [range'_cons], ho⟩
theorem rd_or {γ : Gm} {E : Env} {f : AF} {fr : Frame} (h : FR γ E f fr) (hr : f.rd = none) : fr.roundOf = none := by
  have := h.rd
  rw [hr] at this
  generalize fr.roundOf = r at this
  cases this; rfl
theorem evOp_noDefer {o : Oper} {E : Env} {tm : Tm} {S : Hp} {r : RO} (h : evOp o.op E tm S o.type = some r) (hr : ∀ d, r ≠ .dfr d) : ∀ c, o.op ≠ .defer c := by
  intro c e
  rw [e] at h
  obtain ⟨args, h1, h2⟩ := recb_ok (o := evXs E.ng tm c.args.toList) h
  cases hc : c.callee with
  | value f =>
    rw [hc] at h2
    obtain ⟨fv, h3, h4⟩ := b1_ok h2
    split at h4
    · cases h4; exact hr _ rfl
    · cases h4
  | invoke a b => rw [hc] at h2; cases h2
  | builtin b => rw [hc] at h2; cases h2

/-- behind a region, or before an operation that is no mere value -/
inductive RegQ (E : Env) (S : Hp) (γ : Gm) (w : World) (fn nt : Nat) (k : List AI) (dfs : List AD) (dk : Bool) (rd : Option Ps) (ops : Array Oper) : RS → Gm → Frame → World → Prop where
  | done {tm : Tm} {S' : Hp} {i : Nat} {γ' : Gm} {fr' : Frame} {w' : World} (hf : FR γ' E ⟨fn, nt, tm, .reg ops i [] :: k, dfs, .run, false, dk, rd⟩ fr') (hH : HR γ' E.ng S' w') (hP : Pres S γ w S' γ' w') :
      RegQ E S γ w fn nt k dfs dk rd ops (.done tm S') γ' fr' w'
  | stop {tm : Tm} {S' : Hp} {i : Nat} {o : Oper} {rest : List Oper} {r : RO} {γ' : Gm} {fr' : Frame} {w' : World} (hf : FR γ' E ⟨fn, nt, tm, .reg ops i (o :: rest) :: k, dfs, .run, false, dk, rd⟩ fr') (hH : HR γ' E.ng S' w')
      (hP : Pres S γ w S' γ' w') (hw : Region.wanted o (yielded ops fr'.tmps) = true) (he : evOp o.op E tm S' o.type = some r) (hr : ∀ x S, r ≠ .v x S) : RegQ E S γ w fn nt k dfs dk rd ops (.stop tm S' i (o :: rest) r) γ' fr' w'

include hE in
theorem runOps_ok {fn nt : Nat} {k : List AI} {dfs : List AD} {dk : Bool} {rd : Option Ps} {ops : Array Oper} : ∀ (rest : List Oper) (i : Nat) (tm : Tm) (S : Hp) (γ : Gm) (fr : Frame) (w : World),
    FR γ E ⟨fn, nt, tm, .reg ops i rest :: k, dfs, .run, false, dk, rd⟩ fr → HR γ E.ng S w → (runOps E nt ops rest i tm S = .bad) ∨ In E fr w (RegQ E S γ w fn nt k dfs dk rd ops (runOps E nt ops rest i tm S))
  | [], i, tm, S, γ, fr, w, hf, hH => .inr ⟨γ, fr, w, fun cs => Steps.refl _ _, .done hf hH (Pres.refl _ _ _)⟩
  | o :: rest, i, tm, S, γ, fr, w, hf, hH => by
    have e : runOps E nt ops (o :: rest) i tm S = runOp E nt ops o rest i tm S (fun i tm S => runOps E nt ops rest i tm S) := rfl
    rw [e]
    obtain ⟨k', ht, ho⟩ := todo_reg hf
    have hm := hf.mode rfl
    have hT := hf.tm rfl
    rw [runOp_eq]; unfold runOp0
    cases hw : wantA nt ops tm o with
    | none => exact .inl rfl
    | some b =>
      have hwd := wantA_ok hw hf.nt hT
      cases b with
      | false =>
        simp only
        cases hp : putD nt o.dst (.tup []) tm with
        | none => exact .inl rfl
        | some tm' =>
          simp only
          have hfin : finishA ⟨fn, nt, tm, .reg ops i (o :: rest) :: k, dfs, .run, false, dk, rd⟩ (.tup []) = some ⟨fn, nt, tm', .reg ops (i + 1) rest :: k, dfs, .run, false, dk, rd⟩ := by
            simp only [finishA_eq, finishA0, hp]
          have hf2 := finishA_ok hfin hf rfl rfl .undef
          rcases runOps_ok rest (i + 1) tm' S γ _ w hf2 hH with h | ⟨γ', fr', w', h1, h2⟩
          · exact .inl h
          · exact .inr ⟨γ', fr', w', fun cs => Steps.head (step_unwanted hm ht ho hwd) (h1 cs), h2⟩
      | true =>
        simp only
        cases hev : evOp o.op E tm S o.type with
        | none => exact .inl rfl
        | some r =>
          have hop := evOp_ok hE hT hH hev
          cases r with
          | v x S' =>
            simp only
            cases hp : putD nt o.dst x tm with
            | none => exact .inl rfl
            | some tm' =>
              simp only
              obtain ⟨γ₁, v, w₁, hr, hv, hH1, hP1⟩ := hop
              have hfin : finishA ⟨fn, nt, tm, .reg ops i (o :: rest) :: k, dfs, .run, false, dk, rd⟩ x = some ⟨fn, nt, tm', .reg ops (i + 1) rest :: k, dfs, .run, false, dk, rd⟩ := by
                simp only [finishA_eq, finishA0, hp]
              have hf2 := finishA_ok hfin (hf.mono hP1.ext) rfl rfl hv
              rcases runOps_ok rest (i + 1) tm' S' γ₁ _ w₁ hf2 hH1 with h | ⟨γ', fr', w', h1, h2⟩
              · exact .inl h
              · refine .inr ⟨γ', fr', w', fun cs => Steps.head (step_val hm ht ho hwd (.inr (evOp_noDefer hev (fun d e => by cases e))) hr) (h1 cs), ?_⟩
                generalize runOps E nt ops rest (i + 1) tm' S' = rs at h2
                cases h2 with
                | done a b c => exact .done a b (hP1.trans c)
                | stop a b c d e f => exact .stop a b (hP1.trans c) d e f
          | call f args => exact .inr ⟨γ, fr, w, fun cs => Steps.refl _ _, .stop hf hH (Pres.refl _ _ _) hwd hev (fun _ _ e => by cases e)⟩
          | yld l args => exact .inr ⟨γ, fr, w, fun cs => Steps.refl _ _, .stop hf hH (Pres.refl _ _ _) hwd hev (fun _ _ e => by cases e)⟩
          | dfr d => exact .inr ⟨γ, fr, w, fun cs => Steps.refl _ _, .stop hf hH (Pres.refl _ _ _) hwd hev (fun _ _ e => by cases e)⟩
          | pan v => exact .inr ⟨γ, fr, w, fun cs => Steps.refl _ _, .stop hf hH (Pres.refl _ _ _) hwd hev (fun _ _ e => by cases e)⟩
          | rcv => exact .inr ⟨γ, fr, w, fun cs => Steps.refl _ _, .stop hf hH (Pres.refl _ _ _) hwd hev (fun _ _ e => by cases e)⟩
end
end Go.AM
