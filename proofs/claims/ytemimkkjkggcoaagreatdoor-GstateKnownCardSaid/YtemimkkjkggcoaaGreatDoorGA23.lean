import Derived.Test.YtemimkkjkggcoaaGreatDoorGA22
/- The steps of the abstract machine. -/
namespace Go.AM

section
variable {E : Env} (hE : E.Ok) {γ : Gm} {S : Hp} {fr : Frame} {frs : List Frame} {w : World}

theorem recA_ok {dk : Bool} {cs cs' : List AF} {v : AV} (h : recA dk cs = some (v, cs')) (hcs : CsR γ E cs frs) (hk : fr.kind = if dk then .deferred else .normal) (bot : List Frame) :
    ∃ v' frs', VR γ v v' ∧ CsR γ E cs' frs' ∧ (∀ g, lastF g frs' = lastF g frs) ∧ (tryRecover fr (frs ++ bot) = some (v', frs' ++ bot) ∨ (tryRecover fr (frs ++ bot) = none ∧ v' = .nilIface ∧ frs' = frs)) := by
  cases dk with
  | false =>
    cases h
    refine ⟨.nilIface, frs, .nili, hcs, fun _ => rfl, .inr ⟨?_, rfl, rfl⟩⟩
    obtain ⟨fn, tmps, todo, defers, mode, kind, roundOf⟩ := fr
    simp at hk
    subst hk
    simp [tryRecover]
  | true =>
    obtain ⟨fn, tmps, todo, defers, mode, kind, roundOf⟩ := fr
    simp at hk
    subst hk
    cases hcs with
    | nil => cases h
    | @cons x y l l' hx ht =>
      obtain ⟨xfn, xnt, xtm, xtodo, xdfs, xmd, xlost, xdk, xrd⟩ := x
      have hmd := hx.md
      simp only at hmd
      have other : (∀ u, y.mode ≠ .panicking [{ v := u, recovered := false }]) → (∀ e o, y.mode = .panicking (e :: o) → o = [] ∧ e.goexit = false) → recA true (⟨xfn, xnt, xtm, xtodo, xdfs, xmd, xlost, xdk, xrd⟩ :: l) = some (.nili, ⟨xfn, xnt, xtm, xtodo, xdfs, xmd, xlost, xdk, xrd⟩ :: l) →
          ∃ v' frs', VR γ v v' ∧ CsR γ E cs' frs' ∧ (∀ g, lastF g frs' = lastF g (y :: l')) ∧ (tryRecover { fn, tmps, todo, defers, mode, kind := .deferred, roundOf } (y :: l' ++ bot) = some (v', frs' ++ bot) ∨ (tryRecover { fn, tmps, todo, defers, mode, kind := .deferred, roundOf } (y :: l' ++ bot) = none ∧ v' = .nilIface ∧ frs' = y :: l')) := by
        intro h1 h2 h3
        rw [h3] at h
        cases h
        refine ⟨.nilIface, y :: l', .nili, .cons hx ht, fun _ => rfl, .inr ⟨?_, rfl, rfl⟩⟩
        simp only [tryRecover, List.cons_append]
        split
        · rename_i u o hm
          have := h2 _ _ hm
          obtain ⟨rfl, _⟩ := this
          exact absurd hm (h1 u)
        · rfl
      cases hmd2 : y.mode with
      | run =>
        rw [hmd2] at hmd
        cases hmd
        exact other (fun u e => by rw [hmd2] at e; cases e) (fun e o e' => by rw [hmd2] at e'; cases e') rfl
      | returning =>
        rw [hmd2] at hmd
        cases hmd
        exact other (fun u e => by rw [hmd2] at e; cases e) (fun e o e' => by rw [hmd2] at e'; cases e') rfl
      | panicking ch =>
        rw [hmd2] at hmd
        cases hmd with
        | @pan u u' r hu =>
          cases r with
          | true =>
            exact other (fun u e => by rw [hmd2] at e; simp at e) (fun e o e' => by rw [hmd2] at e'; simp at e'; obtain ⟨rfl, rfl⟩ := e'; exact ⟨rfl, rfl⟩) rfl
          | false =>
            cases h
            refine ⟨u', { y with mode := .panicking [{ v := u', recovered := true }] } :: l', hu, .cons ⟨hx.fn, hx.nt, hx.tm, fun e => (by cases e), hx.dfs, .pan true hu, hx.kind, hx.rd, hx.fi⟩ ht, ?_, .inl ?_⟩
            · intro g
              show lastF { y with mode := .panicking [{ v := u', recovered := true }] } l' = lastF y l'
              exact lastF_eq (fr := y) (fr' := { y with mode := .panicking [{ v := u', recovered := true }] }) rfl rfl l'
            · simp only [tryRecover, List.cons_append, hmd2]

include hE in
theorem afterOps_ok {fn nt : Nat} {k : List AI} {dfs : List AD} {dk : Bool} {rd : Option Ps} {ops : Array Oper} {tm0 : Tm} {S0 : Hp} {γ₀ : Gm} {w₀ : World} {cs : List AF} {rs : RS} (hq : RegQ E S0 γ₀ w₀ fn nt k dfs dk rd ops rs γ fr w)
    (hcs : CsR γ E cs frs) : ∃ S₁, Pres S0 γ₀ w₀ S₁ γ w ∧ StepQ E γ S₁ fr frs w (afterOps ops rs E fn nt tm0 k dfs dk rd cs S0) := by
  cases hq with
  | @done tm S' i _ _ _ hf hH hP =>
    refine ⟨S', hP, ?_⟩
    have hto := hf.todo rfl
    simp only at hto
    generalize hft : fr.todo = ft at hto
    cases hto with
    | @cons _ y _ k' hx ht =>
      cases hx with
      | reg hd =>
        refine Goes.here hf hcs rfl rfl (fun cs => ⟨γ, { fr with todo := k' }, w, Steps.one (st_regionEnd (ops := ops) (hf.mode rfl) hft), ?_, hH, Pres.refl _ _ _⟩)
        exact hf.to ht
  | @stop tm S' i o rest r _ _ _ hf hH hP hw he hr =>
    refine ⟨S', hP, ?_⟩
    obtain ⟨k', ht, ho⟩ := todo_reg hf
    have hm := hf.mode rfl
    have hT := hf.tm rfl
    have hop := evOp_ok hE hT hH he
    cases r with
    | v x S2 => exact absurd rfl (hr _ _)
    | call f args =>
      obtain ⟨vs, h1, h2, _⟩ := hop
      exact pushA_ok hE (dk := false) rfl h2 hf hcs hH (Pres.refl _ _ _) (fun cs => Steps.one (step_enter hm ht ho hw (.inr (evOp_noDefer he (fun d e => by cases e))) h1)) rfl rfl
    | yld l args =>
      obtain ⟨L, vs, hL, h2, h3⟩ := hop
      show StepQ E γ S' fr frs w (pushA (roundA E S' l args) ⟨fn, nt, tm, .reg ops i (o :: rest) :: k, dfs, .run, false, dk, rd⟩ cs S')
      cases hra : roundA E S' l args with
      | none => trivial
      | some f' =>
        obtain ⟨lf, tmps, a, b, g1, g2⟩ := roundA_ok hra hH h2 hL
        intro bot
        exact ⟨γ, _, fr :: frs, w, Steps.one (step_round hm ht ho hw (.inr (evOp_noDefer he (fun d e => by cases e))) ((h3 w).trans g1)), g2, .cons hf hcs, hH, Pres.refl _ _ _, rfl⟩
    | dfr d =>
      obtain ⟨d', h1, h2⟩ := hop
      cases rd with
      | some l => trivial
      | none =>
        show StepQ E γ S' fr frs w (nextO (finishA ⟨fn, nt, tm, .reg ops i (o :: rest) :: k, d :: dfs, .run, false, dk, none⟩ (.tup [])) cs S')
        cases hfi : finishA ⟨fn, nt, tm, .reg ops i (o :: rest) :: k, d :: dfs, .run, false, dk, none⟩ (.tup []) with
        | none => trivial
        | some f' =>
          have hf2 : FR γ E ⟨fn, nt, tm, .reg ops i (o :: rest) :: k, d :: dfs, .run, false, dk, none⟩ { fr with defers := d' :: fr.defers } := ⟨hf.fn, hf.nt, hf.tm, hf.todo, .cons h2 hf.dfs, hf.md, hf.kind, hf.rd, hf.fi⟩
          have hf3 := finishA_ok hfi hf2 rfl rfl .undef
          have e1 : f'.fn = fn ∧ f'.rd = none := by
            simp only [finishA_eq, finishA0] at hfi
            split at hfi
            · cases hfi; exact ⟨rfl, rfl⟩
            · cases hfi
          exact Goes.here hf hcs e1.1 e1.2 (fun cs => ⟨γ, _, w, Steps.one (step_defer hm ht ho hw (rd_or hf rfl) h1), hf3, hH, Pres.refl _ _ _⟩)
    | pan v =>
      obtain ⟨v', h1, h2⟩ := hop
      refine Goes.here hf hcs rfl rfl (fun cs => ⟨γ, _, w, Steps.one (step_panic hm ht ho hw (.inr (evOp_noDefer he (fun d e => by cases e))) h1), ?_, hH, Pres.refl _ _ _⟩)
      have hr : fr.raise [{ v := v', recovered := false }] = { fr with mode := .panicking [{ v := v', recovered := false }] } := by simp [Frame.raise, hm]
      rw [hr]
      exact ⟨hf.fn, hf.nt, hf.tm, fun e => (by cases e), hf.dfs, .pan false h2, hf.kind, hf.rd, hf.fi⟩
    | rcv =>
      cases rd with
      | some l => trivial
      | none =>
        simp only [afterOps_eq, afterOps0]
        cases hrec : recA dk cs with
        | none => trivial
        | some q =>
          obtain ⟨v, cs'⟩ := q
          simp only
          cases hfi : finishA ⟨fn, nt, tm, .reg ops i (o :: rest) :: k, dfs, .run, false, dk, none⟩ v with
          | none => trivial
          | some f' =>
            intro bot
            obtain ⟨v', frs', g1, g2, g3, g4⟩ := recA_ok hrec hcs hf.kind bot
            have hf3 := finishA_ok hfi hf rfl rfl g1
            have hst := step_recover (cs := frs ++ bot) hm ht ho hw (rd_or hf rfl) hop
            refine ⟨γ, fr.finish v', frs', w, Steps.one ?_, hf3, g2, hH, Pres.refl _ _ _, ?_⟩
            · rw [hst]
              rcases g4 with g4 | ⟨g4, rfl, rfl⟩
              · rw [g4]
              · rw [g4]
            · rw [g3]
              refine lastF_eq ?_ ?_ frs
              · unfold Frame.finish; rw [ht]
              · unfold Frame.finish; rw [ht]
end
end Go.AM
