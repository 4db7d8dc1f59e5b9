import Derived.Test.YtemimkkjkggcoaaGreatDoorGA40
/- Drawn regions within the machine; the tower of machines; calls. -/
namespace Go.AM

noncomputable def callA (D : DrawF) (E : Env) (N : Nat) : CallF := fun f args H => match enterA E f args false with | some f' => runA D E N f' [] H | none => .bad
noncomputable def drawF (N : Nat) (n : Nat) : DrawF :=
  Nat.rec (motive := fun _ => DrawF) (fun _ _ _ _ _ _ _ _ _ => none) (fun _ ih E _ nt tm ops _ _ _ S => drawA (callA ih E N) E nt ops tm S) n

section
variable {E : Env} (hE : E.Ok)
include hE
theorem callA_ok {D : DrawF} (hD : DrawOk D E) (N : Nat) : CallOk (callA D E N) E := by
  intro f args H γ w args' hH ha
  unfold callA
  cases hen : enterA E f args false with
  | none => exact ⟨fun x S' e => (by cases e), fun x S' e => (by cases e)⟩
  | some f' =>
    have hf := enterA_ok hE hen ha
    have hr := runA_ok hE hD N hf .nil hH
    simp only
    refine ⟨fun x S' e => ?_, fun x S' e => ?_⟩
    · rw [e] at hr
      exact hr.2
    · rw [e] at hr
      exact hr
theorem drawA_ok {CALL : CallF} (hC : CallOk CALL E) (hmix : E.P.follows .mixedOrders = true) : DrawOk (fun E _ nt tm ops _ _ _ S => drawA CALL E nt ops tm S) E := by
  intro id ops fn nt tm t k dfs dk rd cs S γ fr frs w k' hf hcs hH hto hk
  unfold sRegion
  simp only
  cases hd : drawA CALL E nt ops tm S with
  | none => trivial
  | some r =>
    obtain ⟨ms, P, oc, hpl, hq, hfl, hng, hr⟩ := draw1_ok hd
    have hm := hf.mode rfl
    have hH1 : HR γ E.ng S { w with drawn := w.drawn + 1 } := hH.drew rfl
    have hstart := hpl.start rfl rfl hH1 (hf.tm rfl) hf.nt
    have hV := schedule_valid ops (w.tape w.drawn (.order fr.fn id))
    have hst : ∀ cs, step E.P (lone fr cs w) = .next (lone { fr with todo := .inRegion ops (Region.schedule true ops (w.tape w.drawn (.order fr.fn id))) :: k' } cs { w with drawn := w.drawn + 1 }) := fun cs => by
      have := st_draw (P := E.P) (cs := cs) (w := w) hm hto
      rw [hmix] at this; exact this
    have hrun := fun cs => hpl.run hE hC hq rfl rfl hng hfl (cs := cs) (k' := k') hV (by simp) (fr := { fr with todo := .inRegion ops (Region.schedule true ops (w.tape w.drawn (.order fr.fn id))) :: k' }) hstart hm rfl
    rcases hr with ⟨p, v, hp, hpn, rfl⟩ | ⟨hpn, rfl⟩
    · intro bot
      rcases hrun (frs ++ bot) with ⟨γ', w', l', tmps', h1, h2⟩ | ⟨i, v2, hp2, hi, h1, v', γ', w', tmps', L', h2, h3, h4, h5, h6⟩
      · have := (hpl.fin rfl rfl hfl h2).1
        rw [hpn] at this; cases this
      · have := hpl.pan2 (Nat.le_refl _) hi h1
        rw [hpn] at this; cases this
        have hraise : (({ fr with tmps := tmps', todo := .inRegion ops L' :: k' } : Frame).raise [{ v := v', recovered := false }]) = { fr with tmps := tmps', todo := .inRegion ops L' :: k', mode := .panicking [{ v := v', recovered := false }] } := by
          simp [Frame.raise, hm]
        have h3' : Steps E.P (lone { fr with todo := .inRegion ops (Region.schedule true ops (w.tape w.drawn (.order fr.fn id))) :: k' } (frs ++ bot) { w with drawn := w.drawn + 1 })
            (lone { fr with tmps := tmps', todo := .inRegion ops L' :: k', mode := .panicking [{ v := v', recovered := false }] } (frs ++ bot) w') := by
          rw [← hraise]; exact h3
        refine ⟨γ', _, frs, w', Steps.head (hst _) h3', ⟨hf.fn, h2, fun e => (by cases e), fun e => (by cases e), hf.dfs.mono h6.ext, .pan false h4, hf.kind, hf.rd.mono h6.ext, hf.fi⟩, hcs.mono h6.ext, h5, h6.drew rfl rfl rfl, ?_⟩
        exact lastF_eq (fr := fr) (fr' := { fr with tmps := tmps', todo := .inRegion ops L' :: k', mode := .panicking [{ v := v', recovered := false }] }) rfl rfl frs
    · intro bot
      rcases hrun (frs ++ bot) with ⟨γ', w', l', tmps', h1, h2⟩ | ⟨i, v2, hp2, hi, h1, _⟩
      · obtain ⟨_, g1, g2, g3, g4⟩ := hpl.fin rfl rfl hfl h2
        have h4 : step E.P (lone { fr with tmps := tmps', todo := .inRegion ops [] :: k' } (frs ++ bot) w') = .next (lone { fr with tmps := tmps', todo := k' } (frs ++ bot) w') :=
          st_regionEnd (fr := { fr with tmps := tmps', todo := .inRegion ops [] :: k' }) (ops := ops) hm rfl
        refine ⟨γ', { fr with tmps := tmps', todo := k' }, frs, w', Steps.head (hst _) (Steps.trans h1 (Steps.one h4)), ⟨hf.fn, g2, fun _ => g1, fun _ => hk.mono g4.ext, hf.dfs.mono g4.ext, hf.md.mono g4.ext, hf.kind, hf.rd.mono g4.ext, hf.fi⟩, hcs.mono g4.ext, g3, g4.drew rfl rfl rfl, ?_⟩
        exact lastF_eq (fr := fr) (fr' := { fr with tmps := tmps', todo := k' }) rfl rfl frs
      · have := hpl.pan2 (Nat.le_refl _) hi h1
        rw [hpn] at this; cases this
theorem drawF_ok (hmix : E.P.follows .mixedOrders = true) (N : Nat) (n : Nat) : DrawOk (drawF N n) E := by
  induction n with
  | zero =>
    intro id ops fn nt tm t k dfs dk rd cs S γ fr frs w k' hf hcs hH hto hk
    trivial
  | succ n ih => exact drawA_ok hE (callA_ok hE ih N) hmix
end
end Go.AM
