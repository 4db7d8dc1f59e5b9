import Derived.Test.YtemimkkjkggcoaaGreatDoorGA21
/- New frames; ends of frames. -/
namespace Go.AM

section
variable {E : Env} (hE : E.Ok) {γ : Gm} {S : Hp} {fr : Frame} {frs : List Frame} {w : World}

def Fin (E : Env) (γ : Gm) (S : Hp) (fr : Frame) (w : World) (v : AV) (S' : Hp) : Prop :=
  (fr.roundOf = none → ∀ bot, ∃ γ' v' fr' w' fn, Steps E.P (lone fr bot w) (lone fr' bot w') ∧ fr'.mode = .returning ∧ fr'.defers = [] ∧ fr'.kind = .normal ∧ fr'.fn = fr.fn ∧ E.P.funcs[fr'.fn]? = some fn ∧
    (results fn fr'.tmps).run E.P w' = .ok v' w' ∧ VR γ' v v' ∧ HR γ' E.ng S' w' ∧ Pres S γ w S' γ' w') ∧
  (∀ c bot, ∃ γ' v' w', Steps E.P (lone fr (c :: bot) w) (lone (c.finish v') bot w') ∧ VR γ' v v' ∧ HR γ' E.ng S' w' ∧ Pres S γ w S' γ' w')
def FinP (E : Env) (γ : Gm) (S : Hp) (fr : Frame) (w : World) (v : AV) (S' : Hp) : Prop :=
  ∀ c bot, ∃ γ' v' w', Steps E.P (lone fr (c :: bot) w) (lone (c.raise [{ v := v', recovered := false }]) bot w') ∧ VR γ' v v' ∧ HR γ' E.ng S' w' ∧ Pres S γ w S' γ' w'
def StepQ (E : Env) (γ : Gm) (S : Hp) (fr : Frame) (frs : List Frame) (w : World) : SR → Prop
  | .next f cs S' => Goes E γ S fr frs w f cs S'
  | .fin v S' => frs = [] ∧ Fin E γ S fr w v S'
  | .finP v S' => frs = [] ∧ FinP E γ S fr w v S'
  | .bad => True

/-- some steps ahead -/
theorem StepQ.ahead {γ₁ : Gm} {S₁ : Hp} {fr₁ : Frame} {w₁ : World} {r : SR} (hs : ∀ cs, Steps E.P (lone fr cs w) (lone fr₁ cs w₁)) (hP : Pres S γ w S₁ γ₁ w₁) (hfn : fr₁.fn = fr.fn) (hrd : fr₁.roundOf = fr.roundOf)
    (h : StepQ E γ₁ S₁ fr₁ frs w₁ r) : StepQ E γ S fr frs w r := by
  cases r with
  | next f cs S' =>
    intro bot
    obtain ⟨γ', fr', frs', w', h1, h2, h3, h4, h5, h6⟩ := h bot
    exact ⟨γ', fr', frs', w', Steps.trans (hs _) h1, h2, h3, h4, hP.trans h5, h6.trans (lastF_eq hfn hrd frs)⟩
  | fin v S' =>
    obtain ⟨h0, h1, h2⟩ := h
    refine ⟨h0, fun hr bot => ?_, fun c bot => ?_⟩
    · obtain ⟨γ', v', fr', w', fn, g1, g2, g3, g4, g5, g6, g7, g8, g9, g10⟩ := h1 (by rw [hrd]; exact hr) bot
      exact ⟨γ', v', fr', w', fn, Steps.trans (hs _) g1, g2, g3, g4, g5.trans hfn, g6, g7, g8, g9, hP.trans g10⟩
    · obtain ⟨γ', v', w', g1, g2, g3, g4⟩ := h2 c bot
      exact ⟨γ', v', w', Steps.trans (hs _) g1, g2, g3, hP.trans g4⟩
  | finP v S' =>
    obtain ⟨h0, h2⟩ := h
    refine ⟨h0, fun c bot => ?_⟩
    obtain ⟨γ', v', w', g1, g2, g3, g4⟩ := h2 c bot
    exact ⟨γ', v', w', Steps.trans (hs _) g1, g2, g3, hP.trans g4⟩
  | bad => trivial

/-! entering a function -/
theorem tget_argT (l : List AV) : ∀ (j : Nat) (t : Tm) (i : Nat), tget (argT l j t) i = if j ≤ i ∧ i < j + l.length then (l[i - j]?).getD (.tup []) else tget t i := by
  induction l with
  | nil =>
    intro j t i
    show tget t i = _
    rw [if_neg (fun h => by simp only [List.length_nil] at h; omega)]
  | cons v l ih =>
    intro j t i
    show tget (argT l (j + 1) (tset j v t)) i = _
    rw [ih (j + 1)]
    by_cases e : i = j
    · subst e
      rw [if_neg (by omega), if_pos (by simp)]
      rw [tget_same]; simp
    · by_cases h : j + 1 ≤ i ∧ i < j + 1 + l.length
      · rw [if_pos h, if_pos (by simp; omega)]
        rw [show i - j = (i - (j + 1)) + 1 from by omega]; simp
      · rw [if_neg h, if_neg (by simp; omega)]
        rw [tget_ne (fun e' => e e'.symm)]
theorem argT_ok {l : List AV} {l' : List Value} (h : LR γ l l') (n : Nat) : TR γ (argT l 0 te) ((⟨l'⟩ : Array Value) ++ Array.replicate n undef) := by
  intro i
  rw [tget_argT]
  have hl := h.length
  by_cases e : i < l.length
  · rw [if_pos ⟨Nat.zero_le _, by omega⟩, Nat.sub_zero]
    have hx : l[i]? = some l[i] := List.getElem?_eq_getElem e
    obtain ⟨y, hy, hv⟩ := h.nth i hx
    rw [hx]
    have : ((⟨l'⟩ : Array Value) ++ Array.replicate n undef).getD i Go.undef = y := by
      rw [Array.getD_eq_getD_getElem?, Array.getElem?_append_left (by simp; omega), List.getElem?_toArray, hy]; rfl
    rw [this]; exact hv
  · rw [if_neg (by omega)]
    have h1 : tget te i = .tup [] := tget_te i
    have h2 : ((⟨l'⟩ : Array Value) ++ Array.replicate n undef).getD i Go.undef = Go.undef := by
      rw [Array.getD_eq_getD_getElem?, Array.getElem?_append_right (by simp; omega)]
      rw [Array.getElem?_replicate]
      split <;> rfl
    rw [h1, h2]; exact .undef
include hE in
theorem enterA_ok {f : Nat} {args : List AV} {dk : Bool} {f' : AF} (h : enterA E f args dk = some f') {args' : List Value} (ha : LR γ args args') : FR γ E f' (Frame.enter E.P f ⟨args'⟩ (if dk then .deferred else .normal)) := by
  unfold enterA at h
  split at h
  · rename_i i hi
    obtain ⟨h1, h2⟩ := rec_some h
    cases h2
    rw [llen_eq] at h1
    have hle := Nat.le_of_ble_eq_true h1
    obtain ⟨fn, g1, g2, g3, g4, g5⟩ := hE.funcs f i hi
    have hl := ha.length
    refine ⟨rfl, ?_, fun _ => ?_, fun _ => ?_, .nil, .run, rfl, .none, i, hi⟩
    · simp only [Frame.enter, g1, Option.map_some, Option.getD_some, g3]
      simp; omega
    · exact argT_ok ha _
    · simp only [Frame.enter, g1, Option.bind_some, g2, Option.getD_some]
      exact .cons (.code _) .nil
  · cases h
include hE in
theorem pushA_ok {f' : Option AF} {c : AF} {cs : List AF} {S' : Hp} {g : Nat} {args : List AV} {dk : Bool} (hf' : f' = enterA E g args dk) {γ' : Gm} {c' : Frame} {w' : World} {args' : List Value} (ha : LR γ' args args')
    (hc : FR γ' E c c') (hcs : CsR γ E cs frs) (hH : HR γ' E.ng S' w') (hP : Pres S γ w S' γ' w')
    (hs : ∀ cs, Steps E.P (lone fr cs w) (lone (Frame.enter E.P g ⟨args'⟩ (if dk then .deferred else .normal)) (c' :: cs) w')) (hfn : c'.fn = fr.fn) (hrd : c'.roundOf = fr.roundOf) :
    StepQ E γ S fr frs w (pushA f' c cs S') := by
  subst hf'
  cases h : enterA E g args dk with
  | none => trivial
  | some f' =>
    intro bot
    exact ⟨γ', _, c' :: frs, w', hs _, enterA_ok hE h ha, .cons hc (hcs.mono hP.ext), hH, hP, lastF_eq hfn hrd frs⟩
theorem parT_ok {nt : Nat} {ps : List Nat} : ∀ {args : List AV} {tm tm' : Tm} {args' : List Value} {tmps : Array Value}, parT nt ps args tm = some tm' → LR γ args args' → TR γ tm tmps → tmps.size = nt →
    args'.length = ps.length ∧ TR γ tm' ((ps.zip args').foldl (fun (a : Array Value) (p : Nat × Value) => a.setIfInBounds p.1 p.2) tmps) ∧ ((ps.zip args').foldl (fun (a : Array Value) (p : Nat × Value) => a.setIfInBounds p.1 p.2) tmps).size = nt := by
  induction ps with
  | nil =>
    intro args tm tm' args' tmps h ha ht hs
    cases ha with
    | nil => cases h; exact ⟨rfl, ht, hs⟩
    | cons _ _ => cases h
  | cons p ps ih =>
    intro args tm tm' args' tmps h ha ht hs
    cases ha with
    | nil => cases h
    | @cons x y l l' hv htl =>
      obtain ⟨h1, h2⟩ := rec_some (b := Nat.blt p nt) h
      rw [nat_blt_decide] at h1
      have hlt : p < tmps.size := by rw [hs]; exact of_decide_eq_true h1
      obtain ⟨g1, g2, g3⟩ := ih (tmps := tmps.setIfInBounds p y) h2 htl (ht.set hlt hv) (by simpa using hs)
      exact ⟨by simp [g1], g2, g3⟩
theorem HR.loop {ng : Nat} (h : HR γ ng S w) {l : Ps} {st : LoopState} {pend : Option Code} {fn nt : Nat} {tm : Tm} {ps : List Nat} {a b : Code} {d : Ps} {L : Loc} (hl : T.get l S.hp = some (.loop st pend fn nt tm ps a b d)) (hL : γ l = some L) :
    ∃ tmps D, w.heap[L.blk]? = some (.loop { state := st, pending := pend, fn := fn, tmps := tmps, params := ⟨ps⟩, assign := a, body := b, defers := D.blk }) ∧ TR γ tm tmps ∧ γ d = some D ∧ tmps.size = nt := by
  obtain ⟨M, ob, h1, h2, tmps, D, rfl, h3, h4, h5⟩ := h.obj l _ hl
  rw [hL] at h1; cases h1
  exact ⟨tmps, D, h2, h3, h4, h5⟩
theorem roundA_ok {l : Ps} {args : List AV} {f' : AF} (h : roundA E S l args = some f') (hH : HR γ E.ng S w) {args' : List Value} (ha : LR γ args args') {L : Loc} (hL : γ l = some L) :
    ∃ fn tmps a b, (Instr.yield L.blk ⟨args'⟩).run E.P w = .ok (.round L.blk fn tmps a b) w ∧ FR γ E f' (Frame.round L.blk fn tmps a b .normal) := by
  unfold roundA at h
  split at h
  · rename_i st pend fn nt tm ps a b d hl
    split at h
    · rename_i tm' i hp hi
      cases h
      obtain ⟨tmps, D, h1, h2, h3, h4⟩ := hH.loop hl hL
      obtain ⟨g1, g2, g3⟩ := parT_ok hp ha h2 h4
      refine ⟨fn, _, a, b, ?_, ⟨rfl, g3, fun _ => g2, fun _ => .cons (.code a) (.cons .beg (.cons (.code b) .nil)), .nil, .run, rfl, .some hL, i, hi⟩⟩
      simp only [Instr.yield, Instr.getLoop, Sem.run_bind, run_getObj h1 (fun _ _ _ e => by cases e), Result.andThen_ok, Sem.run_pure]
      rw [if_neg (by simp [g1])]
      simp only [Sem.run_pure]
      congr 2
      rw [← Array.foldl_toList, Array.toList_zip]
    · cases h
  · cases h
end
end Go.AM
