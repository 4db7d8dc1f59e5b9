import Derived.Test.YtemimkkjkggcoaaGreatDoorGA33
/- The slots over the pass. -/
namespace Go.AM

theorem putD_get {nt : Nat} {d : Option Nat} {v : AV} {tm tm' : Tm} (h : putD nt d v tm = some tm') (t : Nat) : (d = some t → tget tm' t = v ∧ t < nt) ∧ (d ≠ some t → tget tm' t = tget tm t) := by
  cases d with
  | none => cases h; exact ⟨fun e => (by cases e), fun _ => rfl⟩
  | some d =>
    obtain ⟨h1, h2⟩ := rec_some (b := Nat.blt d nt) h
    cases h2
    rw [nat_blt_decide] at h1
    constructor
    · intro e
      cases e
      exact ⟨tget_same _ _ _, of_decide_eq_true h1⟩
    · intro e
      exact tget_ne (fun e' => e (by rw [e'])) _ _

/-- slot t after the operations in X have written -/
def SlotIs (ops : Array Oper) (oc : Nat → Oc) (tm0 tm : Tm) (X : Nat → Prop) : Prop :=
  ∀ t, (∀ p o v, X p → ops[p]? = some o → o.dst = some t → (oc p).val = some v → tget tm t = v) ∧
    ((∀ p o v, X p → ops[p]? = some o → (oc p).val = some v → o.dst ≠ some t) → tget tm t = tget tm0 t)
section
variable {CALL : CallF} {E : Env} {nt : Nat} {ops : Array Oper} {fl : Nat} {ms : List Nat} {P : Nat → PSt} {oc : Nat → Oc} {tm0 : Tm} {B0 : T AO} {K0 : Ps} (h : Plan CALL E nt ops fl ms P oc tm0 B0 K0)
theorem OcR.tm {i : Nat} {o : Oper} {m : Nat} {s s' : PSt} {c : Oc} (h : OcR CALL E nt ops fl i o m s c s') : (∀ v, c.val = some v → putD nt o.dst v s.tm = some s'.tm) ∧ (c.val = none → s'.tm = s.tm) := by
  cases h <;> first | exact ⟨fun v e => (by cases e; assumption), fun e => (by cases e)⟩ | exact ⟨fun v e => (by cases e), fun _ => rfl⟩
include h
theorem Plan.dst_ne {i j : Nat} {oi oj : Oper} (hi : ops[i]? = some oi) (hj : ops[j]? = some oj) (hne : i ≠ j) {d : Nat} (hd : oj.dst = some d) : oi.dst ≠ some d := by
  obtain ⟨_, mi, _, h1, _⟩ := h.at (Array.getElem?_eq_some_iff.1 hi).1
  obtain ⟨_, mj, _, h2, _⟩ := h.at (Array.getElem?_eq_some_iff.1 hj).1
  exact (h.slots.apart i j oi oj mi mj d hi hj h1 h2 hne hd).1
/-- one more operation writes -/
theorem Plan.slot_step {X : Nat → Prop} {tm tm' : Tm} (hX : SlotIs ops oc tm0 tm X) {i : Nat} {o : Oper} (ho : ops[i]? = some o)
    (hv : ∀ v, (oc i).val = some v → putD nt o.dst v tm = some tm') (hn : (oc i).val = none → tm' = tm) : SlotIs ops oc tm0 tm' (fun p => X p ∨ p = i) := by
  intro t
  cases hval : (oc i).val with
  | none =>
    rw [hn hval]
    refine ⟨fun p o' v hp ho' hd hv' => ?_, fun hh => ?_⟩
    · rcases hp with hp | rfl
      · exact (hX t).1 p o' v hp ho' hd hv'
      · rw [hval] at hv'; cases hv'
    · exact (hX t).2 (fun p o' v hp => hh p o' v (.inl hp))
  | some v =>
    obtain ⟨g1, g2⟩ := putD_get (hv v hval) t
    refine ⟨fun p o' v' hp ho' hd hv' => ?_, fun hh => ?_⟩
    · by_cases e : p = i
      · subst e
        rw [ho] at ho'; cases ho'
        rw [hval] at hv'; cases hv'
        exact (g1 hd).1
      · rcases hp with hp | rfl
        · rw [g2 (h.dst_ne ho ho' (fun e' => e e'.symm) hd)]
          exact (hX t).1 p o' v' hp ho' hd hv'
        · exact absurd rfl e
    · rw [g2 (hh i o v (.inr rfl) ho hval)]
      exact (hX t).2 (fun p o' v hp => hh p o' v (.inl hp))
theorem Plan.slotP {i : Nat} (hi : i ≤ ops.size) : SlotIs ops oc tm0 (P i).tm (fun p => p < i) := by
  induction i with
  | zero => rw [h.init]; exact fun t => ⟨fun p o v hp => by omega, fun _ => rfl⟩
  | succ i ih =>
    obtain ⟨o, m, h1, h2, h3⟩ := h.at (j := i) (by omega)
    have := h.slot_step (ih (by omega)) h1 h3.tm.1 h3.tm.2
    intro t
    refine ⟨fun p o v hp => (this t).1 p o v (by omega), fun hh => (this t).2 (fun p o v hp => hh p o v (by omega))⟩
/-- what an operation looks at is the same, in whatever order -/
theorem Plan.looks {X : Nat → Prop} {tm : Tm} (hX : SlotIs ops oc tm0 tm X) {i : Nat} (hi : i < ops.size) {o : Oper} {m : Nat} (ho : ops[i]? = some o) (hm : ms[i]? = some m) (hnX : ¬ X i)
    (hpre : ∀ p, tb m p = true → X p) (hcl : ∀ q mq, X q → ms[q]? = some mq → ∀ p, tb mq p = true → X p) (hback : ∀ (q mq : Nat), ms[q]? = some mq → ∀ p, tb mq p = true → p < q) {t : Nat} (ht : t ∈ o.looksAt ops) :
    tget tm t = tget (P i).tm t := by
  have hP := h.slotP (i := i) (by omega)
  by_cases hex : ∃ j oj v, ops[j]? = some oj ∧ oj.dst = some t ∧ (oc j).val = some v
  · obtain ⟨j, oj, v, h1, h2, h3⟩ := hex
    have uniq : ∀ p o', ops[p]? = some o' → o'.dst = some t → p = j := fun p o' a b => by
      by_cases e : p = j
      · exact e
      · exact absurd b (h.dst_ne a h1 e h2)
    have none1 : ∀ {tm1 : Tm} {Y : Nat → Prop}, SlotIs ops oc tm0 tm1 Y → ¬ Y j → tget tm1 t = tget tm0 t := fun hY hn => (hY t).2 (fun p o' v' hp ho' _ hd => by
      have := uniq p o' ho' hd
      subst this; exact hn hp)
    have some1 : ∀ {tm1 : Tm} {Y : Nat → Prop}, SlotIs ops oc tm0 tm1 Y → Y j → tget tm1 t = v := fun hY hn => (hY t).1 j oj v hn h1 h2 h3
    by_cases hij : i = j
    · subst hij
      rw [none1 hX hnX, none1 hP (by omega)]
    · obtain ⟨_, mj, _, hmj, _⟩ := h.at (Array.getElem?_eq_some_iff.1 h1).1
      rcases (h.slots.apart i j o oj m mj t ho h1 hm hmj hij h2).2 ht with h4 | h4
      · rw [some1 hX (hpre j h4), some1 hP (hback i m hm j h4)]
      · have h5 := hback j mj hmj i h4
        rw [none1 hX (fun hj => hnX (hcl j mj hj hmj i h4)), none1 hP (by omega)]
  · have none1 : ∀ {tm1 : Tm} {Y : Nat → Prop}, SlotIs ops oc tm0 tm1 Y → tget tm1 t = tget tm0 t := fun hY => (hY t).2 (fun p o' v' hp ho' hv hd => hex ⟨p, o', v', ho', hd, hv⟩)
    rw [none1 hX, none1 hP]
theorem Plan.back {q : Nat} : ∀ {mq : Nat}, ms[q]? = some mq → ∀ p, tb mq p = true → p < q := by
  induction q using Nat.strongRecOn with
  | _ q ih =>
    intro mq hq p hp
    have hlt : q < ops.size := by have := (List.getElem?_eq_some_iff.1 hq).1; rw [h.masks.len] at this; simpa using this
    obtain ⟨o, m, h1, h2, _⟩ := h.at hlt
    have hm : mq = m := by rw [h2] at hq; exact (Option.some.inj hq).symm
    subst hm
    have h1' : ops.toList[q]? = some o := by rw [Array.getElem?_toList]; exact h1
    obtain ⟨e, he, hb, r⟩ := h.masks.bits q o _ h1' h2 p hp
    have hlt2 := h.masks.back q o h1' e he hb
    rcases r with rfl | ⟨m', h3, h4⟩
    · exact hlt2
    · have := ih e.on hlt2 h3 p h4; omega
end
end Go.AM
