import Derived.Test.YtemimkkjkggcoaaGreatDoorGA37
/- One more operation of a drawn region is done. -/
namespace Go.AM

def CallOk (CALL : CallF) (E : Env) : Prop :=
  ∀ (f : Nat) (args : List AV) (H : Hp) (γ : Gm) (w : World) (args' : List Value), HR γ E.ng H w → LR γ args args' →
    (∀ x S', CALL f args H = .fin x S' → ∀ c bot, ∃ γ' v' w', Steps E.P (lone (Frame.enter E.P f ⟨args'⟩ .normal) (c :: bot) w) (lone (c.finish v') bot w') ∧ VR γ' x v' ∧ HR γ' E.ng S' w' ∧ Pres H γ w S' γ' w') ∧
    (∀ x S', CALL f args H = .finP x S' → ∀ c bot, ∃ γ' v' w', Steps E.P (lone (Frame.enter E.P f ⟨args'⟩ .normal) (c :: bot) w) (lone (c.raise [{ v := v', recovered := false }]) bot w') ∧ VR γ' x v' ∧ HR γ' E.ng S' w' ∧ Pres H γ w S' γ' w')

theorem setD_get (d : Option Nat) (v : Value) (t : Array Value) (x : Nat) : (setD d v t).getD x Go.undef = if d = some x ∧ x < t.size then v else t.getD x Go.undef := by
  cases d with
  | none => simp [setD]
  | some d =>
    show (t.setIfInBounds d v).getD x Go.undef = _
    rw [Array.getD_eq_getD_getElem?, Array.getD_eq_getD_getElem?, Array.getElem?_setIfInBounds]
    by_cases e : d = x
    · subst e
      by_cases hlt : d < t.size
      · simp [hlt]
      · simp [hlt]
    · simp [e]
theorem setD_size (d : Option Nat) (v : Value) (t : Array Value) : (setD d v t).size = t.size := by cases d <;> simp [setD]

section
variable {CALL : CallF} {E : Env} {nt : Nat} {ops : Array Oper} {fl : Nat} {ms : List Nat} {P : Nat → PSt} {oc : Nat → Oc} {tm0 : Tm} {B0 : T AO} {K0 : Ps} (h : Plan CALL E nt ops fl ms P oc tm0 B0 K0)
variable {X : Nat → Prop} {l : Nat} {γ : Gm} {w : World} {tmps : Array Value} {S : Hp} {γ0 : Gm} {w0 : World}
include h

theorem Plan.s_next (hs : SInv nt ops P oc tm0 K0 X γ tmps) {γ' : Gm} (hg : Gm.le γ γ') {i : Nat} {o : Oper} (ho : ops[i]? = some o) {v : AV} (hv : (oc i).val = some v) (hd : ∀ d, o.dst = some d → d < nt)
    {v' : Value} (hr : VR (γ'.cut (P (i + 1)).K.idx) v v') : SInv nt ops P oc tm0 K0 (fun p => X p ∨ p = i) γ' (setD o.dst v' tmps) := by
  refine ⟨by rw [setD_size]; exact hs.size, fun p o' d u hp ho' hd' hu => ?_, fun t ht => ?_⟩
  · rw [setD_get]
    by_cases e : p = i
    · subst e
      rw [ho] at ho'; cases ho'
      rw [hv] at hu; cases hu
      rw [if_pos ⟨hd', by rw [hs.size]; exact hd d hd'⟩]; exact hr
    · rcases hp with hp | hp
      · rw [if_neg (fun hc => h.dst_ne ho ho' (fun e' => e e'.symm) hd' hc.1)]
        exact (hs.slot p o' d u hp ho' hd' hu).mono (Gm.cut_mono hg (Nat.le_refl _))
      · exact absurd hp e
  · rw [setD_get, if_neg (fun hc => ht i o v (.inr rfl) ho hv hc.1)]
    exact (hs.slot0 t (fun p o' u hp => ht p o' u (.inl hp))).mono (Gm.cut_mono hg (Nat.le_refl _))
omit h in
theorem XInv.quiet (hx : XInv ops ms oc X l) {i : Nat} (hi : i < ops.size) {m : Nat} (hm : ms[i]? = some m) (hpre : ∀ p, tb m p = true → X p) {v : AV} (hv : (oc i).val = some v) (hn : ¬ (oc i).isEf) : XInv ops ms oc (fun p => X p ∨ p = i) l := by
  refine ⟨fun j hj => ?_, fun j m' hj hm' p hp => ?_, fun e he hf => ?_, hx.lvl, fun j hj => ?_⟩
  · rcases hj with hj | rfl
    · exact hx.lt j hj
    · exact hi
  · rcases hj with hj | rfl
    · exact .inl (hx.closed j m' hj hm' p hp)
    · rw [hm] at hm'; cases hm'; exact .inl (hpre p hp)
  · rw [← hx.eff e he hf]
    constructor
    · rintro (a | rfl)
      · exact a
      · exact absurd hf hn
    · exact .inl
  · rcases hj with hj | rfl
    · exact hx.live j hj
    · rw [hv]; exact fun e => by cases e
/-- when an effect's turn has come -/
theorem Plan.sync (hx : XInv ops ms oc X l) {i : Nat} (hi : i < ops.size) {m : Nat} (hpre : ∀ p, tb m p = true → X p) (hnX : ¬ X i) (hs : subM (P i).Ef m = true) (hk : (oc i).isEf ∨ ∃ v hp, oc i = .pan v hp) :
    l ≤ i ∧ (P i).A = (P l).A ∧ (P i).B = (P l).B ∧ ∀ e, e < i → (oc e).isEf → X e := by
  have hall : ∀ e, e < i → (oc e).isEf → X e := fun e he hf => hpre e (subM_ok hs ((h.Ef (by omega) e).2 ⟨he, hf⟩))
  have hl : l ≤ i := by
    rcases hx.lvl with rfl | ⟨e, rfl, he, hf⟩
    · exact Nat.zero_le _
    · refine Nat.succ_le_of_lt ?_
      rcases Nat.lt_trichotomy e i with hlt | rfl | hlt
      · exact hlt
      · exact absurd ((hx.eff e he hf).2 (by omega)) hnX
      · rcases hk with hk | ⟨v, hp, hk⟩
        · exact absurd ((hx.eff i hi hk).2 (by omega)) hnX
        · have h1 := h.pan2 (i := e) (by omega) hlt hk
          obtain ⟨o, m, _, _, h3⟩ := h.at he
          generalize hs : P (e + 1) = s' at h3
          generalize hc : oc e = c at h3 hf
          cases h3 with
          | ef hw hn _ _ _ _ => rw [hn] at h1; cases h1
          | _ => exact absurd hf (fun x => x)
  obtain ⟨h1, h2⟩ := h.AB hl (by omega) (fun e he hlt hf => by
    have := (hx.eff e (by omega) hf).1 (hall e hlt hf); omega)
  exact ⟨hl, h1, h2, hall⟩
/-- the heap that an operation sees -/
theorem Plan.viewH {j : Nat} (hj : j ≤ ops.size) (hl : l ≤ j) {m : Nat} (hpre : ∀ p, tb m p = true → X p) {a : Ps} {b : AO} (hb : T.get a (addN (vis m (P l).A) (P l).B (P j).news) = some b) : ∃ c, Ow P oc X l a b c ∧ c ≤ (P j).K.idx := by
  rcases addN_get hb with hb | ⟨p, h1, h2⟩
  · exact ⟨_, .inl ⟨hb, rfl⟩, h.K hl hj⟩
  · obtain ⟨h3, h4, v, h5⟩ := h.news1 hj h1
    obtain ⟨h6, h7⟩ := vis_iff.1 h2
    exact ⟨_, .inr ⟨p, v, hpre p h7, h6, h5, h4, rfl⟩, h.K (by omega) hj⟩
theorem Plan.notH {j : Nat} (hj : j ≤ ops.size) {m : Nat} {p : Nat} (hp : p < ops.size) {v : AV} {b : AO} (ho : oc p = .q v (some b)) (hm : tb m p = false) (hB : T.get (P p).K (P l).B = none) :
    T.get (P p).K (addN (vis m (P l).A) (P l).B (P j).news) = none := by
  cases hg : T.get (P p).K (addN (vis m (P l).A) (P l).B (P j).news) with
  | none => rfl
  | some b2 =>
    rcases addN_get hg with hb | ⟨q, h1, h2⟩
    · rw [hB] at hb; cases hb
    · obtain ⟨h3, h4, v2, h5⟩ := h.news1 hj h1
      have := h.newInj hp (by omega) ho h5 h4
      subst this
      rw [(vis_iff.1 h2).2] at hm; cases hm
theorem Plan.dst_lt {i : Nat} (hi : i < ops.size) {o : Oper} (ho : ops[i]? = some o) {v : AV} (hv : (oc i).val = some v) : ∀ d, o.dst = some d → d < nt := by
  intro d hd
  obtain ⟨o', m, h1, h2, h3⟩ := h.at hi
  rw [ho] at h1; cases h1
  exact ((putD_get (h3.tm.1 v hv) d).1 hd).2
/-- keys that are taken lie apart from those of operation i -/
theorem Plan.apartK {i : Nat} (hi : i < ops.size) (hnX : ¬ X i) (hlt : ∀ p, X p → p < ops.size) : ∀ n, Dm P X n → ¬ ((P i).K.idx ≤ n ∧ n < (P (i + 1)).K.idx) := by
  intro n hn hc
  rcases hn with hn | ⟨p, h1, h2, h3⟩
  · have := h.K (Nat.zero_le i) (by omega); omega
  · rcases Nat.lt_trichotomy p i with hlt' | rfl | hlt'
    · have := h.K (i := p + 1) (j := i) hlt' (by omega); omega
    · exact hnX h1
    · have := hlt p h1
      have := h.K (i := i + 1) (j := p) hlt' (by omega); omega
theorem Plan.domLt (hlt : ∀ p, X p → p < ops.size) : ∀ n, Dm P X n → n < (P ops.size).K.idx := by
  intro n hn
  rcases hn with hn | ⟨p, h1, h2, h3⟩
  · have := h.K (Nat.zero_le ops.size) (Nat.le_refl _); omega
  · have := hlt p h1
    have := h.K (i := p + 1) (j := ops.size) (by omega) (Nat.le_refl _); omega
end
end Go.AM
