import Derived.Test.YtemimkkjkggcoaaGreatDoorGA32
/- What the pass has found out, over all operations. -/
namespace Go.AM

def Oc.val : Oc → Option AV | .q v _ => some v | .qb v => some v | .ef v => some v | _ => none
def Oc.isEf : Oc → Prop | .ef _ => True | _ => False
structure Plan (CALL : CallF) (E : Env) (nt : Nat) (ops : Array Oper) (fl : Nat) (ms : List Nat) (P : Nat → PSt) (oc : Nat → Oc) (tm0 : Tm) (B0 : T AO) (K0 : Ps) : Prop where
  masks : MasksOk ops.toList ms
  slots : SlotsOk ops ms
  init : P 0 = ⟨tm0, B0, 0, 0, [], [(0, B0)], [], K0, none⟩
  step : ∀ j o m, ops[j]? = some o → ms[j]? = some m → OcR CALL E nt ops fl j o m (P j) (oc j) (P (j + 1))

section
variable {CALL : CallF} {E : Env} {nt : Nat} {ops : Array Oper} {fl : Nat} {ms : List Nat} {P : Nat → PSt} {oc : Nat → Oc} {tm0 : Tm} {B0 : T AO} {K0 : Ps} (h : Plan CALL E nt ops fl ms P oc tm0 B0 K0)
include h
theorem Plan.at {j : Nat} (hj : j < ops.size) : ∃ o m, ops[j]? = some o ∧ ms[j]? = some m ∧ OcR CALL E nt ops fl j o m (P j) (oc j) (P (j + 1)) := by
  have h1 : ops[j]? = some ops[j] := Array.getElem?_eq_getElem hj
  have h2 : j < ms.length := by rw [h.masks.len]; simpa using hj
  have h3 : ms[j]? = some ms[j] := List.getElem?_eq_getElem h2
  exact ⟨_, _, h1, h3, h.step j _ _ h1 h3⟩
theorem Plan.K1 {j : Nat} (hj : j < ops.size) : (P j).K.idx ≤ (P (j + 1)).K.idx := by
  obtain ⟨o, m, h1, h2, h3⟩ := h.at hj
  generalize oc j = c at h3
  generalize hs : P (j + 1) = s' at h3
  cases h3 with
  | skip h => exact Nat.le_refl _
  | un hw hp => exact Nat.le_refl _
  | qr hw he hp => exact Nat.le_refl _
  | qa hw he hn hg hp => show _ ≤ (Ps.succ _).idx; rw [Ps.idx_succ]; omega
  | qb hw hk hb hp => exact Nat.le_refl _
  | ef hw hn hs he hK hp => exact hK
  | pn hw hn hs hH he => exact Nat.le_refl _
  | pc hw hn hs he hc hK => exact hK
theorem Plan.K {i j : Nat} (hij : i ≤ j) (hj : j ≤ ops.size) : (P i).K.idx ≤ (P j).K.idx := by
  induction j with
  | zero => have : i = 0 := by omega
            subst this; exact Nat.le_refl _
  | succ j ih =>
    by_cases e : i = j + 1
    · subst e; exact Nat.le_refl _
    · exact Nat.le_trans (ih (by omega) (by omega)) (h.K1 (by omega))
theorem Plan.Ef {i : Nat} (hi : i ≤ ops.size) (e : Nat) : tb (P i).Ef e = true ↔ e < i ∧ (oc e).isEf := by
  induction i with
  | zero => rw [h.init]; simp [tb_zero]
  | succ i ih =>
    obtain ⟨o, m, h1, h2, h3⟩ := h.at (j := i) (by omega)
    have ih := ih (by omega)
    have same : (P (i + 1)).Ef = (P i).Ef → ¬ (oc i).isEf → (tb (P (i + 1)).Ef e = true ↔ e < i + 1 ∧ (oc e).isEf) := fun e1 e2 => by
      rw [e1, ih]
      constructor
      · rintro ⟨a, b⟩; exact ⟨by omega, b⟩
      · rintro ⟨a, b⟩
        refine ⟨?_, b⟩
        rcases Nat.lt_or_ge e i with h | h
        · exact h
        · have : e = i := by omega
          subst this; exact absurd b e2
    generalize hc : oc i = c at h3 same
    generalize hs : P (i + 1) = s' at h3 same
    cases h3 with
    | skip h => exact same rfl (fun x => x)
    | un hw hp => exact same rfl (fun x => x)
    | qr hw he hp => exact same rfl (fun x => x)
    | qa hw he hn hg hp => exact same rfl (fun x => x)
    | qb hw hk hb hp => exact same rfl (fun x => x)
    | pn hw hn hs hH he => exact same rfl (fun x => x)
    | pc hw hn hs he hc hK => exact same rfl (fun x => x)
    | ef hw hn hs he hK hp =>
      show tb (Nat.lor (P i).Ef (bit i)) e = true ↔ _
      rw [tb_or, tb_bit, Bool.or_eq_true, ih]
      simp only [decide_eq_true_eq]
      constructor
      · rintro (⟨a, b⟩ | rfl)
        · exact ⟨by omega, b⟩
        · exact ⟨by omega, by rw [hc]; trivial⟩
      · rintro ⟨a, b⟩
        rcases Nat.lt_or_ge e i with h | h
        · exact .inl ⟨h, b⟩
        · exact .inr (by omega)
theorem Plan.A1 {i : Nat} (hi : i ≤ ops.size) {e : Nat} (he : e < i) (hf : (oc e).isEf) : tb (P i).A e = true := by
  induction i with
  | zero => omega
  | succ i ih =>
    obtain ⟨o, m, h1, h2, h3⟩ := h.at (j := i) (by omega)
    have ih := ih (by omega)
    have same : (P (i + 1)).A = (P i).A → ¬ (oc i).isEf → tb (P (i + 1)).A e = true := fun e1 e2 => by
      rw [e1]; refine ih ?_
      rcases Nat.lt_or_ge e i with h | h
      · exact h
      · have : e = i := by omega
        subst this; exact absurd hf e2
    generalize hc : oc i = c at h3 same
    generalize hs : P (i + 1) = s' at h3 same
    cases h3 with
    | skip h => exact same rfl (fun x => x)
    | un hw hp => exact same rfl (fun x => x)
    | qr hw he hp => exact same rfl (fun x => x)
    | qa hw he hn hg hp => exact same rfl (fun x => x)
    | qb hw hk hb hp => exact same rfl (fun x => x)
    | pn hw hn hs hH he => exact same rfl (fun x => x)
    | pc hw hn hs he hc hK => exact same rfl (fun x => x)
    | ef hw hn hs he' hK hp =>
      show tb (Nat.lor (Nat.lor (P i).A m) (bit i)) e = true
      rw [tb_or, tb_or, tb_bit]
      rcases Nat.lt_or_ge e i with h | h
      · rw [ih h]; rfl
      · have : i = e := by omega
        simp [this]
theorem Plan.A2 {i : Nat} (hi : i ≤ ops.size) {p : Nat} (hp : tb (P i).A p = true) : ∃ e, e < i ∧ (oc e).isEf ∧ (p = e ∨ ∃ m, ms[e]? = some m ∧ tb m p = true) := by
  induction i with
  | zero => rw [h.init] at hp; rw [tb_zero] at hp; cases hp
  | succ i ih =>
    obtain ⟨o, m, h1, h2, h3⟩ := h.at (j := i) (by omega)
    have ih := ih (by omega)
    have up : tb (P i).A p = true → ∃ e, e < i + 1 ∧ (oc e).isEf ∧ (p = e ∨ ∃ m, ms[e]? = some m ∧ tb m p = true) := fun x => by
      obtain ⟨e, a, b⟩ := ih x; exact ⟨e, by omega, b⟩
    generalize hc : oc i = c at h3
    generalize hs : P (i + 1) = s' at h3 hp
    cases h3 with
    | skip h => exact up hp
    | un hw _ => exact up hp
    | qr hw he _ => exact up hp
    | qa hw he hn hg _ => exact up hp
    | qb hw hk hb _ => exact up hp
    | pn hw hn hs hH he => exact up hp
    | pc hw hn hs he hc hK => exact up hp
    | ef hw hn hs he' hK _ =>
      have hp : tb (Nat.lor (Nat.lor (P i).A m) (bit i)) p = true := hp
      rw [tb_or, tb_or, tb_bit] at hp
      simp only [Bool.or_eq_true, decide_eq_true_eq] at hp
      rcases hp with (hp | hp) | hp
      · exact up hp
      · exact ⟨i, by omega, by rw [hc]; trivial, .inr ⟨m, h2, hp⟩⟩
      · exact ⟨i, by omega, by rw [hc]; trivial, .inl hp.symm⟩
theorem Plan.AB {i j : Nat} (hij : i ≤ j) (hj : j ≤ ops.size) (hn : ∀ e, i ≤ e → e < j → ¬ (oc e).isEf) : (P j).A = (P i).A ∧ (P j).B = (P i).B := by
  induction j with
  | zero => have : i = 0 := by omega
            subst this; exact ⟨rfl, rfl⟩
  | succ j ih =>
    by_cases e : i = j + 1
    · subst e; exact ⟨rfl, rfl⟩
    · have ih := ih (by omega) (by omega) (fun e a b => hn e a (by omega))
      obtain ⟨o, m, h1, h2, h3⟩ := h.at (j := j) (by omega)
      have hne := hn j (by omega) (by omega)
      generalize hc : oc j = c at h3 hne
      generalize hs : P (j + 1) = s' at h3
      cases h3 with
      | skip h => exact ih
      | un hw hp => exact ih
      | qr hw he hp => exact ih
      | qa hw he hn hg hp => exact ih
      | qb hw hk hb hp => exact ih
      | pn hw hn hs hH he => exact ih
      | pc hw hn hs he hc hK => exact ih
      | ef hw hn hs he' hK hp => exact absurd trivial hne
theorem Plan.news1 {i : Nat} (hi : i ≤ ops.size) {p : Nat} {k : Ps} {b : AO} (hp : (p, k, b) ∈ (P i).news) : p < i ∧ k = (P p).K ∧ ∃ v, oc p = .q v (some b) := by
  induction i with
  | zero => rw [h.init] at hp; cases hp
  | succ i ih =>
    obtain ⟨o, m, h1, h2, h3⟩ := h.at (j := i) (by omega)
    have ih := ih (by omega)
    have up : (p, k, b) ∈ (P i).news → p < i + 1 ∧ k = (P p).K ∧ ∃ v, oc p = .q v (some b) := fun x => by
      obtain ⟨a, r⟩ := ih x; exact ⟨by omega, r⟩
    generalize hc : oc i = c at h3
    generalize hs : P (i + 1) = s' at h3 hp
    cases h3 with
    | skip h => exact up hp
    | un hw _ => exact up hp
    | qr hw he _ => exact up hp
    | qb hw hk hb _ => exact up hp
    | pn hw hn hs hH he => exact up hp
    | pc hw hn hs he hc hK => exact up hp
    | ef hw hn hs he' hK _ => exact up hp
    | qa hw he hn hg _ =>
      rcases List.mem_cons.1 hp with e | e
      · cases e; exact ⟨by omega, rfl, _, hc⟩
      · exact up e
theorem Plan.news2 {i : Nat} (hi : i ≤ ops.size) {p : Nat} {v : AV} {b : AO} (hp : p < i) (ho : oc p = .q v (some b)) : (p, (P p).K, b) ∈ (P i).news := by
  induction i with
  | zero => omega
  | succ i ih =>
    obtain ⟨o, m, h1, h2, h3⟩ := h.at (j := i) (by omega)
    have ih := ih (by omega)
    have up : (P (i + 1)).news = (P i).news → (∀ v b, oc i ≠ .q v (some b)) → (p, (P p).K, b) ∈ (P (i + 1)).news := fun e1 e2 => by
      rw [e1]; refine ih ?_
      rcases Nat.lt_or_ge p i with h | h
      · exact h
      · have : p = i := by omega
        subst this; exact absurd ho (e2 v b)
    generalize hc : oc i = c at h3 up
    generalize hs : P (i + 1) = s' at h3 up
    cases h3 with
    | skip h => exact up rfl (fun _ _ e => by cases e)
    | un hw _ => exact up rfl (fun _ _ e => by cases e)
    | qr hw he _ => exact up rfl (fun _ _ e => by cases e)
    | qb hw hk hb _ => exact up rfl (fun _ _ e => by cases e)
    | pn hw hn hs hH he => exact up rfl (fun _ _ e => by cases e)
    | pc hw hn hs he hc hK => exact up rfl (fun _ _ e => by cases e)
    | ef hw hn hs he' hK _ => exact up rfl (fun _ _ e => by cases e)
    | @qa x tm' S' ob hw he hn hg _ =>
      rcases Nat.lt_or_ge p i with h | h
      · exact List.mem_cons_of_mem _ (ih h)
      · have : p = i := by omega
        subst this
        rw [hc] at ho; cases ho
        exact List.mem_cons_self ..
theorem Plan.qs {i : Nat} (hi : i ≤ ops.size) {q : Nat} {v : AV} (hq : q < i) (ho : oc q = .qb v) {o : Oper} {m : Nat} (hoq : ops[q]? = some o) (hmq : ms[q]? = some m) : (⟨q, m, o, (P q).tm, v⟩ : QE) ∈ (P i).qs := by
  induction i with
  | zero => omega
  | succ i ih =>
    obtain ⟨o', m', h1, h2, h3⟩ := h.at (j := i) (by omega)
    have ih := ih (by omega)
    have up : (P (i + 1)).qs = (P i).qs → (∀ v, oc i ≠ .qb v) → (⟨q, m, o, (P q).tm, v⟩ : QE) ∈ (P (i + 1)).qs := fun e1 e2 => by
      rw [e1]; refine ih ?_
      rcases Nat.lt_or_ge q i with h | h
      · exact h
      · have : q = i := by omega
        subst this; exact absurd ho (e2 v)
    generalize hc : oc i = c at h3 up
    generalize hs : P (i + 1) = s' at h3 up
    cases h3 with
    | skip h => exact up rfl (fun _ e => by cases e)
    | un hw _ => exact up rfl (fun _ e => by cases e)
    | qr hw he _ => exact up rfl (fun _ e => by cases e)
    | qa hw he hn hg _ => exact up rfl (fun _ e => by cases e)
    | pn hw hn hs hH he => exact up rfl (fun _ e => by cases e)
    | pc hw hn hs he hc hK => exact up rfl (fun _ e => by cases e)
    | ef hw hn hs he' hK _ => exact up rfl (fun _ e => by cases e)
    | qb hw hk hb _ =>
      rcases Nat.lt_or_ge q i with h | h
      · exact List.mem_cons_of_mem _ (ih h)
      · have : q = i := by omega
        subst this
        rw [h1] at hoq; cases hoq
        rw [h2] at hmq; cases hmq
        rw [hc] at ho; cases ho
        exact List.mem_cons_self ..
theorem Plan.levels {i l : Nat} (hi : i ≤ ops.size) (hl : l ≤ i) (hf : l = 0 ∨ ∃ e, l = e + 1 ∧ (oc e).isEf) : ((P l).A, (P l).B) ∈ (P i).levels := by
  induction i with
  | zero => have : l = 0 := by omega
            subst this; rw [h.init]; simp
  | succ i ih =>
    obtain ⟨o', m', h1, h2, h3⟩ := h.at (j := i) (by omega)
    have ih := ih (by omega)
    have up : (P (i + 1)).levels = (P i).levels → ¬ (oc i).isEf → ((P l).A, (P l).B) ∈ (P (i + 1)).levels := fun e1 e2 => by
      rw [e1]; refine ih ?_
      rcases Nat.lt_or_ge l (i + 1) with h | h
      · omega
      · have : l = i + 1 := by omega
        subst this
        rcases hf with hf | ⟨e, hf, hg⟩
        · omega
        · have : e = i := by omega
          subst this; exact absurd hg e2
    generalize hc : oc i = c at h3 up
    generalize hs : P (i + 1) = s' at h3 up
    cases h3 with
    | skip h => exact up rfl (fun x => x)
    | un hw _ => exact up rfl (fun x => x)
    | qr hw he _ => exact up rfl (fun x => x)
    | qa hw he hn hg _ => exact up rfl (fun x => x)
    | pn hw hn hs hH he => exact up rfl (fun x => x)
    | pc hw hn hs he hc hK => exact up rfl (fun x => x)
    | qb hw hk hb _ => exact up rfl (fun x => x)
    | ef hw hn hs' he' hK _ =>
      rcases Nat.lt_or_ge l (i + 1) with h | h
      · exact List.mem_cons_of_mem _ (ih (by omega))
      · have : l = i + 1 := by omega
        subst this
        rw [hs]
        exact List.mem_cons_self ..
/-- a panic is remembered -/
theorem Plan.pan1 {i : Nat} (hi : i ≤ ops.size) {p : Nat} {v : AV} {hp : T AO} (hpn : (P i).pan = some (p, v, hp)) : p < i ∧ oc p = .pan v hp := by
  induction i with
  | zero => rw [h.init] at hpn; cases hpn
  | succ i ih =>
    obtain ⟨o', m', h1, h2, h3⟩ := h.at (j := i) (by omega)
    have ih := ih (by omega)
    have up : (P i).pan = some (p, v, hp) → p < i + 1 ∧ oc p = .pan v hp := fun x => by
      obtain ⟨a, b⟩ := ih x; exact ⟨by omega, b⟩
    generalize hc : oc i = c at h3
    generalize hs : P (i + 1) = s' at h3 hpn
    cases h3 with
    | skip h => exact up hpn
    | un hw _ => exact up hpn
    | qr hw he _ => exact up hpn
    | qa hw he hn hg _ => exact up hpn
    | qb hw hk hb _ => exact up hpn
    | ef hw hn hs' he' hK _ => exact up hpn
    | pn hw hn hs hH he => cases hpn; exact ⟨by omega, hc⟩
    | pc hw hn hs he hc' hK => cases hpn; exact ⟨by omega, hc⟩
theorem Plan.pan2 {i : Nat} (hi : i ≤ ops.size) {p : Nat} {v : AV} {hp : T AO} (hlt : p < i) (ho : oc p = .pan v hp) : (P i).pan = some (p, v, hp) := by
  induction i with
  | zero => omega
  | succ i ih =>
    obtain ⟨o', m', h1, h2, h3⟩ := h.at (j := i) (by omega)
    have ih := ih (by omega)
    by_cases e : p = i
    · subst e
      generalize hs : P (p + 1) = s' at h3
      generalize hc : oc p = c at h3
      rw [hc] at ho; subst ho
      cases h3 <;> rfl
    · have hq := ih (by omega)
      generalize hc : oc i = c at h3
      generalize hs : P (i + 1) = s' at h3
      cases h3 with
      | skip h => exact hq
      | un hw _ => exact hq
      | qr hw he _ => exact hq
      | qa hw he hn hg _ => exact hq
      | qb hw hk hb _ => exact hq
      | ef hw hn hs' he' hK _ => rw [hn] at hq; cases hq
      | pn hw hn hs hH he => rw [hn] at hq; cases hq
      | pc hw hn hs he hc' hK => rw [hn] at hq; cases hq
theorem Plan.skip {i : Nat} (hi : i < ops.size) (ho : oc i = .skip) {m : Nat} (hm : ms[i]? = some m) : ∃ p v hp, p < i ∧ oc p = .pan v hp ∧ tb m p = true := by
  obtain ⟨o', m', h1, h2, h3⟩ := h.at hi
  rw [h2] at hm; cases hm
  generalize hs : P (i + 1) = s' at h3
  rw [ho] at h3
  cases h3 with
  | skip hk =>
    unfold skp at hk
    split at hk
    · rename_i p v hp e
      obtain ⟨a, b⟩ := h.pan1 (by omega) e
      exact ⟨p, v, hp, a, b, hk⟩
    · cases hk
end
end Go.AM
