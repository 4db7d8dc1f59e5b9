import Derived.Test.YtemimkkjkggcoaaGreatDoorGA36
/- An operation of a drawn region is looked at: what it comes to, wherever it stands in the order. -/
namespace Go.AM

section
variable {CALL : CallF} {E : Env} {nt : Nat} {ops : Array Oper} {fl : Nat} {ms : List Nat} {P : Nat → PSt} {oc : Nat → Oc} {tm0 : Tm} {B0 : T AO} {K0 : Ps} (h : Plan CALL E nt ops fl ms P oc tm0 B0 K0)
variable {X : Nat → Prop} {l : Nat} {γ : Gm} {w : World} {tmps : Array Value}

include h in
theorem Plan.kz : (P 0).K = K0 := by rw [h.init]
include h in
/-- a slot that is looked at holds what the pass has found -/
theorem Plan.look_vr (hs : SInv nt ops P oc tm0 K0 X γ tmps) (hx : XInv ops ms oc X l) {i : Nat} (hi : i < ops.size) {o : Oper} {m : Nat} (ho : ops[i]? = some o) (hm : ms[i]? = some m) (hnX : ¬ X i) (hpre : ∀ p, tb m p = true → X p)
    {t : Nat} (ht : t ∈ o.looksAt ops) : VR (γ.cut (P i).K.idx) (tget (P i).tm t) (tmps.getD t Go.undef) := by
  have hP := h.slotP (i := i) (by omega)
  by_cases hex : ∃ j oj v, ops[j]? = some oj ∧ oj.dst = some t ∧ (oc j).val = some v
  · obtain ⟨j, oj, v, h1, h2, h3⟩ := hex
    have uniq : ∀ p o', ops[p]? = some o' → o'.dst = some t → p = j := fun p o' a b => by
      by_cases e : p = j
      · exact e
      · exact absurd b (h.dst_ne a h1 e h2)
    have zero : ¬ X j → ¬ j < i → VR (γ.cut (P i).K.idx) (tget (P i).tm t) (tmps.getD t Go.undef) := fun a b => by
      have e0 : tget (P i).tm t = tget tm0 t := (hP t).2 (fun p o' v' hp ho' _ hd => by
        have := uniq p o' ho' hd
        subst this; exact b hp)
      rw [e0]
      refine (hs.slot0 t (fun p o' v' hp ho' _ hd => ?_)).mono (Gm.cut_mono (Gm.le_refl _) ?_)
      · have := uniq p o' ho' hd
        subst this; exact a hp
      · rw [← h.kz]; exact h.K (Nat.zero_le _) (by omega)
    have some1 : X j → j < i → VR (γ.cut (P i).K.idx) (tget (P i).tm t) (tmps.getD t Go.undef) := fun a b => by
      rw [(hP t).1 j oj v b h1 h2 h3]
      exact (hs.slot j oj t v a h1 h2 h3).mono (Gm.cut_mono (Gm.le_refl _) (h.K b (by omega)))
    by_cases hij : i = j
    · subst hij; exact zero hnX (by omega)
    · obtain ⟨_, mj, _, hmj, _⟩ := h.at (Array.getElem?_eq_some_iff.1 h1).1
      rcases (h.slots.apart i j o oj m mj t ho h1 hm hmj hij h2).2 ht with h4 | h4
      · exact some1 (hpre j h4) (h.back hm j h4)
      · have h5 := h.back hmj i h4
        exact zero (fun hj => hnX (hx.closed j mj hj hmj i h4)) (by omega)
  · have e0 : tget (P i).tm t = tget tm0 t := (hP t).2 (fun p o' v' hp ho' hv hd => hex ⟨p, o', v', ho', hd, hv⟩)
    rw [e0]
    refine (hs.slot0 t (fun p o' v' hp ho' hv hd => hex ⟨p, o', v', ho', hd, hv⟩)).mono (Gm.cut_mono (Gm.le_refl _) ?_)
    rw [← h.kz]; exact h.K (Nat.zero_le _) (by omega)

/-- the slots that are looked at, the others empty -/
def viewV (nt : Nat) (tmps : Array Value) (L : List Nat) : Array Value := Array.ofFn (n := nt) fun t => if t.val ∈ L then tmps.getD t.val Go.undef else Go.undef
theorem viewV_get {nt : Nat} {tmps : Array Value} (hs : tmps.size = nt) {L : List Nat} (t : Nat) : (viewV nt tmps L).getD t Go.undef = if t ∈ L then tmps.getD t Go.undef else Go.undef := by
  unfold viewV
  by_cases hlt : t < nt
  · rw [Array.getD_eq_getD_getElem?, Array.getElem?_ofFn, dif_pos hlt]; rfl
  · rw [Array.getD_eq_getD_getElem?, Array.getElem?_ofFn, dif_neg hlt]
    have : tmps.getD t Go.undef = Go.undef := by rw [Array.getD_eq_getD_getElem?, Array.getElem?_eq_none (by omega)]; rfl
    rw [this]; simp
theorem viewV_look {nt : Nat} {tmps : Array Value} (hs : tmps.size = nt) {L : List Nat} {t : Nat} (ht : t ∈ L) : (viewV nt tmps L)[t]? = tmps[t]? := by
  unfold viewV
  rw [Array.getElem?_ofFn]
  by_cases hlt : t < nt
  · rw [dif_pos hlt, if_pos ht, Array.getElem?_eq_getElem (by omega)]
    simp [Array.getD, hs, hlt]
  · rw [dif_neg hlt, Array.getElem?_eq_none (by omega)]

variable {fr : Frame} (hft : fr.tmps = tmps)
theorem wantA_congr {nt : Nat} {ops : Array Oper} {tm tm' : Tm} {o : Oper} (he : ∀ t ∈ o.looksAt ops, tget tm t = tget tm' t) : wantA nt ops tm o = wantA nt ops tm' o := by
  rw [wantA_eq, wantA_eq]; unfold wantA0
  cases hg : o.guard with
  | none => rfl
  | some g =>
    obtain ⟨j, want⟩ := g
    simp only
    cases hj : nth ops.toList j with
    | none => rfl
    | some oj =>
      simp only
      cases hd : oj.dst with
      | none => rfl
      | some d =>
        simp only
        rw [he d]
        rw [nth_eq, Array.getElem?_toList] at hj
        simp [Oper.looksAt, hg, hj, hd]
theorem wanted_congr {o : Oper} {t1 t2 : Array Value} (he : ∀ t ∈ o.looksAt ops, t1[t]? = t2[t]?) : Region.wanted o (yielded ops t1) = Region.wanted o (yielded ops t2) := by
  unfold Region.wanted
  cases hg : o.guard with
  | none => rfl
  | some g =>
    obtain ⟨j, want⟩ := g
    simp only
    have : yielded ops t1 j = yielded ops t2 j := by
      unfold yielded
      cases ht : (ops[j]?).bind (·.dst) with
      | none => rfl
      | some t =>
        simp only [Option.bind_some]
        rw [he t (by simp [Oper.looksAt, hg, ht])]
    rw [this]
theorem evX_look {ng : Nat} {tm tm' : Tm} {o : Oper} (he : ∀ t ∈ o.looksAt ops, tget tm t = tget tm' t) : ∀ x ∈ o.op.operands, evX ng tm x = evX ng tm' x := by
  intro x hx
  cases x with
  | tmp t => exact congrArg some (he t (List.mem_append_left _ (List.mem_filterMap.2 ⟨.tmp t, by simpa using hx, rfl⟩)))
  | const v => rfl
  | global g => rfl
  | func f => rfl
theorem not_select {E : Env} {tm : Tm} {S : Hp} {o : Oper} {r : RO} (h : evOp o.op E tm S o.type = some r) : ∀ cs b, o.op ≠ .select cs b := by
  intro cs b e
  rw [e] at h
  cases h

include h hft in
theorem Plan.want_at (hs : SInv nt ops P oc tm0 K0 X γ tmps) (hx : XInv ops ms oc X l) {i : Nat} (hi : i < ops.size) {o : Oper} {m : Nat} (ho : ops[i]? = some o) (hm : ms[i]? = some m) (hnX : ¬ X i) (hpre : ∀ p, tb m p = true → X p)
    {b : Bool} (hw : wantA nt ops (P i).tm o = some b) : Region.wanted o (yielded ops fr.tmps) = b := by
  have hT : TR (γ.cut (P i).K.idx) (restr (P i).tm (o.looksAt ops)) (viewV nt tmps (o.looksAt ops)) := by
    intro t
    rw [restr_get, viewV_get hs.size]
    split
    · rename_i ht; exact h.look_vr hs hx hi ho hm hnX hpre ht
    · exact .undef
  rw [wantA_congr (tm' := restr (P i).tm (o.looksAt ops)) (fun t ht => by rw [restr_get, if_pos ht])] at hw
  have := wantA_ok hw (by simp [viewV]) hT
  rw [hft, ← wanted_congr (t1 := viewV nt tmps (o.looksAt ops)) (fun t ht => viewV_look hs.size ht)]
  exact this
include h hft in
theorem Plan.ev_at (hE : E.Ok) (hs : SInv nt ops P oc tm0 K0 X γ tmps) (hx : XInv ops ms oc X l) {i : Nat} (hi : i < ops.size) {o : Oper} {m : Nat} (ho : ops[i]? = some o) (hm : ms[i]? = some m) (hnX : ¬ X i) (hpre : ∀ p, tb m p = true → X p)
    {H : Hp} {r : RO} (he : evOp o.op E (P i).tm H o.type = some r) {k : Nat} (hk : (P i).K.idx ≤ k) (hH : HR (γ.cut k) E.ng H w) : OpR E (γ.cut k) H w (execOp fr.eval o) r := by
  have hT : TR (γ.cut k) (restr (P i).tm (o.looksAt ops)) (viewV nt tmps (o.looksAt ops)) := by
    intro t
    rw [restr_get, viewV_get hs.size]
    split
    · rename_i ht; exact (h.look_vr hs hx hi ho hm hnX hpre ht).mono (Gm.cut_mono (Gm.le_refl _) hk)
    · exact .undef
  have hns := not_select he
  rw [evOp_congr (tm' := restr (P i).tm (o.looksAt ops)) (evX_look (fun t ht => by rw [restr_get, if_pos ht]))] at he
  have h1 := evOp_ok (fr := { fr with tmps := viewV nt tmps (o.looksAt ops) }) hE hT hH he
  have h2 : execOp (Frame.eval { fr with tmps := viewV nt tmps (o.looksAt ops) }) o = execOp fr.eval o := by
    refine execOp_congr o hns (fun x hx' => ?_)
    cases x with
    | tmp t =>
      have ht : t ∈ o.looksAt ops := List.mem_append_left _ (List.mem_filterMap.2 ⟨.tmp t, by simpa using hx', rfl⟩)
      show (viewV nt tmps (o.looksAt ops)).getD t Go.undef = fr.tmps.getD t Go.undef
      rw [viewV_get hs.size, if_pos ht, hft]
    | const v => rfl
    | global g => rfl
    | func f => rfl
  rw [h2] at h1
  exact h1
end
end Go.AM
