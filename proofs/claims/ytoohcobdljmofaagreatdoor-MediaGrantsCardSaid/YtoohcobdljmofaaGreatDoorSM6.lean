/-
  A machine over abstract values, sound for the model's machine: part 6 (A38, A39, A40, A41, A42, A43, A44, A45). Conditions: none of the program's; it is shown for every program.
-/
import Derived.Test.YtoohcobdljmofaaGreatDoorSM5
import Derived.Below
import Derived.KernelRfl
/-! A38: One more operation of a drawn region is done. -/
namespace Go.AM

/-- the frame that is entered -/
def Enters (P : Program) (s : Sem Next) (w : World) (fr : Frame) : Prop :=
  (∃ f vs, s.run P w = .ok (.enter f vs) w ∧ fr = Frame.enter P f vs .normal) ∨ (∃ l f tmps a b, s.run P w = .ok (.round l f tmps a b) w ∧ fr = Frame.round l f tmps a b .normal)
theorem step_enters {P : Program} {fr fr' : Frame} {cs : List Frame} {w : World} {k : List Item} {ops : Array Oper} {i : Nat} {rest : List Nat} {o : Oper} (hm : fr.mode = .run) (ht : fr.todo = .inRegion ops (i :: rest) :: k) (ho : ops[i]? = some o) (hw : Region.wanted o (yielded ops fr.tmps) = true)
    (hd : fr.roundOf = none ∨ ∀ c, o.op ≠ .defer c) (hr : Enters P (execOp fr.eval o) w fr') : step P (lone fr cs w) = .next (lone fr' (fr :: cs) w) := by
  rcases hr with ⟨f, vs, h1, rfl⟩ | ⟨l, f, tmps, a, b, h1, rfl⟩
  · exact step_enter hm ht ho hw hd h1
  · exact step_round hm ht ho hw hd h1
def CallOk (CALL : CallF) (E : Env) : Prop :=
  ∀ (ro : RO) (H : Hp) (γ : Gm) (w : World) (s : Sem Next), HR γ E.ng H w → OpR E γ H w s ro →
    (∀ x S', CALL ro H = .fin x S' → (∀ d, ro ≠ .dfr d) ∧ ∃ fr', Enters E.P s w fr' ∧ ∀ c bot, ∃ γ' v' w', Steps E.P (lone fr' (c :: bot) w) (lone (c.finish v') bot w') ∧ VR γ' x v' ∧ HR γ' E.ng S' w' ∧ Pres H γ w S' γ' w') ∧
    (∀ x S', CALL ro H = .finP x S' → (∀ d, ro ≠ .dfr d) ∧ ∃ fr', Enters E.P s w fr' ∧ ∀ c bot, ∃ γ' v' w', Steps E.P (lone fr' (c :: bot) w) (lone (c.raise [{ v := v', recovered := false }]) bot w') ∧ VR γ' x v' ∧ HR γ' E.ng S' w' ∧ Pres H γ w S' γ' w')

theorem setD_get (d : Option Nat) (v : Value) (t : Array Value) (x : Nat) : (setD d v t).getD x Go.undef = if d = some x ∧ x < t.size then v else t.getD x Go.undef := by
  cases d with
  | none => simp [setD]
  | some d =>
    show (t.setIfInBounds d v).getD x Go.undef = _
    rw [Array.getD_eq_getD_getElem?, Array.getD_eq_getD_getElem?, Array.getElem?_setIfInBounds]
    by_cases e : d = x
    · subst e
      by_cases hlt : d < t.size
      · simp [hlt]
      · simp [hlt]
    · simp [e]
theorem setD_size (d : Option Nat) (v : Value) (t : Array Value) : (setD d v t).size = t.size := by cases d <;> simp [setD]

section
variable {CALL : CallF} {E : Env} {nt : Nat} {ops : Array Oper} {fl : Nat} {ms : List Nat} {P : Nat → PSt} {oc : Nat → Oc} {tm0 : Tm} {B0 : T AO} {K0 : Ps} (h : Plan CALL E nt ops fl ms P oc tm0 B0 K0)
variable {X : Nat → Prop} {l : Nat} {γ : Gm} {w : World} {tmps : Array Value} {S : Hp} {γ0 : Gm} {w0 : World}
include h

theorem Plan.s_next (hs : SInv nt ops P oc tm0 K0 X γ tmps) {γ' : Gm} (hg : Gm.le γ γ') {i : Nat} {o : Oper} (ho : ops[i]? = some o) {v : AV} (hv : (oc i).val = some v) (hd : ∀ d, o.dst = some d → d < nt)
    {v' : Value} (hr : VR (γ'.cut (P (i + 1)).K.idx) v v') : SInv nt ops P oc tm0 K0 (fun p => X p ∨ p = i) γ' (setD o.dst v' tmps) := by
  refine ⟨by rw [setD_size]; exact hs.size, fun p o' d u hp ho' hd' hu => ?_, fun t ht => ?_⟩
  · rw [setD_get]
    by_cases e : p = i
    · subst e
      rw [ho] at ho'; cases ho'
      rw [hv] at hu; cases hu
      rw [if_pos ⟨hd', by rw [hs.size]; exact hd d hd'⟩]; exact hr
    · rcases hp with hp | hp
      · rw [if_neg (fun hc => h.dst_ne ho ho' (fun e' => e e'.symm) hd' hc.1)]
        exact (hs.slot p o' d u hp ho' hd' hu).mono (Gm.cut_mono hg (Nat.le_refl _))
      · exact absurd hp e
  · rw [setD_get, if_neg (fun hc => ht i o v (.inr rfl) ho hv hc.1)]
    exact (hs.slot0 t (fun p o' u hp => ht p o' u (.inl hp))).mono (Gm.cut_mono hg (Nat.le_refl _))
omit h in
theorem XInv.quiet (hx : XInv ops ms oc X l) {i : Nat} (hi : i < ops.size) {m : Nat} (hm : ms[i]? = some m) (hpre : ∀ p, tb m p = true → X p) {v : AV} (hv : (oc i).val = some v) (hn : ¬ (oc i).isEf) : XInv ops ms oc (fun p => X p ∨ p = i) l := by
  refine ⟨fun j hj => ?_, fun j m' hj hm' p hp => ?_, fun e he hf => ?_, hx.lvl, fun j hj => ?_⟩
  · rcases hj with hj | rfl
    · exact hx.lt j hj
    · exact hi
  · rcases hj with hj | rfl
    · exact .inl (hx.closed j m' hj hm' p hp)
    · rw [hm] at hm'; cases hm'; exact .inl (hpre p hp)
  · rw [← hx.eff e he hf]
    constructor
    · rintro (a | rfl)
      · exact a
      · exact absurd hf hn
    · exact .inl
  · rcases hj with hj | rfl
    · exact hx.live j hj
    · rw [hv]; exact fun e => by cases e
/-- when an effect's turn has come -/
theorem Plan.sync (hx : XInv ops ms oc X l) {i : Nat} (hi : i < ops.size) {m : Nat} (hpre : ∀ p, tb m p = true → X p) (hnX : ¬ X i) (hs : subM (P i).Ef m = true) (hk : (oc i).isEf ∨ ∃ v hp, oc i = .pan v hp) :
    l ≤ i ∧ (P i).A = (P l).A ∧ (P i).B = (P l).B ∧ ∀ e, e < i → (oc e).isEf → X e := by
  have hall : ∀ e, e < i → (oc e).isEf → X e := fun e he hf => hpre e (subM_ok hs ((h.Ef (by omega) e).2 ⟨he, hf⟩))
  have hl : l ≤ i := by
    rcases hx.lvl with rfl | ⟨e, rfl, he, hf⟩
    · exact Nat.zero_le _
    · refine Nat.succ_le_of_lt ?_
      rcases Nat.lt_trichotomy e i with hlt | rfl | hlt
      · exact hlt
      · exact absurd ((hx.eff e he hf).2 (by omega)) hnX
      · rcases hk with hk | ⟨v, hp, hk⟩
        · exact absurd ((hx.eff i hi hk).2 (by omega)) hnX
        · have h1 := h.pan2 (i := e) (by omega) hlt hk
          obtain ⟨o, m, _, _, h3⟩ := h.at he
          generalize hs : P (e + 1) = s' at h3
          generalize hc : oc e = c at h3 hf
          cases h3 with
          | ef hw hn _ _ _ _ => rw [hn] at h1; cases h1
          | _ => exact absurd hf (fun x => x)
  obtain ⟨h1, h2⟩ := h.AB hl (by omega) (fun e he hlt hf => by
    have := (hx.eff e (by omega) hf).1 (hall e hlt hf); omega)
  exact ⟨hl, h1, h2, hall⟩
/-- the heap that an operation sees -/
theorem Plan.viewH {j : Nat} (hj : j ≤ ops.size) (hl : l ≤ j) {m : Nat} (hpre : ∀ p, tb m p = true → X p) {a : Ps} {b : AO} (hb : T.get a (addN (vis m (P l).A) (P l).B (P j).news) = some b) : ∃ c, Ow P oc X l a b c ∧ c ≤ (P j).K.idx := by
  rcases addN_get hb with hb | ⟨p, h1, h2⟩
  · exact ⟨_, .inl ⟨hb, rfl⟩, h.K hl hj⟩
  · obtain ⟨h3, h4, v, h5⟩ := h.news1 hj h1
    obtain ⟨h6, h7⟩ := vis_iff.1 h2
    exact ⟨_, .inr ⟨p, v, hpre p h7, h6, h5, h4, rfl⟩, h.K (by omega) hj⟩
theorem Plan.notH {j : Nat} (hj : j ≤ ops.size) {m : Nat} {p : Nat} (hp : p < ops.size) {v : AV} {b : AO} (ho : oc p = .q v (some b)) (hm : tb m p = false) (hB : T.get (P p).K (P l).B = none) :
    T.get (P p).K (addN (vis m (P l).A) (P l).B (P j).news) = none := by
  cases hg : T.get (P p).K (addN (vis m (P l).A) (P l).B (P j).news) with
  | none => rfl
  | some b2 =>
    rcases addN_get hg with hb | ⟨q, h1, h2⟩
    · rw [hB] at hb; cases hb
    · obtain ⟨h3, h4, v2, h5⟩ := h.news1 hj h1
      have := h.newInj hp (by omega) ho h5 h4
      subst this
      rw [(vis_iff.1 h2).2] at hm; cases hm
theorem Plan.dst_lt {i : Nat} (hi : i < ops.size) {o : Oper} (ho : ops[i]? = some o) {v : AV} (hv : (oc i).val = some v) : ∀ d, o.dst = some d → d < nt := by
  intro d hd
  obtain ⟨o', m, h1, h2, h3⟩ := h.at hi
  rw [ho] at h1; cases h1
  exact ((putD_get (h3.tm.1 v hv) d).1 hd).2
/-- keys that are taken lie apart from those of operation i -/
theorem Plan.apartK {i : Nat} (hi : i < ops.size) (hnX : ¬ X i) (hlt : ∀ p, X p → p < ops.size) : ∀ n, Dm P X n → ¬ ((P i).K.idx ≤ n ∧ n < (P (i + 1)).K.idx) := by
  intro n hn hc
  rcases hn with hn | ⟨p, h1, h2, h3⟩
  · have := h.K (Nat.zero_le i) (by omega); omega
  · rcases Nat.lt_trichotomy p i with hlt' | rfl | hlt'
    · have := h.K (i := p + 1) (j := i) hlt' (by omega); omega
    · exact hnX h1
    · have := hlt p h1
      have := h.K (i := i + 1) (j := p) hlt' (by omega); omega
theorem Plan.domLt (hlt : ∀ p, X p → p < ops.size) : ∀ n, Dm P X n → n < (P ops.size).K.idx := by
  intro n hn
  rcases hn with hn | ⟨p, h1, h2, h3⟩
  · have := h.K (Nat.zero_le ops.size) (Nat.le_refl _); omega
  · have := hlt p h1
    have := h.K (i := p + 1) (j := ops.size) (by omega) (Nat.le_refl _); omega
end
end Go.AM

/-! A39: An operation of a drawn region is done: the state behind it. -/
namespace Go.AM

section
variable {CALL : CallF} {E : Env} {nt : Nat} {ops : Array Oper} {fl : Nat} {ms : List Nat} {P : Nat → PSt} {oc : Nat → Oc} {tm0 : Tm} {B0 : T AO} {K0 : Ps} (h : Plan CALL E nt ops fl ms P oc tm0 B0 K0)
variable {X : Nat → Prop} {l : Nat} {γ : Gm} {w : World} {tmps : Array Value} {S : Hp} {γ0 : Gm} {w0 : World}

def QOk (E : Env) (n : Nat) (P : Nat → PSt) : Prop :=
  ∀ q ∈ (P n).qs, ∀ x ∈ (P n).levels, tb x.1 q.i = false → subM (Nat.land q.m (P n).Ef) x.1 = true → ∃ S', evOp q.o.op E q.tm ⟨addN (vis q.m x.1) x.2 (P n).news, (P n).K, (P n).K.idx⟩ q.o.type = some (.v q.v S')

include h
theorem Plan.exec (hE : E.Ok) (hC : CallOk CALL E) (hq : QOk E ops.size P) (hSf : S.fl = fl) (hSn : S.nx = K0) (hng : E.ng ≤ K0.idx) (hfl : fl ≤ K0.idx) (hR : RInv nt ops ms P oc tm0 K0 E.ng S γ0 w0 X l γ w tmps)
    {i : Nat} (hi : i < ops.size) {o : Oper} {m : Nat} (ho : ops[i]? = some o) (hm : ms[i]? = some m) (hnX : ¬ X i) (hpre : ∀ p, tb m p = true → X p) {fr : Frame} {cs : List Frame} {k' : List Item} {L : List Nat}
    (hft : fr.tmps = tmps) (hmo : fr.mode = .run) (hto : fr.todo = .inRegion ops (i :: L) :: k') :
    (∃ γ' w' v' l', Steps E.P (lone fr cs w) (lone (fr.finish v') cs w') ∧ RInv nt ops ms P oc tm0 K0 E.ng S γ0 w0 (fun p => X p ∨ p = i) l' γ' w' (setD o.dst v' tmps)) ∨
    (∃ v hp, oc i = .pan v hp ∧ ∃ v' γ' w', Steps E.P (lone fr cs w) (lone (fr.raise [{ v := v', recovered := false }]) cs w') ∧ VR γ' v v' ∧ HR γ' E.ng ⟨hp, (P ops.size).K, fl⟩ w' ∧ Pres S γ0 w0 ⟨hp, (P ops.size).K, fl⟩ γ' w') := by
  obtain ⟨hx, hs, hh, hold, hfd⟩ := hR
  have hkz : (P 0).K = K0 := h.kz
  have hKi : K0.idx ≤ (P i).K.idx := by rw [← hkz]; exact h.K (Nat.zero_le _) (by omega)
  have hKn : K0.idx ≤ (P ops.size).K.idx := by rw [← hkz]; exact h.K (Nat.zero_le _) (Nat.le_refl _)
  have hKin : (P i).K.idx ≤ (P ops.size).K.idx := h.K (by omega) (Nat.le_refl _)
  have hK1n : (P (i + 1)).K.idx ≤ (P ops.size).K.idx := h.K (by omega) (Nat.le_refl _)
  have hK1 := h.K1 hi
  have hap := h.apartK hi hnX hx.lt
  have hdl := h.domLt hx.lt
  have want : ∀ {b : Bool}, wantA nt ops (P i).tm o = some b → Region.wanted o (yielded ops fr.tmps) = b := fun hw => h.want_at hft hs hx hi ho hm hnX hpre hw
  have hstep := h.step i o m ho hm
  have hD1 : ∀ n, Dm P X n → Dm P (fun p => X p ∨ p = i) n := fun n hn => by
    rcases hn with hn | ⟨p, h1, h2⟩
    · exact .inl hn
    · exact .inr ⟨p, .inl h1, h2⟩
  -- what stays of the objects when nothing new has come
  have same : ∀ {v : AV}, oc i = .q v none ∨ oc i = .qb v → (∀ a b c, Ow P oc (fun p => X p ∨ p = i) l a b c → Ow P oc X l a b c) ∧
      (∀ p v b, (X p ∨ p = i) → tb (P l).A p = false → oc p = .q v (some b) → T.get (P p).K (P l).B = none) := fun hoc => by
    have hne : ∀ {v b}, oc i ≠ .q v (some b) := fun e => by rcases hoc with hoc | hoc <;> rw [hoc] at e <;> cases e
    refine ⟨fun a b c hO => ?_, fun p v b hp ha hq => ?_⟩
    · rcases hO with hO | ⟨p, v, h1, h2, h3, h4⟩
      · exact .inl hO
      · rcases h1 with h1 | rfl
        · exact .inr ⟨p, v, h1, h2, h3, h4⟩
        · exact absurd h3 hne
    · rcases hp with hp | rfl
      · exact hfd p v b hp ha hq
      · exact absurd hq hne
  have empty : ∀ (f : Nat), HR (γ.cut (P i).K.idx) E.ng ⟨.e, (P i).K, f⟩ w := fun f => hh.sub (fun a b e => by rw [T.get_e] at e; cases e) (by omega)
  have atl : (P l).A = (P l).A := rfl
  generalize hoc : oc i = c at hstep
  generalize hsi : P (i + 1) = s' at hstep
  cases hstep with
  | skip hk =>
    obtain ⟨p, v, hp, h1, h2, h3⟩ := h.skip hi hoc hm
    have := hx.live p (hpre p h3)
    rw [h2] at this
    exact absurd rfl this
  | @un tm' hw hp =>
    have hval : (oc i).val = some (.tup []) := by rw [hoc]; rfl
    obtain ⟨s1, s2⟩ := same (v := .tup []) (.inl hoc)
    refine .inl ⟨γ, w, Go.undef, l, Steps.one (step_unwanted hmo hto ho (want hw)), ⟨hx.quiet hi hm hpre hval (by rw [hoc]; exact fun x => x), ?_, hh.weaken s1 hD1, hold, s2⟩⟩
    exact h.s_next hs (Gm.le_refl _) ho hval (h.dst_lt hi ho hval) .undef
  | @qr x tm' hw he hp =>
    have hval : (oc i).val = some x := by rw [hoc]; rfl
    obtain ⟨s1, s2⟩ := same (v := x) (.inl hoc)
    obtain ⟨γr, v', w', hrun, hv, hH', hP⟩ := h.ev_at hft hE hs hx hi ho hm hnX hpre he (Nat.le_refl _) (empty 0)
    obtain ⟨hh', g1, g2, g3⟩ := hh.next (H := .e) (O' := Ow P oc X l) (fun a b e => by rw [T.get_e] at e; cases e) (Nat.zero_le _) (by rw [hSn]; omega) (by rw [hSf]; omega) (fun a b e => by rw [T.get_e] at e; cases e) hH' hP
      (fun n _ hc => by have : n < (P i).K.idx := hc.2; omega) (fun a b c ho => .inr ⟨ho, .inl (T.get_e a)⟩)
    refine .inl ⟨_, w', v', l, Steps.one (step_val hmo hto ho (want hw) (.inr (evOp_noDefer he (fun d e => by cases e))) hrun), ⟨hx.quiet hi hm hpre hval (by rw [hoc]; exact fun x => x), ?_, hh'.weaken s1 (fun n hn => ?_), hold, s2⟩⟩
    · exact h.s_next hs g1 ho hval (h.dst_lt hi ho hval) (hv.mono (Gm.le_trans g2 (Gm.cut_mono (Gm.le_refl _) hK1)))
    · rcases hn with hn | hn
      · exact hD1 n hn
      · have : n < (P i).K.idx := hn.2
        omega
  | @qa x tm' S' ob hw he hn hg hp =>
    have hval : (oc i).val = some x := by rw [hoc]; rfl
    have hKs : (P (i + 1)).K = Ps.succ (P i).K := by rw [hsi]
    have hSx : S'.nx.idx = (P (i + 1)).K.idx := by rw [hn, hKs]
    obtain ⟨γr, v', w', hrun, hv, hH', hP⟩ := h.ev_at hft hE hs hx hi ho hm hnX hpre he (Nat.le_refl _) (empty 0)
    obtain ⟨hh', g1, g2, g3⟩ := hh.next (H := .e) (O' := Ow P oc (fun p => X p ∨ p = i) l) (fun a b e => by rw [T.get_e] at e; cases e) (Nat.zero_le _) (by rw [hSn]; omega) (by rw [hSf]; omega) (fun a b e => by rw [T.get_e] at e; cases e) hH' hP
      (fun n hn hc => hap n hn (by rw [← hSx]; exact hc)) (fun a b c hO => by
        rcases hO with hO | ⟨p, v, h1, h2, h3, h4, h5⟩
        · exact .inr ⟨.inl hO, .inl (T.get_e a)⟩
        · rcases h1 with h1 | rfl
          · exact .inr ⟨.inr ⟨p, v, h1, h2, h3, h4, h5⟩, .inl (T.get_e a)⟩
          · rw [hoc] at h3; cases h3
            exact .inl ⟨by rw [h4]; exact hg, by rw [h5, hSx]; exact Nat.le_refl _, .inr (by rw [h4]; exact Nat.le_refl _)⟩)
    refine .inl ⟨_, w', v', l, Steps.one (step_val hmo hto ho (want hw) (.inr (evOp_noDefer he (fun d e => by cases e))) hrun), ⟨hx.quiet hi hm hpre hval (by rw [hoc]; exact fun x => x), ?_, hh'.weaken (fun _ _ _ x => x) (fun n hn => ?_), hold, fun p v b hp ha hq => ?_⟩⟩
    · exact h.s_next hs g1 ho hval (h.dst_lt hi ho hval) (hv.mono (Gm.le_trans g2 (Gm.cut_mono (Gm.le_refl _) (by omega))))
    · rcases hn with hn | hn
      · exact hD1 n hn
      · exact .inr ⟨i, .inr rfl, hn.1, by rw [← hSx]; exact hn.2⟩
    · rcases hp with hp | rfl
      · exact hfd p v b hp ha hq
      · cases hB : T.get (P p).K (P l).B with
        | none => rfl
        | some b2 =>
          obtain ⟨_, M, ob2, e1, _⟩ := hh.obj _ b2 _ (.inl ⟨hB, rfl⟩)
          refine absurd ⟨Nat.le_refl _, ?_⟩ (hap _ (hh.dom _ _ e1))
          rw [hKs, Ps.idx_succ]; omega
  | @qb x tm' hw hk hb hp =>
    have hval : (oc i).val = some x := by rw [hoc]; rfl
    obtain ⟨s1, s2⟩ := same (v := x) (.inr hoc)
    have hln : l ≤ ops.size := by
      rcases hx.lvl with rfl | ⟨e, rfl, he, _⟩
      · exact Nat.zero_le _
      · exact he
    have hlev := h.levels (Nat.le_refl _) hln (by
      rcases hx.lvl with rfl | ⟨e, rfl, _, hf⟩
      · exact .inl rfl
      · exact .inr ⟨e, rfl, hf⟩)
    have hqs := h.qs (Nat.le_refl _) hi hoc ho hm
    obtain ⟨S', he⟩ := hq _ hqs _ hlev (by
      show tb (P l).A i = false
      cases hb : tb (P l).A i with
      | false => rfl
      | true =>
        obtain ⟨e, h1, h2, h3⟩ := h.A2 hln hb
        have hXe : X e := (hx.eff e (by omega) h2).2 h1
        rcases h3 with rfl | ⟨me, h4, h5⟩
        · exact absurd hXe hnX
        · exact absurd (hx.closed e me hXe h4 i h5) hnX) (by
      refine subM_of (fun e he => ?_)
      rw [tb_and] at he
      simp only [Bool.and_eq_true] at he
      obtain ⟨h1, h2⟩ := (h.Ef (Nat.le_refl _) e).1 he.2
      exact h.A1 hln ((hx.eff e h1 h2).1 (hpre e he.1)) h2)
    simp only at he
    have hSS := ro_ok (.inl hk) he
    subst hSS
    have hsub : ∀ a b, T.get a (addN (vis m (P l).A) (P l).B (P ops.size).news) = some b → ∃ c, Ow P oc X l a b c ∧ c ≤ (P ops.size).K.idx := fun a b e => h.viewH (Nat.le_refl _) hln hpre e
    obtain ⟨γr, v', w', hrun, hv, hH', hP⟩ := h.ev_at hft hE hs hx hi ho hm hnX hpre he hKin (hh.sub hsub (by omega))
    obtain ⟨hh', g1, g2, g3⟩ := hh.next (O' := Ow P oc X l) hsub (Nat.le_refl _) (by rw [hSn]; omega) (by rw [hSf]; omega) (fun a b e hf => by rw [hSf]; omega) hH' hP
      (fun n _ hc => by have : n < (P ops.size).K.idx := hc.2; omega) (fun a b c ho => .inr ⟨ho, .inr (Nat.le_refl _)⟩)
    refine .inl ⟨_, w', v', l, Steps.one (step_val hmo hto ho (want hw) (.inr (evOp_noDefer he (fun d e => by cases e))) hrun), ⟨hx.quiet hi hm hpre hval (by rw [hoc]; exact fun x => x), ?_, hh'.weaken s1 (fun n hn => ?_), hold, s2⟩⟩
    · refine h.s_next hs g1 ho hval (h.dst_lt hi ho hval) ?_
      have hb2 := kbA_ok (hv.mono (Gm.le_trans g2 (Gm.cut_le _ _))) hb
      exact hb2.mono (Gm.cut_mono (Gm.le_refl _) hK1)
    · rcases hn with hn | hn
      · exact hD1 n hn
      · have : n < (P ops.size).K.idx := hn.2
        omega
  | @ef x tm' S' hw hn hsm he hK hp =>
    have hval : (oc i).val = some x := by rw [hoc]; rfl
    have hef : (oc i).isEf := by rw [hoc]; trivial
    obtain ⟨hl, hA, hB, hall⟩ := h.sync hx hi hpre hnX hsm (.inl hef)
    have hP1 : P (i + 1) = ⟨tm', S'.hp, lvl (P i) i m, Nat.lor (P i).Ef (bit i), (P i).news, (lvl (P i) i m, S'.hp) :: (P i).levels, (P i).qs, S'.nx, (P i).pan⟩ := hsi
    have hB1 : (P (i + 1)).B = S'.hp := by rw [hP1]
    have hA1 : (P (i + 1)).A = lvl (P i) i m := by rw [hP1]
    have hKx : (P (i + 1)).K = S'.nx := by rw [hP1]
    rw [hA, hB] at he
    have hsub : ∀ a b, T.get a (addN (vis m (P l).A) (P l).B (P i).news) = some b → ∃ c, Ow P oc X l a b c ∧ c ≤ (P i).K.idx := fun a b e => h.viewH (by omega) hl hpre e
    have hHR : HR (γ.cut (P i).K.idx) E.ng ⟨addN (vis m (P l).A) (P l).B (P i).news, (P i).K, fl⟩ w := hh.sub hsub (by omega)
    -- the run
    have hrun : ∃ γr v' w', Steps E.P (lone fr cs w) (lone (fr.finish v') cs w') ∧ VR γr x v' ∧ HR γr E.ng S' w' ∧ Pres ⟨addN (vis m (P l).A) (P l).B (P i).news, (P i).K, fl⟩ (γ.cut (P i).K.idx) w S' γr w' := by
      rcases he with he | ⟨ro, he, hc⟩
      · obtain ⟨γr, v', w', hrun, hv, hH', hP⟩ := h.ev_at hft hE hs hx hi ho hm hnX hpre he (Nat.le_refl _) hHR
        exact ⟨γr, v', w', Steps.one (step_val hmo hto ho (want hw) (.inr (evOp_noDefer he (fun d e => by cases e))) hrun), hv, hH', hP⟩
      · obtain ⟨hnd, fr', hen, hgo⟩ := (hC ro _ _ w _ hHR (h.ev_at hft hE hs hx hi ho hm hnX hpre he (Nat.le_refl _) hHR)).1 x S' hc
        obtain ⟨γr, v', w', g1, g2, g3, g4⟩ := hgo fr cs
        exact ⟨γr, v', w', Steps.head (step_enters hmo hto ho (want hw) (.inr (evOp_noDefer he hnd)) hen) g1, g2, g3, g4⟩
    obtain ⟨γr, v', w', hst, hv, hH', hP⟩ := hrun
    have notin : ∀ p v b, X p → tb (lvl (P i) i m) p = false → oc p = .q v (some b) → tb (P l).A p = false ∧ T.get (P p).K (addN (vis m (P l).A) (P l).B (P i).news) = none := fun p v b hp ha hq => by
      unfold lvl at ha
      rw [tb_or, tb_or, tb_bit, hA] at ha
      simp only [Bool.or_eq_false_iff, decide_eq_false_iff_not] at ha
      exact ⟨ha.1.1, h.notH (by omega) (hx.lt p hp) hq ha.1.2 (hfd p v b hp ha.1.1 hq)⟩
    obtain ⟨hh', g1, g2, g3⟩ := hh.next (O' := Ow P oc (fun p => X p ∨ p = i) (i + 1)) hsub (by omega) (by rw [hSn]; omega) (by rw [hSf]; omega) (fun a b e hf => by rw [hSf]; exact hf) hH' hP
      (fun n hn hc => hap n hn (by rw [hKx]; exact hc)) (fun a b c hO => by
        rcases hO with ⟨hO, rfl⟩ | ⟨p, v, h1, h2, h3, h4, h5⟩
        · exact .inl ⟨by rw [← hB1]; exact hO, by rw [hKx]; exact Nat.le_refl _, .inl hSf.symm⟩
        · rcases h1 with h1 | rfl
          · rw [hA1] at h2
            obtain ⟨n1, n2⟩ := notin p v b h1 h2 h3
            exact .inr ⟨.inr ⟨p, v, h1, n1, h3, h4, h5⟩, .inl (by rw [h4]; exact n2)⟩
          · rw [hoc] at h3; cases h3)
    refine .inl ⟨_, w', v', i + 1, hst, ⟨⟨?_, ?_, ?_, .inr ⟨i, rfl, hi, hef⟩, ?_⟩, ?_, hh'.weaken (fun _ _ _ x => x) (fun n hn => ?_), fun a b hab hlt => ?_, fun p v b hp ha hq => ?_⟩⟩
    · intro j hj
      rcases hj with hj | rfl
      · exact hx.lt j hj
      · exact hi
    · intro j m' hj hm' p hp
      rcases hj with hj | rfl
      · exact .inl (hx.closed j m' hj hm' p hp)
      · rw [hm] at hm'; cases hm'; exact .inl (hpre p hp)
    · intro e he' hf
      constructor
      · rintro (a | rfl)
        · have := (hx.eff e he' hf).1 a; omega
        · omega
      · intro a
        rcases Nat.lt_or_ge e i with hlt | hge
        · exact .inl (hall e hlt hf)
        · exact .inr (by omega)
    · intro j hj
      rcases hj with hj | rfl
      · exact hx.live j hj
      · rw [hval]; exact fun e => by cases e
    · exact h.s_next hs g1 ho hval (h.dst_lt hi ho hval) (hv.mono (Gm.le_trans g2 (Gm.cut_mono (Gm.le_refl _) (by rw [hKx]; exact Nat.le_refl _))))
    · rcases hn with hn | hn
      · exact hD1 n hn
      · exact .inr ⟨i, .inr rfl, hn.1, by rw [hKx]; exact hn.2⟩
    · rw [hB1]
      refine hP.old a b (addN_base (hold a b hab hlt) (fun p k o hmem e => ?_)) (by show a.idx < fl; rw [← hSf]; exact hlt)
      obtain ⟨q1, q2, _⟩ := h.news1 (by omega) hmem
      have : (P 0).K.idx ≤ (P p).K.idx := h.K (Nat.zero_le _) (by omega)
      rw [← q2, e, hkz] at this
      omega
    · rw [hB1]
      rcases hp with hp | rfl
      · rw [hA1] at ha
        obtain ⟨n1, n2⟩ := notin p v b hp ha hq
        exact g3 _ b _ (.inr ⟨p, v, hp, n1, hq, rfl, rfl⟩) n2
      · rw [hoc] at hq; cases hq
  | @pn v H f hw hn hsm hHs he =>
    obtain ⟨hl, hA, hB, hall⟩ := h.sync hx hi hpre hnX hsm (.inr ⟨_, _, hoc⟩)
    rw [hA, hB] at hHs hoc
    have hsub : ∀ a b, T.get a (addN (vis m (P l).A) (P l).B (P i).news) = some b → ∃ c, Ow P oc X l a b c ∧ c ≤ (P i).K.idx := fun a b e => h.viewH (by omega) hl hpre e
    have hHR : HR (γ.cut (P i).K.idx) E.ng ⟨H, (P i).K, f⟩ w := hh.sub (fun a b e => hsub a b (hHs a b e)) (by omega)
    obtain ⟨v', hr1, hr2⟩ := h.ev_at hft hE hs hx hi ho hm hnX hpre he (Nat.le_refl _) hHR
    obtain ⟨f1, f2⟩ := hh.final (H := addN (vis m (P l).A) (P l).B (P i).news) (k := (P ops.size).K) (fun a b e => by obtain ⟨c, h1, _⟩ := hsub a b e; exact ⟨c, h1⟩)
      (fun a b hab hlt => addN_base (hold a b hab hlt) (fun p k o hmem e => by
        obtain ⟨q1, q2, _⟩ := h.news1 (by omega) hmem
        have : (P 0).K.idx ≤ (P p).K.idx := h.K (Nat.zero_le _) (by omega)
        rw [← q2, e, hkz] at this
        omega)) hdl (by rw [hSn]; omega)
    rw [hSf] at f1 f2
    exact .inr ⟨v, _, by rw [hA, hB], v', γ, w, Steps.one (step_panic hmo hto ho (want hw) (.inr (evOp_noDefer he (fun d e => by cases e))) hr1), hr2.mono (Gm.cut_le _ _), f1, f2⟩
  | @pc v ro S' hw hn hsm he hc hK =>
    obtain ⟨hl, hA, hB, hall⟩ := h.sync hx hi hpre hnX hsm (.inr ⟨_, _, hoc⟩)
    have hKx : (P (i + 1)).K = S'.nx := by rw [hsi]
    rw [hA, hB] at he hc
    have hsub : ∀ a b, T.get a (addN (vis m (P l).A) (P l).B (P i).news) = some b → ∃ c, Ow P oc X l a b c ∧ c ≤ (P i).K.idx := fun a b e => h.viewH (by omega) hl hpre e
    have hHR : HR (γ.cut (P i).K.idx) E.ng ⟨addN (vis m (P l).A) (P l).B (P i).news, (P i).K, fl⟩ w := hh.sub hsub (by omega)
    obtain ⟨hnd, fr', hen, hgo⟩ := (hC ro _ _ w _ hHR (h.ev_at hft hE hs hx hi ho hm hnX hpre he (Nat.le_refl _) hHR)).2 v S' hc
    obtain ⟨γr, v', w', g1, g2, hH', hP⟩ := hgo fr cs
    obtain ⟨hh', e1, e2, _⟩ := hh.next (O' := fun a b c => T.get a S'.hp = some b ∧ c = S'.nx.idx) hsub (by omega) (by rw [hSn]; omega) (by rw [hSf]; omega) (fun a b e hf => by rw [hSf]; exact hf) hH' hP
      (fun n hn hc => hap n hn (by rw [hKx]; exact hc)) (fun a b c hO => .inl ⟨hO.1, by rw [hO.2]; exact Nat.le_refl _, .inl hSf.symm⟩)
    obtain ⟨f1, f2⟩ := hh'.final (H := S'.hp) (k := (P ops.size).K) (fun a b e => ⟨_, e, rfl⟩)
      (fun a b hab hlt => hP.old a b (addN_base (hold a b hab hlt) (fun p k o hmem e => by
        obtain ⟨q1, q2, _⟩ := h.news1 (by omega) hmem
        have : (P 0).K.idx ≤ (P p).K.idx := h.K (Nat.zero_le _) (by omega)
        rw [← q2, e, hkz] at this
        omega)) (by show a.idx < fl; rw [← hSf]; exact hlt)) (fun n hn => by
          rcases hn with hn | hn
          · exact hdl n hn
          · rw [hKx] at hK1n; omega) (by rw [hSn]; omega)
    rw [hSf] at f1 f2
    exact .inr ⟨v, _, rfl, v', _, w', Steps.head (step_enters hmo hto ho (want hw) (.inr (evOp_noDefer he hnd)) hen) g1, g2.mono (Gm.le_trans e2 (Gm.cut_le _ _)), f1, f2⟩
end
end Go.AM

/-! A40: Drawn regions: the whole. -/
namespace Go.AM

noncomputable def flo (A : Nat) : Nat → Bool := fun p => Bool.rec true false (tb A p)
noncomputable def chkQ (E : Env) (s : PSt) (q : QE) (x : Nat × T AO) : Bool :=
  Bool.rec (Bool.rec true (match evOp q.o.op E q.tm ⟨addN (vis q.m x.1) x.2 s.news, s.K, s.K.idx⟩ q.o.type with | some (.v y _) => eqA 4 y q.v | _ => false) (subM (Nat.land q.m s.Ef) x.1)) true (tb x.1 q.i)
noncomputable def allL {α : Type} (p : α → Bool) (l : List α) : Bool := List.rec true (fun x _ ih => Bool.rec false ih (p x)) l
theorem allL_ok {α : Type} {p : α → Bool} : ∀ {l : List α}, allL p l = true → ∀ x ∈ l, p x = true
  | [], _, x, hx => by cases hx
  | y :: l, h, x, hx => by
    obtain ⟨h1, h2⟩ := recf (b := p y) (c := allL p l) h
    rcases List.mem_cons.1 hx with rfl | hx
    · exact h1
    · exact allL_ok h2 x hx
noncomputable def drawEnd (E : Env) (fl : Nat) (s : PSt) : Option (Sum (Tm × Hp) (AV × Hp)) :=
  Bool.rec none (match s.pan with
    | none => some (.inl (s.tm, ⟨addN (flo s.A) s.B s.news, s.K, fl⟩))
    | some (_, v, hp) => some (.inr (v, ⟨hp, s.K, fl⟩))) (allL (fun q => allL (chkQ E s q) s.levels) s.qs)
noncomputable def draw1 (CALL : CallF) (E : Env) (nt : Nat) (ops : Array Oper) (tm : Tm) (S : Hp) (ms : List Nat) : Option (Sum (Tm × Hp) (AV × Hp)) :=
  Hp.rec (fun hp nx fl => Bool.rec none (Bool.rec none (Bool.rec none (Option.rec none (drawEnd E fl) (pass CALL E nt ops fl ops.toList ms 0 ⟨tm, hp, 0, 0, [], [(0, hp)], [], nx, none⟩)) (Nat.ble fl nx.idx)) (Nat.ble E.ng nx.idx)) (slots ops ms)) S
noncomputable def drawA (CALL : CallF) (E : Env) (nt : Nat) (ops : Array Oper) (tm : Tm) (S : Hp) : Option (Sum (Tm × Hp) (AV × Hp)) :=
  Option.rec none (draw1 CALL E nt ops tm S) (masks ops)
theorem draw1_ok {CALL : CallF} {E : Env} {nt : Nat} {ops : Array Oper} {tm : Tm} {S : Hp} {r : Sum (Tm × Hp) (AV × Hp)} (h : drawA CALL E nt ops tm S = some r) :
    ∃ ms P oc, Plan CALL E nt ops S.fl ms P oc tm S.hp S.nx ∧ QOk E ops.size P ∧ S.fl ≤ S.nx.idx ∧ E.ng ≤ S.nx.idx ∧
      ((∃ p v hp, (P ops.size).pan = some (p, v, hp) ∧ r = .inr (v, ⟨hp, (P ops.size).K, S.fl⟩)) ∨
       ((P ops.size).pan = none ∧ r = .inl ((P ops.size).tm, ⟨addN (flo (P ops.size).A) (P ops.size).B (P ops.size).news, (P ops.size).K, S.fl⟩))) := by
  obtain ⟨ms, h1, h2⟩ := recb_ok (o := masks ops) h
  obtain ⟨h3, h4⟩ := rec_some (b := slots ops ms) h2
  obtain ⟨h5, h6⟩ := rec_some h4
  obtain ⟨h7, h8⟩ := rec_some h6
  obtain ⟨s, h9, h10⟩ := recb_ok h8
  obtain ⟨h11, h12⟩ := rec_some h10
  obtain ⟨P, oc, g1, g2, g3⟩ := pass_ok h9
  rw [Array.length_toList] at g2
  refine ⟨ms, P, oc, ⟨masks_ok h1, slots_ok h3, g1, fun j o m hj hm => ?_⟩, ?_, Nat.le_of_ble_eq_true h7, Nat.le_of_ble_eq_true h5, ?_⟩
  · have := g3 j o m (by rw [Array.getElem?_toList]; exact hj) hm
    rw [Nat.zero_add] at this
    exact this
  · intro q hq x hx ha hs
    rw [g2] at hq hx hs ⊢
    have h13 := allL_ok (allL_ok h11 q hq) x hx
    unfold chkQ at h13
    rw [ha, hs] at h13
    have h13 : (match evOp q.o.op E q.tm ⟨addN (vis q.m x.1) x.2 s.news, s.K, s.K.idx⟩ q.o.type with | some (.v y _) => eqA 4 y q.v | _ => false) = true := h13
    split at h13
    · rename_i y S' he
      rw [eqA_ok _ _ _ h13] at he
      exact ⟨S', he⟩
    · cases h13
  · rw [g2]
    split at h12
    · rename_i hp
      cases h12
      exact .inr ⟨hp, rfl⟩
    · rename_i p v hp e
      cases h12
      exact .inl ⟨p, v, hp, e, rfl⟩

section
variable {CALL : CallF} {E : Env} {nt : Nat} {ops : Array Oper} {fl : Nat} {ms : List Nat} {P : Nat → PSt} {oc : Nat → Oc} {tm0 : Tm} {B0 : T AO} {K0 : Ps} (h : Plan CALL E nt ops fl ms P oc tm0 B0 K0)
variable {S : Hp} {γ0 : Gm} {w0 : World}

theorem RInv.congr {X X' : Nat → Prop} (e : ∀ i, X i ↔ X' i) {l : Nat} {γ : Gm} {w : World} {tmps : Array Value} (hR : RInv nt ops ms P oc tm0 K0 E.ng S γ0 w0 X l γ w tmps) : RInv nt ops ms P oc tm0 K0 E.ng S γ0 w0 X' l γ w tmps := by
  have : X = X' := funext fun i => propext (e i)
  rw [← this]; exact hR

include h in
theorem Plan.run (hE : E.Ok) (hC : CallOk CALL E) (hq : QOk E ops.size P) (hSf : S.fl = fl) (hSn : S.nx = K0) (hng : E.ng ≤ K0.idx) (hfl : fl ≤ K0.idx) {cs : List Frame} {k' : List Item} :
    ∀ {listed : Array Bool} {L : List Nat}, Valid ops listed L → listed.size = ops.size → ∀ {l : Nat} {γ : Gm} {w : World} {fr : Frame}, RInv nt ops ms P oc tm0 K0 E.ng S γ0 w0 (fun i => listed.getD i false = true) l γ w fr.tmps → fr.mode = .run →
      fr.todo = .inRegion ops L :: k' →
      (∃ γ' w' l' tmps', Steps E.P (lone fr cs w) (lone { fr with tmps := tmps', todo := .inRegion ops [] :: k' } cs w') ∧ RInv nt ops ms P oc tm0 K0 E.ng S γ0 w0 (fun i => i < ops.size) l' γ' w' tmps') ∨
      (∃ i v hp, i < ops.size ∧ oc i = .pan v hp ∧ ∃ v' γ' w' tmps' L', tmps'.size = nt ∧ Steps E.P (lone fr cs w) (lone (({ fr with tmps := tmps', todo := .inRegion ops L' :: k' } : Frame).raise [{ v := v', recovered := false }]) cs w') ∧
        VR γ' v v' ∧ HR γ' E.ng ⟨hp, (P ops.size).K, fl⟩ w' ∧ Pres S γ0 w0 ⟨hp, (P ops.size).K, fl⟩ γ' w') := by
  intro listed L hV
  induction hV with
  | @nil listed hr =>
    intro hsz l γ w fr hR hmo hto
    have all : ∀ i, i < ops.size → listed.getD i false = true := by
      intro i
      induction i using Nat.strongRecOn with
      | _ i ih =>
        intro hi
        obtain ⟨o, m, ho, hm, _⟩ := h.at hi
        cases hb : listed.getD i false with
        | true => rfl
        | false =>
          exfalso
          have hb' : listed.getD i true = false := by
            rw [Array.getD_eq_getD_getElem?, Array.getElem?_eq_getElem (by omega)] at hb ⊢
            exact hb
          have : i ∈ Region.ready .any ops listed := mem_ready.2 ⟨hb', o, ho, fun e he hbd => by
            have := h.masks.back i o (by rw [Array.getElem?_toList]; exact ho) e he hbd
            exact ih e.on this (by omega)⟩
          rw [hr] at this; cases this
    refine .inl ⟨γ, w, l, fr.tmps, ?_, hR.congr (fun i => ⟨hR.x.lt i, all i⟩)⟩
    have : ({ fr with tmps := fr.tmps, todo := .inRegion ops [] :: k' } : Frame) = fr := by rw [← hto]
    rw [this]
    exact Steps.refl _ _
  | @cons listed i L hr ht ih =>
    intro hsz l γ w fr hR hmo hto
    obtain ⟨hb, o, ho, hall⟩ := mem_ready.1 hr
    have hi : i < ops.size := (Array.getElem?_eq_some_iff.1 ho).1
    obtain ⟨_, m, _, hm, _⟩ := h.at hi
    have hnX : ¬ listed.getD i false = true := by
      rw [Array.getD_eq_getD_getElem?, Array.getElem?_eq_getElem (by omega)] at hb ⊢
      simp at hb ⊢; exact hb
    have hpre : ∀ p, tb m p = true → listed.getD p false = true := by
      intro p hp
      obtain ⟨e, he, hbd, r⟩ := h.masks.bits i o m (by rw [Array.getElem?_toList]; exact ho) hm p hp
      have h1 := hall e (by simpa using he) hbd
      rcases r with rfl | ⟨m', h2, h3⟩
      · exact h1
      · exact hR.x.closed e.on m' h1 h2 p h3
    rcases h.exec hE hC hq hSf hSn hng hfl hR hi ho hm hnX hpre (fr := fr) (cs := cs) rfl hmo hto with ⟨γ1, w1, v1, l1, h1, h2⟩ | ⟨v, hp, h1, v', γ', w', h2, h3, h4, h5⟩
    · have hfin : fr.finish v1 = { fr with tmps := setD o.dst v1 fr.tmps, todo := .inRegion ops L :: k' } := by
        simp only [Frame.finish, hto, ho, Option.bind_some]
        rfl
      have hX : ∀ p, (listed.getD p false = true ∨ p = i) ↔ ((listed.setIfInBounds i true).getD p false = true) := fun p => by
        rw [Array.getD_eq_getD_getElem?, Array.getD_eq_getD_getElem?, Array.getElem?_setIfInBounds]
        by_cases e : i = p
        · subst e; simp [hsz, hi]
        · simp [e, eq_comm (a := p)]
      rw [hfin] at h1
      have h2 := h2.congr hX
      rcases ih (by simpa using hsz) (fr := { fr with tmps := setD o.dst v1 fr.tmps, todo := .inRegion ops L :: k' }) h2 hmo rfl with ⟨γ2, w2, l2, t2, g1, g2⟩ | ⟨j, v, hp, gj, g1, v', γ2, w2, t2, L2, g0, g2, g3⟩
      · exact .inl ⟨γ2, w2, l2, t2, Steps.trans h1 g1, g2⟩
      · exact .inr ⟨j, v, hp, gj, g1, v', γ2, w2, t2, L2, g0, Steps.trans h1 g2, g3⟩
    · refine .inr ⟨i, v, hp, hi, h1, v', γ', w', fr.tmps, i :: L, hR.s.size, ?_, h3, h4, h5⟩
      have : ({ fr with tmps := fr.tmps, todo := .inRegion ops (i :: L) :: k' } : Frame) = fr := by rw [← hto]
      rw [this]; exact h2

include h in
theorem Plan.start (hSn : S.nx = K0) (hSB : S.hp = B0) {γ : Gm} {w : World} (hH : HR γ E.ng S w) {tmps : Array Value} (hT : TR γ tm0 tmps) (hsz : tmps.size = nt) :
    RInv nt ops ms P oc tm0 K0 E.ng S γ w (fun i => (Array.replicate ops.size false).getD i false = true) 0 γ w tmps := by
  have hno : ∀ i, ¬ (Array.replicate ops.size false).getD i false = true := fun i => by
    rw [Array.getD_eq_getD_getElem?, Array.getElem?_replicate]
    split <;> simp
  have hP0 := h.init
  refine ⟨⟨fun i e => absurd e (hno i), fun i m e => absurd e (hno i), fun e he hf => ⟨fun x => absurd x (hno e), fun x => by omega⟩, .inl rfl, fun i e => absurd e (hno i)⟩, ⟨hsz, fun p o d v e => absurd e (hno p), fun t _ => ?_⟩, ?_, fun a b hab _ => ?_, fun p v b e => absurd e (hno p)⟩
  · refine (hT t).mono (fun a L e => Gm.cut_some.2 ⟨?_, e⟩)
    have := hH.fresh a L e
    rw [hSn] at this; exact this
  · have := HInv.start hH K0.idx (by rw [hSn]; exact Nat.le_refl _) (Dm P (fun i => (Array.replicate ops.size false).getD i false = true)) (fun n hn => .inl (by rw [hP0]; rw [hSn] at hn; exact hn))
    refine this.weaken (fun a b c hO => ?_) (fun _ x => x)
    rcases hO with ⟨h1, h2⟩ | ⟨p, v, h1, _⟩
    · rw [hP0] at h1 h2
      exact ⟨by rw [hSB]; exact h1, h2⟩
    · exact absurd h1 (hno p)
  · rw [hP0, ← hSB]; exact hab
include h in
theorem Plan.fin (hSf : S.fl = fl) (hSn : S.nx = K0) (hfl : fl ≤ K0.idx) {l : Nat} {γ : Gm} {w : World} {tmps : Array Value} (hR : RInv nt ops ms P oc tm0 K0 E.ng S γ0 w0 (fun i => i < ops.size) l γ w tmps) :
    (P ops.size).pan = none ∧ TR γ (P ops.size).tm tmps ∧ tmps.size = nt ∧ HR γ E.ng ⟨addN (flo (P ops.size).A) (P ops.size).B (P ops.size).news, (P ops.size).K, fl⟩ w ∧
      Pres S γ0 w0 ⟨addN (flo (P ops.size).A) (P ops.size).B (P ops.size).news, (P ops.size).K, fl⟩ γ w := by
  obtain ⟨hx, hs, hh, hold, hfd⟩ := hR
  have hkz : (P 0).K = K0 := h.kz
  have hKn : K0.idx ≤ (P ops.size).K.idx := by rw [← hkz]; exact h.K (Nat.zero_le _) (Nat.le_refl _)
  have hln : l ≤ ops.size := by
    rcases hx.lvl with rfl | ⟨e, rfl, he, _⟩
    · exact Nat.zero_le _
    · exact he
  obtain ⟨hA, hB⟩ := h.AB hln (Nat.le_refl _) (fun e he hlt hf => by have := (hx.eff e hlt hf).1 hlt; omega)
  refine ⟨?_, fun t => ?_, hs.size, ?_⟩
  · cases hp : (P ops.size).pan with
    | none => rfl
    | some q =>
      obtain ⟨p, v, hp'⟩ := q
      obtain ⟨h1, h2⟩ := h.pan1 (Nat.le_refl _) hp
      have := hx.live p h1
      rw [h2] at this
      exact absurd rfl this
  · have hP := h.slotP (i := ops.size) (Nat.le_refl _)
    by_cases hex : ∃ j oj v, j < ops.size ∧ ops[j]? = some oj ∧ oj.dst = some t ∧ (oc j).val = some v
    · obtain ⟨j, oj, v, h0, h1, h2, h3⟩ := hex
      rw [(hP t).1 j oj v h0 h1 h2 h3]
      exact (hs.slot j oj t v h0 h1 h2 h3).mono (Gm.cut_le _ _)
    · rw [(hP t).2 (fun p o v hp ho hv hd => hex ⟨p, o, v, hp, ho, hd, hv⟩)]
      exact (hs.slot0 t (fun p o v hp ho hv hd => hex ⟨p, o, v, hp, ho, hd, hv⟩)).mono (Gm.cut_le _ _)
  · have := hh.final (H := addN (flo (P ops.size).A) (P ops.size).B (P ops.size).news) (k := (P ops.size).K) (fun a b e => ?_) (fun a b hab hlt => ?_) (h.domLt hx.lt) (by rw [hSn]; exact hKn)
    · rw [hSf] at this; exact this
    · rcases addN_get e with hb | ⟨p, h1, h2⟩
      · exact ⟨_, .inl ⟨by rw [← hB]; exact hb, rfl⟩⟩
      · obtain ⟨h3, h4, v, h5⟩ := h.news1 (Nat.le_refl _) h1
        refine ⟨_, .inr ⟨p, v, h3, ?_, h5, h4, rfl⟩⟩
        unfold flo at h2
        rw [← hA]
        cases hb : tb (P ops.size).A p with
        | false => rfl
        | true => rw [hb] at h2; cases h2
    · refine addN_base (by rw [hB]; exact hold a b hab hlt) (fun p k o hmem e => ?_)
      obtain ⟨q1, q2, _⟩ := h.news1 (Nat.le_refl _) hmem
      have : (P 0).K.idx ≤ (P p).K.idx := h.K (Nat.zero_le _) (by omega)
      rw [← q2, e, hkz] at this
      omega
end
end Go.AM

/-! A41: Drawn regions within the machine; the tower of machines; calls. -/
namespace Go.AM

noncomputable def startA (E : Env) (H : Hp) (ro : RO) : Option AF :=
  match ro with
  | .call f args => enterA E f args false
  | .yld l args => roundA E H l args
  | _ => none
noncomputable def callA (D : DrawF) (E : Env) (N : Nat) : CallF := fun ro H => match startA E H ro with | some f' => runA D E N f' [] H | none => .bad
noncomputable def drawF (N : Nat) (n : Nat) : DrawF :=
  Nat.rec (motive := fun _ => DrawF) (fun _ _ _ _ _ _ _ _ _ => none) (fun _ ih E _ nt tm ops _ _ _ S => drawA (callA ih E N) E nt ops tm S) n

section
variable {E : Env} (hE : E.Ok)
include hE
theorem startA_ok {H : Hp} {γ : Gm} {w : World} {s : Sem Next} {ro : RO} {f' : AF} (h : startA E H ro = some f') (hH : HR γ E.ng H w) (ho : OpR E γ H w s ro) : (∀ d, ro ≠ .dfr d) ∧ ∃ fr', Enters E.P s w fr' ∧ FR γ E f' fr' := by
  cases ro with
  | call f args =>
    obtain ⟨vs, h1, h2, _⟩ := ho
    exact ⟨fun d e => (by cases e), _, .inl ⟨f, _, h1, rfl⟩, enterA_ok hE h h2⟩
  | yld l args =>
    obtain ⟨L, vs, hL, h2, h3⟩ := ho
    obtain ⟨fn, tmps, a, b, g1, g2⟩ := roundA_ok h hH h2 hL
    exact ⟨fun d e => (by cases e), _, .inr ⟨L.blk, fn, tmps, a, b, (h3 w).trans g1, rfl⟩, g2⟩
  | v _ _ => cases h
  | dfr _ => cases h
  | pan _ => cases h
  | rcv => cases h
theorem callA_ok {D : DrawF} (hD : DrawOk D E) (N : Nat) : CallOk (callA D E N) E := by
  intro ro H γ w s hH ho
  unfold callA
  cases hen : startA E H ro with
  | none => exact ⟨fun x S' e => (by cases e), fun x S' e => (by cases e)⟩
  | some f' =>
    obtain ⟨hnd, fr', he, hf⟩ := startA_ok hE hen hH ho
    have hr := runA_ok hE hD N hf .nil hH
    simp only
    refine ⟨fun x S' e => ⟨hnd, fr', he, ?_⟩, fun x S' e => ⟨hnd, fr', he, ?_⟩⟩
    · rw [e] at hr
      exact hr.2
    · rw [e] at hr
      exact hr
theorem drawA_ok {CALL : CallF} (hC : CallOk CALL E) (hmix : E.P.follows .mixedOrders = true) : DrawOk (fun E _ nt tm ops _ _ _ S => drawA CALL E nt ops tm S) E := by
  intro id ops fn nt tm t k dfs dk rd cs S γ fr frs w k' hf hcs hH hto hk
  unfold sRegion
  simp only
  cases hd : drawA CALL E nt ops tm S with
  | none => trivial
  | some r =>
    obtain ⟨ms, P, oc, hpl, hq, hfl, hng, hr⟩ := draw1_ok hd
    have hm := hf.mode rfl
    have hH1 : HR γ E.ng S { w with drawn := w.drawn + 1 } := hH.drew rfl
    have hstart := hpl.start rfl rfl hH1 (hf.tm rfl) hf.nt
    have hV := schedule_valid ops (w.tape w.drawn (.order fr.fn id))
    have hst : ∀ cs, step E.P (lone fr cs w) = .next (lone { fr with todo := .inRegion ops (Region.schedule true ops (w.tape w.drawn (.order fr.fn id))) :: k' } cs { w with drawn := w.drawn + 1 }) := fun cs => by
      have := st_draw (P := E.P) (cs := cs) (w := w) hm hto
      rw [hmix] at this; exact this
    have hrun := fun cs => hpl.run hE hC hq rfl rfl hng hfl (cs := cs) (k' := k') hV (by simp) (fr := { fr with todo := .inRegion ops (Region.schedule true ops (w.tape w.drawn (.order fr.fn id))) :: k' }) hstart hm rfl
    rcases hr with ⟨p, v, hp, hpn, rfl⟩ | ⟨hpn, rfl⟩
    · intro bot
      rcases hrun (frs ++ bot) with ⟨γ', w', l', tmps', h1, h2⟩ | ⟨i, v2, hp2, hi, h1, v', γ', w', tmps', L', h2, h3, h4, h5, h6⟩
      · have := (hpl.fin rfl rfl hfl h2).1
        rw [hpn] at this; cases this
      · have := hpl.pan2 (Nat.le_refl _) hi h1
        rw [hpn] at this; cases this
        have hraise : (({ fr with tmps := tmps', todo := .inRegion ops L' :: k' } : Frame).raise [{ v := v', recovered := false }]) = { fr with tmps := tmps', todo := .inRegion ops L' :: k', mode := .panicking [{ v := v', recovered := false }] } := by
          simp [Frame.raise, hm]
        have h3' : Steps E.P (lone { fr with todo := .inRegion ops (Region.schedule true ops (w.tape w.drawn (.order fr.fn id))) :: k' } (frs ++ bot) { w with drawn := w.drawn + 1 })
            (lone { fr with tmps := tmps', todo := .inRegion ops L' :: k', mode := .panicking [{ v := v', recovered := false }] } (frs ++ bot) w') := by
          rw [← hraise]; exact h3
        refine ⟨γ', _, frs, w', Steps.head (hst _) h3', ⟨hf.fn, h2, fun e => (by cases e), fun e => (by cases e), hf.dfs.mono h6.ext, .pan false h4, hf.kind, hf.rd.mono h6.ext, hf.fi⟩, hcs.mono h6.ext, h5, h6.drew rfl rfl rfl, ?_⟩
        exact lastF_eq (fr := fr) (fr' := { fr with tmps := tmps', todo := .inRegion ops L' :: k', mode := .panicking [{ v := v', recovered := false }] }) rfl rfl frs
    · intro bot
      rcases hrun (frs ++ bot) with ⟨γ', w', l', tmps', h1, h2⟩ | ⟨i, v2, hp2, hi, h1, _⟩
      · obtain ⟨_, g1, g2, g3, g4⟩ := hpl.fin rfl rfl hfl h2
        have h4 : step E.P (lone { fr with tmps := tmps', todo := .inRegion ops [] :: k' } (frs ++ bot) w') = .next (lone { fr with tmps := tmps', todo := k' } (frs ++ bot) w') :=
          st_regionEnd (fr := { fr with tmps := tmps', todo := .inRegion ops [] :: k' }) (ops := ops) hm rfl
        refine ⟨γ', { fr with tmps := tmps', todo := k' }, frs, w', Steps.head (hst _) (Steps.trans h1 (Steps.one h4)), ⟨hf.fn, g2, fun _ => g1, fun _ => hk.mono g4.ext, hf.dfs.mono g4.ext, hf.md.mono g4.ext, hf.kind, hf.rd.mono g4.ext, hf.fi⟩, hcs.mono g4.ext, g3, g4.drew rfl rfl rfl, ?_⟩
        exact lastF_eq (fr := fr) (fr' := { fr with tmps := tmps', todo := k' }) rfl rfl frs
      · have := hpl.pan2 (Nat.le_refl _) hi h1
        rw [hpn] at this; cases this
theorem drawF_ok (hmix : E.P.follows .mixedOrders = true) (N : Nat) (n : Nat) : DrawOk (drawF N n) E := by
  induction n with
  | zero =>
    intro id ops fn nt tm t k dfs dk rd cs S γ fr frs w k' hf hcs hH hto hk
    trivial
  | succ n ih => exact drawA_ok hE (callA_ok hE ih N) hmix
end
end Go.AM

/-! A42: The environment of a program; a call of a function. -/
namespace Go.AM

/-- every other element -/
noncomputable def pick {α : Type} (l : List α) : Bool → List α := List.rec (motive := fun _ => Bool → List α) (fun _ => []) (fun x _ ih b => Bool.rec (ih true) (x :: ih false) b) l
theorem pick_get {α : Type} : ∀ (l : List α) (n : Nat), (pick l true)[n]? = l[2 * n]? ∧ (pick l false)[n]? = l[2 * n + 1]?
  | [], n => by simp [pick]
  | x :: l, n => by
    obtain ⟨h1, h2⟩ := pick_get l n
    constructor
    · show (x :: pick l false)[n]? = _
      cases n with
      | zero => rfl
      | succ n => rw [List.getElem?_cons_succ, (pick_get l n).2]; rw [show 2 * (n + 1) = (2 * n + 1) + 1 from by omega, List.getElem?_cons_succ]
    · show (pick l true)[n]? = _
      rw [h1, List.getElem?_cons_succ]
noncomputable def ofL {α : Type} (f : Nat) : List α → T α := Nat.rec (motive := fun _ => List α → T α) (fun _ => .e) (fun _ ih l => List.rec .e (fun x t _ => .n (ih (pick t true)) (some x) (ih (pick t false))) l) f
theorem ofL_get {α : Type} : ∀ (f : Nat) (l : List α) (k : Ps) (x : α), T.get k (ofL f l) = some x → l[k.idx]? = some x
  | 0, l, k, x, h => by rw [show ofL 0 l = .e from rfl, T.get_e] at h; cases h
  | f + 1, [], k, x, h => by rw [show ofL (f + 1) ([] : List α) = .e from rfl, T.get_e] at h; cases h
  | f + 1, y :: t, k, x, h => by
    have h : T.get k (T.n (ofL f (pick t true)) (some y) (ofL f (pick t false))) = some x := h
    cases k with
    | h => exact h
    | o p =>
      have h : T.get p (ofL f (pick t true)) = some x := h
      have := ofL_get f _ p x h
      rw [(pick_get t p.idx).1] at this
      rw [Ps.idx_o, show p.idx + p.idx + 1 = (2 * p.idx) + 1 from by omega, List.getElem?_cons_succ]; exact this
    | i p =>
      have h : T.get p (ofL f (pick t false)) = some x := h
      have := ofL_get f _ p x h
      rw [(pick_get t p.idx).2] at this
      rw [Ps.idx_i, show p.idx + p.idx + 2 = (2 * p.idx + 1) + 1 from by omega, List.getElem?_cons_succ]; exact this
noncomputable def lmap {α β : Type} (f : α → β) (l : List α) : List β := List.rec [] (fun x _ ih => f x :: ih) l
theorem lmap_get {α β : Type} {f : α → β} : ∀ {l : List α} {n : Nat} {y : β}, (lmap f l)[n]? = some y → ∃ x, l[n]? = some x ∧ f x = y
  | [], n, y, h => by simp [lmap] at h
  | x :: l, n, y, h => by
    have h : (f x :: lmap f l)[n]? = some y := h
    cases n with
    | zero => simp at h; exact ⟨x, rfl, h⟩
    | succ n => rw [List.getElem?_cons_succ] at h; rw [List.getElem?_cons_succ]; exact lmap_get h
noncomputable def fiOf (fn : Func) : Option FI := match fn.body with | none => none | some c => Bool.rec (some ⟨c, fn.ntmps, fn.results.toList⟩) none (fn.name == "runtime.NumGoroutine")
noncomputable def extOf (fn : Func) : Option Ext :=
  match fn.body with
  | some _ => none
  | none => Bool.rec none (Bool.rec (Bool.rec none (some .noEscape) (fn.name == "internal/abi.NoEscape")) (some .sqrt) (fn.name == "math.sqrt")) (fn.origin == "")
theorem sqrt_next : Extern.allNextRows.lookup "math.sqrt" = none := by kernel_rfl
theorem none_next : Extern.allNextRows.lookup "" = none := by kernel_rfl
theorem sqrt_gen : Extern.allGenericRows.lookup "math.sqrt" = none := by kernel_rfl
theorem sqrt_typed : Extern.allTypedRows.lookup "math.sqrt" = none := by kernel_rfl
theorem sqrt_row : Extern.allRows.lookup "math.sqrt" = some Extern.MathSqrt.sqrt := by kernel_rfl
theorem noesc_next : Extern.allNextRows.lookup "internal/abi.NoEscape" = none := by kernel_rfl
theorem noesc_gen : Extern.allGenericRows.lookup "internal/abi.NoEscape" = none := by kernel_rfl
theorem noesc_typed : Extern.allTypedRows.lookup "internal/abi.NoEscape" = none := by kernel_rfl
theorem noesc_row : Extern.allRows.lookup "internal/abi.NoEscape" = some Extern.AbiNoEscape.same := by kernel_rfl
theorem extOf_ok {fn : Func} {x : Ext} (h : extOf fn = some x) : fn.body = none ∧ (fn.name == "runtime.NumGoroutine") = false ∧ Extern.findNext fn = none ∧ Extern.find fn = some x.sem := by
  unfold extOf at h
  split at h
  · cases h
  · rename_i hb
    obtain ⟨h1, h2⟩ := rec_some h
    have e1 : fn.origin = "" := eq_of_beq h1
    cases h3 : (fn.name == "math.sqrt") with
    | true =>
      rw [h3] at h2
      cases h2
      have e2 : fn.name = "math.sqrt" := eq_of_beq h3
      refine ⟨hb, by rw [e2]; decide, ?_, ?_⟩
      · simp [Extern.findNext, e1, e2, sqrt_next, none_next]
      · simp [Extern.find, e2, sqrt_gen, sqrt_typed, sqrt_row, Ext.sem]
    | false =>
      rw [h3] at h2
      obtain ⟨h4, h5⟩ := rec_some (b := fn.name == "internal/abi.NoEscape") h2
      cases h5
      have e2 : fn.name = "internal/abi.NoEscape" := eq_of_beq h4
      refine ⟨hb, by rw [e2]; decide, ?_, ?_⟩
      · simp [Extern.findNext, e1, e2, noesc_next, none_next]
      · simp [Extern.find, e2, noesc_gen, noesc_typed, noesc_row, Ext.sem]
noncomputable def mkEnv (P : Program) : Env := ⟨P, ofL 40 P.types.toList, ofL 40 (lmap fiOf P.funcs.toList), ofL 40 (lmap extOf P.funcs.toList), P.globals.size⟩
theorem mkEnv_ok (P : Program) : (mkEnv P).Ok := by
  refine ⟨fun t i h => ?_, fun f i h => ?_, fun f x h => ?_⟩
  · have := ofL_get 40 _ _ _ h
    rw [Ps.idx_of, Array.getElem?_toList] at this
    show P.info? t = some i
    unfold Tables.info?
    rw [if_pos (Array.getElem?_eq_some_iff.1 this).1]
    exact this
  · have := ofL_get 40 _ _ _ h
    rw [Ps.idx_of] at this
    obtain ⟨fn, h1, h2⟩ := lmap_get this
    rw [Array.getElem?_toList] at h1
    refine ⟨fn, h1, ?_⟩
    unfold fiOf at h2
    split at h2
    · cases h2
    · rename_i c hc
      cases hn : (fn.name == "runtime.NumGoroutine") with
      | true => rw [hn] at h2; cases h2
      | false => rw [hn] at h2; cases h2; exact ⟨hc, rfl, rfl, rfl⟩
  · have := ofL_get 40 _ _ _ h
    rw [Ps.idx_of] at this
    obtain ⟨fn, h1, h2⟩ := lmap_get this
    rw [Array.getElem?_toList] at h1
    exact ⟨fn, h1, extOf_ok h2⟩

noncomputable def runTop (E : Env) (N n K : Nat) (f : Nat) (S : Hp) : SR := match enterA E f [] false with | some f0 => runA (drawF N n) E K f0 [] S | none => .bad
theorem runTop_calls {E : Env} (hE : E.Ok) (hmix : E.P.follows .mixedOrders = true) {N n K f : Nat} {S S' : Hp} {v : AV} {γ : Gm} {w : World} (h : runTop E N n K f S = .fin v S') (hH : HR γ E.ng S w) :
    Calls E.P f #[] w fun e w' => ∃ v' γ', e = .returned v' ∧ VR γ' v v' ∧ HR γ' E.ng S' w' ∧ Pres S γ w S' γ' w' := by
  unfold runTop at h
  split at h
  · rename_i f0 hf0
    have hf := enterA_ok hE hf0 (γ := γ) .nil
    have hr := runA_ok hE (drawF_ok hE hmix N n) K hf .nil hH
    rw [h] at hr
    intro cs
    obtain ⟨γ', v', fr', w', fn, g1, g2, g3, g4, g5, g6, g7, g8, g9, g10⟩ := hr.1 rfl cs
    exact ⟨.returned v', w', fr', ⟨v', γ', rfl, g8, g9, g10⟩, g1, g5, g2, g3, g4, fn, g6, g7⟩
  · cases h
/-- the answer is true, and nothing that lay there has been touched -/
noncomputable def isTrue (r : SR) : Bool := match r with | .fin (.bool b) _ => b | _ => false
theorem runTop_true {E : Env} (hE : E.Ok) (hmix : E.P.follows .mixedOrders = true) {N n K f : Nat} {S : Hp} {γ : Gm} {w : World} (h : isTrue (runTop E N n K f S) = true) (hH : HR γ E.ng S w) (hfl : S.nx.idx ≤ S.fl) :
    Calls E.P f #[] w fun e w' => e = .returned (.bool true) ∧ RowKit.Below w.heap.size w w' := by
  unfold isTrue at h
  split at h
  · rename_i b S' hr
    subst h
    refine (runTop_calls hE hmix hr hH).mono fun e w' ⟨v', γ', h1, h2, h3, h4⟩ => ?_
    cases h2
    refine ⟨h1, ?_⟩
    have h5 := h4.os
    injection h5 with h6 h7
    refine ⟨h6, h7, h4.out, h4.size, fun r hr => h4.keep r hr (fun a o L ha hf => ?_)⟩
    have := hH.lt ha
    omega
  · cases h
end Go.AM

/-! A43: A long run in pieces: at a boundary the state is written out, and of the heap only some objects are kept. -/
namespace Go.AM

/-! the code of a function, by paths -/
noncomputable def bodyOf (E : Env) (fn : Nat) : Code := match T.get (Ps.of fn) E.funcs with | some (some i) => i.code | _ => .skip
noncomputable def two (a b : Code) (k : Nat) : Code := Nat.rec a (fun _ _ => b) k
noncomputable def sub1 (c : Code) : Nat → Code :=
  Code.rec (motive := fun _ => Nat → Code) (fun _ => .skip) (fun _ _ _ _ => .skip) (fun a b _ _ => two a b) (fun _ a b _ _ => two a b) (fun _ b _ _ => b) (fun b _ _ => b) (fun _ _ a b _ _ => two a b) (fun _ _ => .skip) (fun b _ _ => b)
    (fun _ _ => .skip) (fun _ _ => .skip) (fun _ => .skip) (fun _ _ => .skip) c
noncomputable def subC (c : Code) (p : List Nat) : Code := List.rec (motive := fun _ => Code → Code) (fun c => c) (fun k _ ih c => ih (sub1 c k)) p c
noncomputable def opsIn (c : Code) : Array Oper :=
  Code.rec #[] (fun _ ops _ => ops) (fun _ _ _ _ => #[]) (fun _ _ _ _ _ => #[]) (fun _ _ _ => #[]) (fun _ _ => #[]) (fun _ _ _ _ _ _ => #[]) (fun _ => #[]) (fun _ _ => #[]) (fun _ => #[]) (fun _ => #[]) #[] (fun _ => #[]) c

noncomputable def cA (E : Env) (fn : Nat) (p : List Nat) : AI := .code (subC (bodyOf E fn) p)
noncomputable def lA (E : Env) (fn : Nat) (p : List Nat) : AI := .lop (subC (bodyOf E fn) p)
noncomputable def sA (E : Env) (fn : Nat) (p : List Nat) : AI := .scp (subC (bodyOf E fn) p)
noncomputable def rA (E : Env) (fn : Nat) (p : List Nat) (i : Nat) : AI := .reg (opsIn (subC (bodyOf E fn) p)) i (ldrop i (opsIn (subC (bodyOf E fn) p)).toList)
noncomputable def xi (n : Nat) : AV := .int .i64 (Int.ofNat n)
noncomputable def xu : AV := .tup []

/-! only some objects -/
noncomputable def keepO (ks : List Ps) (t : T AO) : T AO := List.rec .e (fun k _ ih => Option.rec ih (fun o => T.set k o ih) (T.get k t)) ks
theorem keepO_sub (t : T AO) : ∀ (ks : List Ps) {a : Ps} {o : AO}, T.get a (keepO ks t) = some o → T.get a t = some o
  | [], a, o, h => by rw [show keepO [] t = .e from rfl, T.get_e] at h; cases h
  | k :: ks, a, o, h => by
    have h' : T.get a (Option.rec (keepO ks t) (fun o => T.set k o (keepO ks t)) (T.get k t) : T AO) = some o := h
    cases hk : T.get k t with
    | none => rw [hk] at h'; exact keepO_sub t ks h'
    | some o' =>
      rw [hk] at h'
      have h2 : T.get a (T.set k o' (keepO ks t)) = some o := h'
      by_cases e : k = a
      · subst e; rw [T.get_set_same] at h2; rw [hk]; exact h2
      · rw [T.get_set_ne e] at h2; exact keepO_sub t ks h2
theorem keepO_get (t : T AO) : ∀ (ks : List Ps) {k : Ps}, k ∈ ks → T.get k (keepO ks t) = T.get k t
  | [], k, h => by cases h
  | x :: ks, k, h => by
    show T.get k (Option.rec (keepO ks t) (fun o => T.set x o (keepO ks t)) (T.get x t) : T AO) = _
    by_cases e : x = k
    · subst e
      cases hx : T.get x t with
      | none =>
        show T.get x (keepO ks t) = none
        cases h2 : T.get x (keepO ks t) with
        | none => rfl
        | some o => rw [keepO_sub t ks h2] at hx; cases hx
      | some o => exact T.get_set_same x o _
    · have hk : k ∈ ks := by
        rcases List.mem_cons.1 h with h | h
        · exact absurd h.symm e
        · exact h
      cases hx : T.get x t with
      | none => exact keepO_get t ks hk
      | some o => exact (T.get_set_ne e o _).trans (keepO_get t ks hk)
noncomputable def keepS (ks : List Ps) (S : Hp) : Hp := Hp.rec (fun hp nx fl => ⟨keepO ks hp, nx, fl⟩) S
noncomputable def cut (ks : List Ps) (r : SR) : SR := SR.rec (fun f cs S => .next f cs (keepS ks S)) .fin .finP .bad r

theorem HR.sub {γ : Gm} {ng : Nat} {S S' : Hp} {w : World} (h : HR γ ng S w) (hs : ∀ a o, T.get a S'.hp = some o → T.get a S.hp = some o) (hn : S'.nx = S.nx) : HR γ ng S' w :=
  ⟨fun a o ho => h.obj a o (hs a o ho), fun a a' o o' L L' ho ho' => h.inj a a' o o' L L' (hs a o ho) (hs a' o' ho'), fun a L hL => by rw [hn]; exact h.fresh a L hL, h.glob⟩
theorem Pres.sub {S S1 S2 : Hp} {γ γ' : Gm} {w w' : World} (h : Pres S γ w S1 γ' w') (h0 : ∀ a o, S.hp.get a = some o → T.get a S2.hp = T.get a S1.hp) (hs : ∀ a o, T.get a S2.hp = some o → T.get a S1.hp = some o) (hn : S2.nx = S1.nx) (hf : S2.fl = S1.fl) : Pres S γ w S2 γ' w' where
  ext := h.ext
  size := h.size
  keep := h.keep
  desc := fun a o L ho hfl hL => h.desc a o L (hs a o ho) (by rw [← hf]; exact hfl) hL
  old := fun a o ho hl => by rw [h0 a o ho]; exact h.old a o ho hl
  fl := by rw [hf]; exact h.fl
  nx := by rw [hn]; exact h.nx
  new := h.new
  os := h.os
  out := h.out
  back := fun a o ho h1 h2 => h.back a o (hs a o ho) h1 h2

/-- the machine comes by there -/
def Reach (E : Env) (S0 : Hp) (F : Nat) (f : AF) (cs : List AF) (S : Hp) : Prop :=
  ∀ (γ : Gm) (w : World), HR γ E.ng S0 w → Goes E γ S0 (Frame.enter E.P F ⟨[]⟩ .normal) [] w f cs S
section
variable {E : Env} (hE : E.Ok) (hmix : E.P.follows .mixedOrders = true) {N n : Nat} {S0 : Hp} {F : Nat}
include hE hmix
theorem Reach.next {f f' : AF} {cs cs' : List AF} {S S' : Hp} (h : Reach E S0 F f cs S) (K : Nat) (ks : List Ps) (h0 : ∀ a o, S0.hp.get a = some o → a ∈ ks) (hr : cut ks (runA (drawF N n) E K f cs S) = .next f' cs' S') : Reach E S0 F f' cs' S' := by
  intro γ w hH
  have h1 := RunQ.after (h γ w hH) (fun a b c => runA_ok hE (drawF_ok hE hmix N n) K a b c)
  generalize runA (drawF N n) E K f cs S = r at hr h1
  cases r with
  | next f1 cs1 S1 =>
    have hr' : SR.next f1 cs1 (keepS ks S1) = .next f' cs' S' := hr
    injection hr' with e1 e2 e3
    subst e1 e2 e3
    intro bot
    obtain ⟨γ', fr', frs', w', g1, g2, g3, g4, g5, g6⟩ := h1 bot
    have hs : ∀ a o, T.get a (keepS ks S1).hp = some o → T.get a S1.hp = some o := fun a o ho => keepO_sub S1.hp ks ho
    exact ⟨γ', fr', frs', w', g1, g2, g3, g4.sub hs rfl, g5.sub (fun a o ho => keepO_get S1.hp ks (h0 a o ho)) hs rfl rfl, g6⟩
  | fin v S1 => cases hr
  | finP v S1 => cases hr
  | bad => cases hr
theorem Reach.first {f' : AF} {cs' : List AF} {S' : Hp} (K : Nat) (ks : List Ps) (h0 : ∀ a o, S0.hp.get a = some o → a ∈ ks) (hr : cut ks (runTop E N n K F S0) = .next f' cs' S') : Reach E S0 F f' cs' S' := by
  unfold runTop at hr
  split at hr
  · rename_i f0 hf0
    refine Reach.next hE hmix (f := f0) (cs := []) (S := S0) ?_ K ks h0 hr
    intro γ w hH bot
    exact ⟨γ, _, [], w, Steps.refl _ _, enterA_ok hE hf0 .nil, .nil, hH, Pres.refl _ _ _, rfl⟩
  · cases hr
theorem Reach.true {f : AF} {cs : List AF} {S : Hp} (h : Reach E S0 F f cs S) (K : Nat) (hr : isTrue (runA (drawF N n) E K f cs S) = true) (hfl : S0.nx.idx ≤ S0.fl) {γ : Gm} {w : World} (hH : HR γ E.ng S0 w) :
    Calls E.P F #[] w fun e w' => e = .returned (.bool true) ∧ RowKit.Below w.heap.size w w' := by
  have h1 := RunQ.after (h γ w hH) (fun a b c => runA_ok hE (drawF_ok hE hmix N n) K a b c)
  unfold isTrue at hr
  split at hr
  · rename_i b S' hr'
    subst hr
    rw [hr'] at h1
    intro cs
    obtain ⟨γ', v', fr', w', fn, g1, g2, g3, g4, g5, g6, g7, g8, g9, g10⟩ := h1.1 rfl cs
    refine ⟨.returned v', w', fr', ?_, g1, g5, g2, g3, g4, fn, g6, g7⟩
    cases g8
    refine ⟨rfl, ?_⟩
    have h5 := g10.os
    injection h5 with h6 h7
    refine ⟨h6, h7, g10.out, g10.size, fun r hr => g10.keep r hr (fun a o L ha hf => ?_)⟩
    have := hH.lt ha
    omega
  · cases hr
end
end Go.AM

/-! A44: Runs with variables: a run that ends, from whatever state; a call that only computes; a run at the law's own arguments. -/
namespace Go.AM

/-- what lay there and was not the run's own is as it was -/
structure Kp (S : Hp) (γ : Gm) (w : World) (γ' : Gm) (w' : World) : Prop where
  ext : Gm.le γ γ'
  size : w.heap.size ≤ w'.heap.size
  keep : ∀ r, r < w.heap.size → (∀ a o L, S.hp.get a = some o → S.fl ≤ a.idx → γ a = some L → L.blk ≠ r) → w'.heap[r]? = w.heap[r]?
  new : ∀ a L, γ' a = some L → a.idx < S.nx.idx → γ a = some L
  os : (w'.os, w'.tape) = (w.os, w.tape)
  out : w'.output = w.output
theorem Pres.kp {S S' : Hp} {γ γ' : Gm} {w w' : World} (h : Pres S γ w S' γ' w') : Kp S γ w γ' w' := ⟨h.ext, h.size, h.keep, h.new, h.os, h.out⟩
theorem Pres.kpTrans {S S1 S2 : Hp} {γ γ1 γ2 : Gm} {w w1 w2 : World} (h : Pres S γ w S1 γ1 w1) (hs : ∀ a o, S2.hp.get a = some o → S1.hp.get a = some o) (hf : S2.fl = S1.fl) (hn : S2.nx = S1.nx)
    (k : Kp S2 γ1 w1 γ2 w2) : Kp S γ w γ2 w2 where
  ext := Gm.le_trans h.ext k.ext
  size := Nat.le_trans h.size k.size
  keep := fun r hr hno => by
    rw [k.keep r (Nat.lt_of_lt_of_le hr h.size) ?_, h.keep r hr hno]
    intro a o L h1 h2 h3 e
    rcases h.desc a o L (hs a o h1) (by rw [← hf]; exact h2) h3 with h4 | ⟨a₀, o₀, L₀, g1, g2, g3, g4⟩
    · omega
    · exact hno a₀ o₀ L₀ g1 g2 g3 (g4.trans e)
  new := fun a L h1 h2 => h.new a L (k.new a L h1 (by rw [hn]; exact Nat.lt_of_lt_of_le h2 h.nx)) h2
  os := k.os.trans h.os
  out := k.out.trans h.out

/-- the run ends with a value and a heap of which Q holds -/
def Ends (E : Env) (f : AF) (cs : List AF) (S : Hp) (Q : AV → Hp → Prop) : Prop :=
  ∀ (γ : Gm) (fr : Frame) (frs : List Frame) (w : World), FR γ E f fr → CsR γ E cs frs → HR γ E.ng S w →
    ((lastF fr frs).2 = none → ∀ bot, ∃ γ' v v' S' fr' w' fn, Q v S' ∧ Steps E.P (lone fr (frs ++ bot) w) (lone fr' bot w') ∧ fr'.mode = .returning ∧ fr'.defers = [] ∧ fr'.kind = .normal ∧ fr'.fn = (lastF fr frs).1 ∧
      E.P.funcs[fr'.fn]? = some fn ∧ (results fn fr'.tmps).run E.P w' = .ok v' w' ∧ VR γ' v v' ∧ HR γ' E.ng S' w' ∧ Kp S γ w γ' w') ∧
    (∀ c bot, ∃ γ' v v' S' w', Q v S' ∧ Steps E.P (lone fr (frs ++ c :: bot) w) (lone (c.finish v') bot w') ∧ VR γ' v v' ∧ HR γ' E.ng S' w' ∧ Kp S γ w γ' w')

section
variable {E : Env} (hE : E.Ok) (hmix : E.P.follows .mixedOrders = true) {N n : Nat}

theorem Ends.mono {f : AF} {cs : List AF} {S : Hp} {Q Q' : AV → Hp → Prop} (h : Ends E f cs S Q) (hq : ∀ v S', Q v S' → Q' v S') : Ends E f cs S Q' := by
  intro γ fr frs w hf hc hH
  obtain ⟨h1, h2⟩ := h γ fr frs w hf hc hH
  refine ⟨fun hr bot => ?_, fun c bot => ?_⟩
  · obtain ⟨γ', v, v', S', fr', w', fn, g, r⟩ := h1 hr bot
    exact ⟨γ', v, v', S', fr', w', fn, hq _ _ g, r⟩
  · obtain ⟨γ', v, v', S', w', g, r⟩ := h2 c bot
    exact ⟨γ', v, v', S', w', hq _ _ g, r⟩

/-- the machine goes on, and ends from there -/
theorem Ends.goes {f f' : AF} {cs cs' : List AF} {S S1 S' : Hp} {Q : AV → Hp → Prop} (hs : ∀ a o, S'.hp.get a = some o → S1.hp.get a = some o) (hfl : S'.fl = S1.fl) (hnx : S'.nx = S1.nx)
    (hg : ∀ γ fr frs w, FR γ E f fr → CsR γ E cs frs → HR γ E.ng S w → Goes E γ S fr frs w f' cs' S1) (h : Ends E f' cs' S' Q) : Ends E f cs S Q := by
  intro γ fr frs w hf hc hH
  have hgo := hg γ fr frs w hf hc hH
  refine ⟨fun hr bot => ?_, fun c bot => ?_⟩
  · obtain ⟨γ1, fr1, frs1, w1, g1, g2, g3, g4, g5, g6⟩ := hgo bot
    obtain ⟨γ', v, v', S2, fr', w', fn, k0, k1, k2, k3, k4, k5, k6, k7, k8, k9, k10⟩ := (h γ1 fr1 frs1 w1 g2 g3 (g4.sub hs hnx)).1 (by rw [g6]; exact hr) bot
    exact ⟨γ', v, v', S2, fr', w', fn, k0, Steps.trans g1 k1, k2, k3, k4, by rw [k5, g6], k6, k7, k8, k9, g5.kpTrans hs hfl hnx k10⟩
  · obtain ⟨γ1, fr1, frs1, w1, g1, g2, g3, g4, g5, g6⟩ := hgo (c :: bot)
    obtain ⟨γ', v, v', S2, w', k0, k1, k2, k3, k4⟩ := (h γ1 fr1 frs1 w1 g2 g3 (g4.sub hs hnx)).2 c bot
    exact ⟨γ', v, v', S2, w', k0, Steps.trans g1 k1, k2, k3, g5.kpTrans hs hfl hnx k4⟩

include hE hmix
/-- a piece of a run; of the heap only some objects are kept -/
theorem Ends.seg {f f' : AF} {cs cs' : List AF} {S S' : Hp} {Q : AV → Hp → Prop} {K : Nat} {ks : List Ps} (hr : cut ks (runA (drawF N n) E K f cs S) = .next f' cs' S') (h : Ends E f' cs' S' Q) : Ends E f cs S Q := by
  generalize hrr : runA (drawF N n) E K f cs S = r at hr
  cases r with
  | next f1 cs1 S1 =>
    have hr' : SR.next f1 cs1 (keepS ks S1) = .next f' cs' S' := hr
    injection hr' with e1 e2 e3
    subst e1 e2 e3
    refine Ends.goes (S1 := S1) (S' := keepS ks S1) (fun a o ho => keepO_sub S1.hp ks ho) rfl rfl (fun γ fr frs w hf hc hH => ?_) h
    have := runA_ok hE (drawF_ok hE hmix N n) K hf hc hH
    rw [hrr] at this
    exact this
  | fin v S1 => cases hr
  | finP v S1 => cases hr
  | bad => cases hr
/-- the last piece -/
theorem Ends.fin {f : AF} {cs : List AF} {S : Hp} {Q : AV → Hp → Prop} {K : Nat} {v : AV} {S' : Hp} (hr : runA (drawF N n) E K f cs S = .fin v S') (h : Q v S') : Ends E f cs S Q := by
  intro γ fr frs w hf hc hH
  have h1 := runA_ok hE (drawF_ok hE hmix N n) K hf hc hH
  rw [hr] at h1
  refine ⟨fun hl bot => ?_, fun c bot => ?_⟩
  · obtain ⟨γ', v', fr', w', fn, g1, g2, g3, g4, g5, g6, g7, g8, g9, g10⟩ := h1.1 hl bot
    exact ⟨γ', v, v', S', fr', w', fn, h, g1, g2, g3, g4, g5, g6, g7, g8, g9, g10.kp⟩
  · obtain ⟨γ', v', w', g1, g2, g3, g4⟩ := h1.2 c bot
    exact ⟨γ', v, v', S', w', h, g1, g2, g3, g4.kp⟩
omit hE hmix
/-- what a last piece comes to, without its heap -/
noncomputable def finOf (r : SR) : Option AV := SR.rec (fun _ _ _ => none) (fun v _ => some v) (fun _ _ => none) none r
theorem finOf_some {r : SR} {v : AV} (h : finOf r = some v) : ∃ S', r = .fin v S' := by
  cases r with
  | fin v' S' => cases h; exact ⟨S', rfl⟩
  | next _ _ _ => cases h
  | finP _ _ => cases h
  | bad => cases h
include hE hmix in
theorem Ends.last {f : AF} {cs : List AF} {S : Hp} {Q : AV → Prop} {K : Nat} {v : AV} (hr : finOf (runA (drawF N n) E K f cs S) = some v) (h : Q v) : Ends E f cs S (fun v _ => Q v) := by
  obtain ⟨S', e⟩ := finOf_some hr
  exact Ends.fin hE hmix e h

/-- the frame's run comes to v, and nothing else has changed, whatever heap lies there -/
def PureF (E : Env) (f0 : AF) (v : AV) : Prop :=
  ∀ (γ : Gm) (S : Hp) (fr : Frame) (w : World), FR γ E f0 fr → HR γ E.ng S w → ∀ c bot, ∃ v' w', Steps E.P (lone fr (c :: bot) w) (lone (c.finish v') bot w') ∧ VR γ v v' ∧ HR γ E.ng S w' ∧ Pres S γ w S γ w'

/-- the heap of a call that only computes -/
noncomputable def H0 (E : Env) : Hp := ⟨.e, Ps.of E.ng, E.ng⟩
theorem H0_get (E : Env) (a : Ps) : (H0 E).hp.get a = none := T.get_e a
theorem HR.h0 {γ : Gm} {S : Hp} {w : World} (h : HR γ E.ng S w) : HR (γ.cut E.ng) E.ng (H0 E) w := by
  refine ⟨fun a o e => ?_, fun a a' o o' L L' e => ?_, fun a L e => ?_, fun g hg => ?_⟩
  · rw [H0_get] at e; cases e
  · rw [H0_get] at e; cases e
  · show a.idx < (Ps.of E.ng).idx
    rw [Ps.idx_of]; exact (Gm.cut_some.1 e).1
  · obtain ⟨s, hs⟩ := h.glob g hg
    exact ⟨s, Gm.cut_some.2 ⟨by rw [Ps.idx_of]; exact hg, hs⟩⟩
/-- a fresh frame whose temporaries hold nothing of the heap -/
def Plain (E : Env) (f : AF) : Prop := (∀ i, kbA E.ng (tget f.tm i) = true) ∧ (∃ c, f.todo = [.code c]) ∧ f.dfs = [] ∧ f.md = .run ∧ f.rd = none
theorem FR.cut {γ : Gm} {f : AF} {fr : Frame} (hp : Plain E f) (h : FR γ E f fr) : FR (γ.cut E.ng) E f fr := by
  obtain ⟨h1, ⟨c, h2⟩, h3, h4, h5⟩ := hp
  refine ⟨h.fn, h.nt, fun e i => kbA_ok (h.tm e i) (h1 i), fun e => ?_, ?_, ?_, h.kind, ?_, h.fi⟩
  · have := h.todo e
    rw [h2] at this ⊢
    generalize fr.todo = t at this
    cases this with
    | cons hx ht => cases ht; cases hx; exact .cons (.code c) .nil
  · have := h.dfs
    rw [h3] at this ⊢
    generalize fr.defers = t at this
    cases this; exact .nil
  · have := h.md
    rw [h4] at this ⊢
    generalize fr.mode = t at this
    cases this; exact .run
  · have := h.rd
    rw [h5] at this ⊢
    generalize fr.roundOf = t at this
    cases this; exact .none
theorem PureF.of_ends {f0 : AF} {v : AV} (hp : Plain E f0) (hv : kbA E.ng v = true) (h : Ends E f0 [] (H0 E) (fun v' _ => v' = v)) : PureF E f0 v := by
  intro γ S fr w hf hH c bot
  obtain ⟨γ', v1, v', S', w', e, g1, g2, g3, g4⟩ := (h _ _ _ w (hf.cut hp) .nil hH.h0).2 c bot
  subst e
  have hold : ∀ r, r < w.heap.size → w'.heap[r]? = w.heap[r]? := fun r hr => g4.keep r hr (fun a o L e => by rw [H0_get] at e; cases e)
  have hle : Gm.le (γ'.cut E.ng) γ := fun a L e => by
    obtain ⟨e1, e2⟩ := Gm.cut_some.1 e
    exact (Gm.cut_some.1 (g4.new a L e2 (by show a.idx < (Ps.of E.ng).idx; rw [Ps.idx_of]; exact e1))).2
  refine ⟨v', w', g1, (kbA_ok g2 hv).mono hle, ⟨fun a o ho => ?_, hH.inj, hH.fresh, hH.glob⟩, ?_⟩
  · obtain ⟨L, ob, k1, k2, k3⟩ := hH.obj a o ho
    exact ⟨L, ob, k1, by rw [hold _ (Array.getElem?_eq_some_iff.1 k2).1]; exact k2, k3⟩
  · exact ⟨Gm.le_refl _, g4.size, fun r hr _ => hold r hr, fun a o L k1 k2 k3 => .inr ⟨a, o, L, k1, k2, k3, rfl⟩, fun a o k _ => k, rfl, Nat.le_refl _, fun a L k _ => k, g4.os, g4.out, fun a o k _ _ => k⟩
theorem finish_keeps (fr : Frame) (v : Value) : (fr.finish v).fn = fr.fn ∧ (fr.finish v).roundOf = fr.roundOf := by
  unfold Frame.finish
  split <;> exact ⟨rfl, rfl⟩
/-- a call that only computes, within a run -/
theorem Ends.pure {f0 c c' : AF} {cs : List AF} {S : Hp} {Q : AV → Hp → Prop} {v : AV} (h0 : PureF E f0 v) (hm : c.md = .run) (hl : c.lost = false) (hfi : finishA c v = some c') (h : Ends E c' cs S Q) : Ends E f0 (c :: cs) S Q := by
  refine Ends.goes (S1 := S) (fun _ _ e => e) rfl rfl (fun γ fr frs w hf hc hH => ?_) h
  cases hc with
  | @cons _ y _ ys hy hys =>
    intro bot
    obtain ⟨v', w', g1, g2, g3, g4⟩ := h0 γ S fr w hf hH y (ys ++ bot)
    refine ⟨γ, y.finish v', ys, w', g1, finishA_ok hfi hy hm hl g2, hys, g3, g4, ?_⟩
    show lastF (y.finish v') ys = lastF y ys
    exact lastF_eq (finish_keeps y v').1 (finish_keeps y v').2 ys

/-- the arguments of a fresh frame -/
theorem argT_flat {k : Nat} : ∀ (l : List AV) (i : Nat) (t : Tm), (∀ x, x ∈ l → kbA k x = true) → (∀ j, kbA k (tget t j) = true) → ∀ j, kbA k (tget (argT l i t) j) = true
  | [], i, t, _, ht, j => ht j
  | x :: l, i, t, hl, ht, j => by
    show kbA k (tget (argT l (Nat.succ i) (tset i x t)) j) = true
    refine argT_flat l _ _ (fun y hy => hl y (List.mem_cons_of_mem _ hy)) (fun j => ?_) j
    by_cases e : i = j
    · subst e; rw [tget_same]; exact hl x (List.mem_cons_self ..)
    · rw [tget_ne e]; exact ht j
theorem plain_of_enter {F : Nat} {args : List AV} {f0 : AF} (h : enterA E F args false = some f0) (ha : ∀ x, x ∈ args → kbA E.ng x = true) : Plain E f0 := by
  unfold enterA at h
  split at h
  · obtain ⟨_, h2⟩ := rec_some h
    cases h2
    exact ⟨argT_flat args 0 te ha (fun j => by rw [tget_te]; rfl), ⟨_, rfl⟩, rfl, rfl, rfl⟩
  · cases h
include hE in
/-- a call at arguments -/
theorem Ends.calls {F : Nat} {args : List AV} {f0 : AF} {S : Hp} {Q : AV → Hp → Prop} (hen : enterA E F args false = some f0) (h : Ends E f0 [] S Q) {γ : Gm} {w : World} {vs : List Value} (ha : LR γ args vs) (hH : HR γ E.ng S w) :
    Calls E.P F ⟨vs⟩ w fun e w' => ∃ v v' γ' S', e = .returned v' ∧ Q v S' ∧ VR γ' v v' ∧ HR γ' E.ng S' w' ∧ Kp S γ w γ' w' := by
  have hf := enterA_ok hE hen ha
  intro cs
  obtain ⟨γ', v, v', S', fr', w', fn, g0, g1, g2, g3, g4, g5, g6, g7, g8, g9, g10⟩ := (h γ _ [] w hf .nil hH).1 rfl cs
  exact ⟨.returned v', w', fr', ⟨v, v', γ', S', rfl, g0, g8, g9, g10⟩, g1, g5, g2, g3, g4, fn, g6, g7⟩
/-- a law: it answers true, and nothing that lay there has been touched -/
theorem Kp.below {S : Hp} {γ γ' : Gm} {w w' : World} {ng : Nat} (h : Kp S γ w γ' w') (hH : HR γ ng S w) (hfl : S.nx.idx ≤ S.fl) : RowKit.Below w.heap.size w w' := by
  have h5 := h.os
  injection h5 with h6 h7
  refine ⟨h6, h7, h.out, h.size, fun r hr => h.keep r hr (fun a o L ha hf => ?_)⟩
  have := hH.lt ha
  omega
end
end Go.AM

/-! A45: The machine operation by operation: for runs with variables. -/
namespace Go.AM

/-- one operation of a region -/
noncomputable def opOne (ops : Array Oper) (i : Nat) (o : Oper) (rest : List Oper) : SF := fun E fn nt tm k dfs dk rd cs S =>
  match wantA nt ops tm o with
  | none => .bad
  | some false => (match putD nt o.dst (.tup []) tm with | some tm' => .next ⟨fn, nt, tm', .reg ops (Nat.succ i) rest :: k, dfs, .run, false, dk, rd⟩ cs S | none => .bad)
  | some true => (match evOp o.op E tm S o.type with
    | none => .bad
    | some (.v x S') => (match putD nt o.dst x tm with | some tm' => .next ⟨fn, nt, tm', .reg ops (Nat.succ i) rest :: k, dfs, .run, false, dk, rd⟩ cs S' | none => .bad)
    | some r => afterOps ops (.stop tm S i (o :: rest) r) E fn nt tm k dfs dk rd cs S)
noncomputable def regF (ops : Array Oper) (i : Nat) (rest : List Oper) : SF := fun E fn nt tm k dfs dk rd cs S =>
  match rest with
  | [] => .next ⟨fn, nt, tm, k, dfs, .run, false, dk, rd⟩ cs S
  | o :: rest => opOne ops i o rest E fn nt tm k dfs dk rd cs S
noncomputable def itemF (D : DrawF) (x : AI) : SF := fun E fn nt tm k dfs dk rd cs S =>
  match x with
  | .code (.region _ ops false) => .next ⟨fn, nt, tm, .reg ops 0 ops.toList :: k, dfs, .run, false, dk, rd⟩ cs S
  | .reg ops i rest => regF ops i rest E fn nt tm k dfs dk rd cs S
  | x => sItem D x E fn nt tm k dfs dk rd cs S
noncomputable def stepF (D : DrawF) (E : Env) (f : AF) (cs : List AF) (S : Hp) : SR :=
  match f with
  | ⟨fn, nt, tm, x :: k, dfs, .run, false, dk, rd⟩ => itemF D x E fn nt tm k dfs dk rd cs S
  | f => stepA D E f cs S
noncomputable def runF (D : DrawF) (E : Env) (n : Nat) : AF → List AF → Hp → SR :=
  Nat.rec (motive := fun _ => AF → List AF → Hp → SR) (fun f cs S => .next f cs S) (fun _ ih f cs S => SR.rec ih .fin .finP .bad (stepF D E f cs S)) n

section
variable {E : Env} (hE : E.Ok) {γ : Gm} {S : Hp} {fr : Frame} {frs : List Frame} {w : World}
include hE
theorem opOne_ok {fn nt : Nat} {tm : Tm} {k : List AI} {dfs : List AD} {dk : Bool} {rd : Option Ps} {ops : Array Oper} {i : Nat} {o : Oper} {rest : List Oper} {cs : List AF}
    (hf : FR γ E ⟨fn, nt, tm, .reg ops i (o :: rest) :: k, dfs, .run, false, dk, rd⟩ fr) (hcs : CsR γ E cs frs) (hH : HR γ E.ng S w) : StepQ E γ S fr frs w (opOne ops i o rest E fn nt tm k dfs dk rd cs S) := by
  obtain ⟨k', ht, ho⟩ := todo_reg hf
  have hm := hf.mode rfl
  have hT := hf.tm rfl
  unfold opOne
  cases hw : wantA nt ops tm o with
  | none => trivial
  | some b =>
    have hwd := wantA_ok hw hf.nt hT
    cases b with
    | false =>
      simp only
      cases hp : putD nt o.dst (.tup []) tm with
      | none => trivial
      | some tm' =>
        simp only
        have hfin : finishA ⟨fn, nt, tm, .reg ops i (o :: rest) :: k, dfs, .run, false, dk, rd⟩ (.tup []) = some ⟨fn, nt, tm', .reg ops (i + 1) rest :: k, dfs, .run, false, dk, rd⟩ := by
          simp only [finishA_eq, finishA0, hp]
        have hf2 := finishA_ok hfin hf rfl rfl .undef
        exact Goes.here hf hcs rfl rfl (fun cs => ⟨γ, _, w, Steps.one (step_unwanted hm ht ho hwd), hf2, hH, Pres.refl _ _ _⟩)
    | true =>
      simp only
      cases hev : evOp o.op E tm S o.type with
      | none => trivial
      | some r =>
        have hop := evOp_ok hE hT hH hev
        cases r with
        | v x S' =>
          simp only
          cases hp : putD nt o.dst x tm with
          | none => trivial
          | some tm' =>
            simp only
            obtain ⟨γ₁, v, w₁, hr, hv, hH1, hP1⟩ := hop
            have hfin : finishA ⟨fn, nt, tm, .reg ops i (o :: rest) :: k, dfs, .run, false, dk, rd⟩ x = some ⟨fn, nt, tm', .reg ops (i + 1) rest :: k, dfs, .run, false, dk, rd⟩ := by
              simp only [finishA_eq, finishA0, hp]
            have hf2 := finishA_ok hfin (hf.mono hP1.ext) rfl rfl hv
            exact Goes.here hf hcs rfl rfl (fun cs => ⟨γ₁, _, w₁, Steps.one (step_val hm ht ho hwd (.inr (evOp_noDefer hev (fun d e => by cases e))) hr), hf2, hH1, hP1⟩)
        | call f args => exact stop_ok hf hcs hH hwd hev (fun _ _ e => by cases e)
        | yld l args => exact stop_ok hf hcs hH hwd hev (fun _ _ e => by cases e)
        | dfr d => exact stop_ok hf hcs hH hwd hev (fun _ _ e => by cases e)
        | pan v => exact stop_ok hf hcs hH hwd hev (fun _ _ e => by cases e)
        | rcv => exact stop_ok hf hcs hH hwd hev (fun _ _ e => by cases e)
where
  stop_ok {fn nt : Nat} {tm : Tm} {k : List AI} {dfs : List AD} {dk : Bool} {rd : Option Ps} {ops : Array Oper} {i : Nat} {o : Oper} {rest : List Oper} {cs : List AF} {r : RO}
      (hf : FR γ E ⟨fn, nt, tm, .reg ops i (o :: rest) :: k, dfs, .run, false, dk, rd⟩ fr) (hcs : CsR γ E cs frs) (hH : HR γ E.ng S w) (hwd : Region.wanted o (yielded ops fr.tmps) = true)
      (hev : evOp o.op E tm S o.type = some r) (hr : ∀ x S, r ≠ .v x S) : StepQ E γ S fr frs w (afterOps ops (.stop tm S i (o :: rest) r) E fn nt tm k dfs dk rd cs S) := by
    have hq : RegQ E S γ w fn nt k dfs dk rd ops (.stop tm S i (o :: rest) r) γ fr w := .stop hf hH (Pres.refl _ _ _) hwd hev hr
    obtain ⟨S₁, h3, h4⟩ := afterOps_ok hE (tm0 := tm) hq hcs
    exact StepQ.ahead (fun cs => Steps.refl _ _) h3 rfl rfl h4
variable {D : DrawF} (hD : DrawOk D E)
include hD
theorem stepF_ok {f : AF} {cs : List AF} (hf : FR γ E f fr) (hcs : CsR γ E cs frs) (hH : HR γ E.ng S w) : StepQ E γ S fr frs w (stepF D E f cs S) := by
  unfold stepF
  split
  · rename_i fn nt tm x k dfs dk rd
    unfold itemF
    split
    · rename_i id ops
      obtain ⟨k', ht, hk⟩ := IsR.code (hf.todo rfl)
      have hf2 : IsR γ (.reg ops 0 ops.toList :: k) (.inRegion ops (List.range ops.size) :: k') := by
        rw [List.range_eq_range', ← Array.length_toList]
        exact .cons (.reg rfl) hk
      exact to_ok hf hcs hH hf2 (fun cs => st_region (hf.mode rfl) ht)
    · rename_i ops i rest
      unfold regF
      split
      · have hq : RegQ E S γ w fn nt k dfs dk rd ops (.done tm S) γ fr w := .done hf hH (Pres.refl _ _ _)
        obtain ⟨S₁, h3, h4⟩ := afterOps_ok hE (tm0 := tm) hq hcs
        exact StepQ.ahead (fun cs => Steps.refl _ _) h3 rfl rfl h4
      · exact opOne_ok hE hf hcs hH
    · have : sItem D x E fn nt tm k dfs dk rd cs S = stepA D E ⟨fn, nt, tm, x :: k, dfs, .run, false, dk, rd⟩ cs S := rfl
      rw [this]
      exact stepA_ok hE hD hf hcs hH
  · exact stepA_ok hE hD hf hcs hH
theorem runF_ok (n : Nat) : ∀ {f : AF} {cs : List AF} {S : Hp} {γ : Gm} {fr : Frame} {frs : List Frame} {w : World}, FR γ E f fr → CsR γ E cs frs → HR γ E.ng S w → RunQ E γ S fr frs w (runF D E n f cs S) := by
  induction n with
  | zero =>
    intro f cs S γ fr frs w hf hcs hH bot
    exact ⟨γ, fr, frs, w, Steps.refl _ _, hf, hcs, hH, Pres.refl _ _ _, rfl⟩
  | succ n ih =>
    intro f cs S γ fr frs w hf hcs hH
    have h1 := stepF_ok hE hD hf hcs hH
    have e : runF D E (n + 1) f cs S = SR.rec (runF D E n) .fin .finP .bad (stepF D E f cs S) := rfl
    rw [e]
    generalize stepF D E f cs S = r at h1
    cases r with
    | next f' cs' S' => exact RunQ.after h1 (fun a b c => ih a b c)
    | fin v S' => exact h1.run
    | finP v S' => exact h1.run
    | bad => trivial
end

section
variable {E : Env} (hE : E.Ok) (hmix : E.P.follows .mixedOrders = true) {N n : Nat}
include hE hmix
/-- a piece of a run, operation by operation -/
theorem Ends.segF {f f' : AF} {cs cs' : List AF} {S S' : Hp} {Q : AV → Hp → Prop} {K : Nat} {ks : List Ps} (hr : cut ks (runF (drawF N n) E K f cs S) = .next f' cs' S') (h : Ends E f' cs' S' Q) : Ends E f cs S Q := by
  generalize hrr : runF (drawF N n) E K f cs S = r at hr
  cases r with
  | next f1 cs1 S1 =>
    have hr' : SR.next f1 cs1 (keepS ks S1) = .next f' cs' S' := hr
    injection hr' with e1 e2 e3
    subst e1 e2 e3
    refine Ends.goes (S1 := S1) (S' := keepS ks S1) (fun a o ho => keepO_sub S1.hp ks ho) rfl rfl (fun γ fr frs w hf hc hH => ?_) h
    have := runF_ok hE (drawF_ok hE hmix N n) K hf hc hH
    rw [hrr] at this
    exact this
  | fin v S1 => cases hr
  | finP v S1 => cases hr
  | bad => cases hr
theorem Ends.finF {f : AF} {cs : List AF} {S : Hp} {Q : AV → Hp → Prop} {K : Nat} {v : AV} {S' : Hp} (hr : runF (drawF N n) E K f cs S = .fin v S') (h : Q v S') : Ends E f cs S Q := by
  intro γ fr frs w hf hc hH
  have h1 := runF_ok hE (drawF_ok hE hmix N n) K hf hc hH
  rw [hr] at h1
  refine ⟨fun hl bot => ?_, fun c bot => ?_⟩
  · obtain ⟨γ', v', fr', w', fn, g1, g2, g3, g4, g5, g6, g7, g8, g9, g10⟩ := h1.1 hl bot
    exact ⟨γ', v, v', S', fr', w', fn, h, g1, g2, g3, g4, g5, g6, g7, g8, g9, g10.kp⟩
  · obtain ⟨γ', v', w', g1, g2, g3, g4⟩ := h1.2 c bot
    exact ⟨γ', v, v', S', w', h, g1, g2, g3, g4.kp⟩
theorem Ends.lastF {f : AF} {cs : List AF} {S : Hp} {Q : AV → Prop} {K : Nat} {v : AV} (hr : finOf (runF (drawF N n) E K f cs S) = some v) (h : Q v) : Ends E f cs S (fun v _ => Q v) := by
  obtain ⟨S', e⟩ := finOf_some hr
  exact Ends.finF hE hmix e h
omit hE hmix
theorem Ends.pureAt {f0 c' : AF} {cs cs' : List AF} {S : Hp} {Q : AV → Hp → Prop} {v : AV} (h0 : PureF E f0 v) (hc : ∃ c, cs = c :: cs' ∧ c.md = .run ∧ c.lost = false ∧ finishA c v = some c') (h : Ends E c' cs' S Q) : Ends E f0 cs S Q := by
  obtain ⟨c, rfl, h1, h2, h3⟩ := hc
  exact Ends.pure h0 h1 h2 h3 h
end

/-! tests -/
theorem ilt_iff (a b : Int) : ilt a b = true ↔ a < b := by rw [ilt_eq]; exact decide_eq_true_iff
theorem ile_iff (a b : Int) : ile a b = true ↔ a ≤ b := by rw [ile_eq]; exact decide_eq_true_iff
theorem ieq_iff (a b : Int) : ieq a b = true ↔ a = b := by rw [ieq_eq]; exact beq_iff_eq
theorem and_iff' {x y : Bool} {p q : Prop} (hx : x = true ↔ p) (hy : y = true ↔ q) : Bool.and x y = true ↔ (p ∧ q) := by
  cases x <;> cases y <;> simp_all
theorem and_t' {x : Bool} {p : Prop} (hx : x = true ↔ p) : Bool.and x true = true ↔ p := by
  cases x <;> simp_all
theorem or_iff' {x y : Bool} {p q : Prop} (hx : x = true ↔ p) (hy : y = true ↔ q) : Bool.or x y = true ↔ (p ∨ q) := by
  cases x <;> cases y <;> simp_all
theorem not_iff' {x : Bool} {p : Prop} (hx : x = true ↔ p) : Bool.not x = true ↔ ¬ p := by
  cases x <;> simp_all
theorem true_iff' : (true = true) ↔ True := by simp
theorem false_iff' : (false = true) ↔ False := by simp
theorem off {x : Bool} {p : Prop} (hx : x = true ↔ p) (h : ¬ p) : x = false := by
  cases x with
  | false => rfl
  | true => exact absurd (hx.1 rfl) h
end Go.AM
