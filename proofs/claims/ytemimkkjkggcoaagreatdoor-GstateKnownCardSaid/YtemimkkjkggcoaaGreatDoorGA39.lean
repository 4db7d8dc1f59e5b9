import Derived.Test.YtemimkkjkggcoaaGreatDoorGA38
/- An operation of a drawn region is done: the state behind it. -/
namespace Go.AM

section
variable {CALL : CallF} {E : Env} {nt : Nat} {ops : Array Oper} {fl : Nat} {ms : List Nat} {P : Nat → PSt} {oc : Nat → Oc} {tm0 : Tm} {B0 : T AO} {K0 : Ps} (h : Plan CALL E nt ops fl ms P oc tm0 B0 K0)
variable {X : Nat → Prop} {l : Nat} {γ : Gm} {w : World} {tmps : Array Value} {S : Hp} {γ0 : Gm} {w0 : World}

def QOk (E : Env) (n : Nat) (P : Nat → PSt) : Prop :=
  ∀ q ∈ (P n).qs, ∀ x ∈ (P n).levels, tb x.1 q.i = false → subM (Nat.land q.m (P n).Ef) x.1 = true → ∃ S', evOp q.o.op E q.tm ⟨addN (vis q.m x.1) x.2 (P n).news, (P n).K, (P n).K.idx⟩ q.o.type = some (.v q.v S')

include h
theorem Plan.exec (hE : E.Ok) (hC : CallOk CALL E) (hq : QOk E ops.size P) (hSf : S.fl = fl) (hSn : S.nx = K0) (hng : E.ng ≤ K0.idx) (hfl : fl ≤ K0.idx) (hR : RInv nt ops ms P oc tm0 K0 E.ng S γ0 w0 X l γ w tmps)
    {i : Nat} (hi : i < ops.size) {o : Oper} {m : Nat} (ho : ops[i]? = some o) (hm : ms[i]? = some m) (hnX : ¬ X i) (hpre : ∀ p, tb m p = true → X p) {fr : Frame} {cs : List Frame} {k' : List Item} {L : List Nat}
    (hft : fr.tmps = tmps) (hmo : fr.mode = .run) (hto : fr.todo = .inRegion ops (i :: L) :: k') :
    (∃ γ' w' v' l', Steps E.P (lone fr cs w) (lone (fr.finish v') cs w') ∧ RInv nt ops ms P oc tm0 K0 E.ng S γ0 w0 (fun p => X p ∨ p = i) l' γ' w' (setD o.dst v' tmps)) ∨
    (∃ v hp, oc i = .pan v hp ∧ ∃ v' γ' w', Steps E.P (lone fr cs w) (lone (fr.raise [{ v := v', recovered := false }]) cs w') ∧ VR γ' v v' ∧ HR γ' E.ng ⟨hp, (P ops.size).K, fl⟩ w' ∧ Pres S γ0 w0 ⟨hp, (P ops.size).K, fl⟩ γ' w') := by
  obtain ⟨hx, hs, hh, hold, hfd⟩ := hR
  have hkz : (P 0).K = K0 := h.kz
  have hKi : K0.idx ≤ (P i).K.idx := by rw [← hkz]; exact h.K (Nat.zero_le _) (by omega)
  have hKn : K0.idx ≤ (P ops.size).K.idx := by rw [← hkz]; exact h.K (Nat.zero_le _) (Nat.le_refl _)
  have hKin : (P i).K.idx ≤ (P ops.size).K.idx := h.K (by omega) (Nat.le_refl _)
  have hK1n : (P (i + 1)).K.idx ≤ (P ops.size).K.idx := h.K (by omega) (Nat.le_refl _)
  have hK1 := h.K1 hi
  have hap := h.apartK hi hnX hx.lt
  have hdl := h.domLt hx.lt
  have want : ∀ {b : Bool}, wantA nt ops (P i).tm o = some b → Region.wanted o (yielded ops fr.tmps) = b := fun hw => h.want_at hft hs hx hi ho hm hnX hpre hw
  have hstep := h.step i o m ho hm
  have hD1 : ∀ n, Dm P X n → Dm P (fun p => X p ∨ p = i) n := fun n hn => by
    rcases hn with hn | ⟨p, h1, h2⟩
    · exact .inl hn
    · exact .inr ⟨p, .inl h1, h2⟩
  -- what stays of the objects when nothing new has come
  have same : ∀ {v : AV}, oc i = .q v none ∨ oc i = .qb v → (∀ a b c, Ow P oc (fun p => X p ∨ p = i) l a b c → Ow P oc X l a b c) ∧
      (∀ p v b, (X p ∨ p = i) → tb (P l).A p = false → oc p = .q v (some b) → T.get (P p).K (P l).B = none) := fun hoc => by
    have hne : ∀ {v b}, oc i ≠ .q v (some b) := fun e => by rcases hoc with hoc | hoc <;> rw [hoc] at e <;> cases e
    refine ⟨fun a b c hO => ?_, fun p v b hp ha hq => ?_⟩
    · rcases hO with hO | ⟨p, v, h1, h2, h3, h4⟩
      · exact .inl hO
      · rcases h1 with h1 | rfl
        · exact .inr ⟨p, v, h1, h2, h3, h4⟩
        · exact absurd h3 hne
    · rcases hp with hp | rfl
      · exact hfd p v b hp ha hq
      · exact absurd hq hne
  have empty : ∀ (f : Nat), HR (γ.cut (P i).K.idx) E.ng ⟨.e, (P i).K, f⟩ w := fun f => hh.sub (fun a b e => by rw [T.get_e] at e; cases e) (by omega)
  have atl : (P l).A = (P l).A := rfl
  generalize hoc : oc i = c at hstep
  generalize hsi : P (i + 1) = s' at hstep
  cases hstep with
  | skip hk =>
    obtain ⟨p, v, hp, h1, h2, h3⟩ := h.skip hi hoc hm
    have := hx.live p (hpre p h3)
    rw [h2] at this
    exact absurd rfl this
  | @un tm' hw hp =>
    have hval : (oc i).val = some (.tup []) := by rw [hoc]; rfl
    obtain ⟨s1, s2⟩ := same (v := .tup []) (.inl hoc)
    refine .inl ⟨γ, w, Go.undef, l, Steps.one (step_unwanted hmo hto ho (want hw)), ⟨hx.quiet hi hm hpre hval (by rw [hoc]; exact fun x => x), ?_, hh.weaken s1 hD1, hold, s2⟩⟩
    exact h.s_next hs (Gm.le_refl _) ho hval (h.dst_lt hi ho hval) .undef
  | @qr x tm' hw he hp =>
    have hval : (oc i).val = some x := by rw [hoc]; rfl
    obtain ⟨s1, s2⟩ := same (v := x) (.inl hoc)
    obtain ⟨γr, v', w', hrun, hv, hH', hP⟩ := h.ev_at hft hE hs hx hi ho hm hnX hpre he (Nat.le_refl _) (empty 0)
    obtain ⟨hh', g1, g2, g3⟩ := hh.next (H := .e) (O' := Ow P oc X l) (fun a b e => by rw [T.get_e] at e; cases e) (Nat.zero_le _) (by rw [hSn]; omega) (by rw [hSf]; omega) (fun a b e => by rw [T.get_e] at e; cases e) hH' hP
      (fun n _ hc => by have : n < (P i).K.idx := hc.2; omega) (fun a b c ho => .inr ⟨ho, .inl (T.get_e a)⟩)
    refine .inl ⟨_, w', v', l, Steps.one (step_val hmo hto ho (want hw) (.inr (evOp_noDefer he (fun d e => by cases e))) hrun), ⟨hx.quiet hi hm hpre hval (by rw [hoc]; exact fun x => x), ?_, hh'.weaken s1 (fun n hn => ?_), hold, s2⟩⟩
    · exact h.s_next hs g1 ho hval (h.dst_lt hi ho hval) (hv.mono (Gm.le_trans g2 (Gm.cut_mono (Gm.le_refl _) hK1)))
    · rcases hn with hn | hn
      · exact hD1 n hn
      · have : n < (P i).K.idx := hn.2
        omega
  | @qa x tm' S' ob hw he hn hg hp =>
    have hval : (oc i).val = some x := by rw [hoc]; rfl
    have hKs : (P (i + 1)).K = Ps.succ (P i).K := by rw [hsi]
    have hSx : S'.nx.idx = (P (i + 1)).K.idx := by rw [hn, hKs]
    obtain ⟨γr, v', w', hrun, hv, hH', hP⟩ := h.ev_at hft hE hs hx hi ho hm hnX hpre he (Nat.le_refl _) (empty 0)
    obtain ⟨hh', g1, g2, g3⟩ := hh.next (H := .e) (O' := Ow P oc (fun p => X p ∨ p = i) l) (fun a b e => by rw [T.get_e] at e; cases e) (Nat.zero_le _) (by rw [hSn]; omega) (by rw [hSf]; omega) (fun a b e => by rw [T.get_e] at e; cases e) hH' hP
      (fun n hn hc => hap n hn (by rw [← hSx]; exact hc)) (fun a b c hO => by
        rcases hO with hO | ⟨p, v, h1, h2, h3, h4, h5⟩
        · exact .inr ⟨.inl hO, .inl (T.get_e a)⟩
        · rcases h1 with h1 | rfl
          · exact .inr ⟨.inr ⟨p, v, h1, h2, h3, h4, h5⟩, .inl (T.get_e a)⟩
          · rw [hoc] at h3; cases h3
            exact .inl ⟨by rw [h4]; exact hg, by rw [h5, hSx]; exact Nat.le_refl _, .inr (by rw [h4]; exact Nat.le_refl _)⟩)
    refine .inl ⟨_, w', v', l, Steps.one (step_val hmo hto ho (want hw) (.inr (evOp_noDefer he (fun d e => by cases e))) hrun), ⟨hx.quiet hi hm hpre hval (by rw [hoc]; exact fun x => x), ?_, hh'.weaken (fun _ _ _ x => x) (fun n hn => ?_), hold, fun p v b hp ha hq => ?_⟩⟩
    · exact h.s_next hs g1 ho hval (h.dst_lt hi ho hval) (hv.mono (Gm.le_trans g2 (Gm.cut_mono (Gm.le_refl _) (by omega))))
    · rcases hn with hn | hn
      · exact hD1 n hn
      · exact .inr ⟨i, .inr rfl, hn.1, by rw [← hSx]; exact hn.2⟩
    · rcases hp with hp | rfl
      · exact hfd p v b hp ha hq
      · cases hB : T.get (P p).K (P l).B with
        | none => rfl
        | some b2 =>
          obtain ⟨_, M, ob2, e1, _⟩ := hh.obj _ b2 _ (.inl ⟨hB, rfl⟩)
          refine absurd ⟨Nat.le_refl _, ?_⟩ (hap _ (hh.dom _ _ e1))
          rw [hKs, Ps.idx_succ]; omega
  | @qb x tm' hw hk hb hp =>
    have hval : (oc i).val = some x := by rw [hoc]; rfl
    obtain ⟨s1, s2⟩ := same (v := x) (.inr hoc)
    have hln : l ≤ ops.size := by
      rcases hx.lvl with rfl | ⟨e, rfl, he, _⟩
      · exact Nat.zero_le _
      · exact he
    have hlev := h.levels (Nat.le_refl _) hln (by
      rcases hx.lvl with rfl | ⟨e, rfl, _, hf⟩
      · exact .inl rfl
      · exact .inr ⟨e, rfl, hf⟩)
    have hqs := h.qs (Nat.le_refl _) hi hoc ho hm
    obtain ⟨S', he⟩ := hq _ hqs _ hlev (by
      show tb (P l).A i = false
      cases hb : tb (P l).A i with
      | false => rfl
      | true =>
        obtain ⟨e, h1, h2, h3⟩ := h.A2 hln hb
        have hXe : X e := (hx.eff e (by omega) h2).2 h1
        rcases h3 with rfl | ⟨me, h4, h5⟩
        · exact absurd hXe hnX
        · exact absurd (hx.closed e me hXe h4 i h5) hnX) (by
      refine subM_of (fun e he => ?_)
      rw [tb_and] at he
      simp only [Bool.and_eq_true] at he
      obtain ⟨h1, h2⟩ := (h.Ef (Nat.le_refl _) e).1 he.2
      exact h.A1 hln ((hx.eff e h1 h2).1 (hpre e he.1)) h2)
    simp only at he
    have hSS := ro_ok (.inl hk) he
    subst hSS
    have hsub : ∀ a b, T.get a (addN (vis m (P l).A) (P l).B (P ops.size).news) = some b → ∃ c, Ow P oc X l a b c ∧ c ≤ (P ops.size).K.idx := fun a b e => h.viewH (Nat.le_refl _) hln hpre e
    obtain ⟨γr, v', w', hrun, hv, hH', hP⟩ := h.ev_at hft hE hs hx hi ho hm hnX hpre he hKin (hh.sub hsub (by omega))
    obtain ⟨hh', g1, g2, g3⟩ := hh.next (O' := Ow P oc X l) hsub (Nat.le_refl _) (by rw [hSn]; omega) (by rw [hSf]; omega) (fun a b e hf => by rw [hSf]; omega) hH' hP
      (fun n _ hc => by have : n < (P ops.size).K.idx := hc.2; omega) (fun a b c ho => .inr ⟨ho, .inr (Nat.le_refl _)⟩)
    refine .inl ⟨_, w', v', l, Steps.one (step_val hmo hto ho (want hw) (.inr (evOp_noDefer he (fun d e => by cases e))) hrun), ⟨hx.quiet hi hm hpre hval (by rw [hoc]; exact fun x => x), ?_, hh'.weaken s1 (fun n hn => ?_), hold, s2⟩⟩
    · refine h.s_next hs g1 ho hval (h.dst_lt hi ho hval) ?_
      have hb2 := kbA_ok (hv.mono (Gm.le_trans g2 (Gm.cut_le _ _))) hb
      exact hb2.mono (Gm.cut_mono (Gm.le_refl _) hK1)
    · rcases hn with hn | hn
      · exact hD1 n hn
      · have : n < (P ops.size).K.idx := hn.2
        omega
  | @ef x tm' S' hw hn hsm he hK hp =>
    have hval : (oc i).val = some x := by rw [hoc]; rfl
    have hef : (oc i).isEf := by rw [hoc]; trivial
    obtain ⟨hl, hA, hB, hall⟩ := h.sync hx hi hpre hnX hsm (.inl hef)
    have hP1 : P (i + 1) = ⟨tm', S'.hp, lvl (P i) i m, Nat.lor (P i).Ef (bit i), (P i).news, (lvl (P i) i m, S'.hp) :: (P i).levels, (P i).qs, S'.nx, (P i).pan⟩ := hsi
    have hB1 : (P (i + 1)).B = S'.hp := by rw [hP1]
    have hA1 : (P (i + 1)).A = lvl (P i) i m := by rw [hP1]
    have hKx : (P (i + 1)).K = S'.nx := by rw [hP1]
    rw [hA, hB] at he
    have hsub : ∀ a b, T.get a (addN (vis m (P l).A) (P l).B (P i).news) = some b → ∃ c, Ow P oc X l a b c ∧ c ≤ (P i).K.idx := fun a b e => h.viewH (by omega) hl hpre e
    have hHR : HR (γ.cut (P i).K.idx) E.ng ⟨addN (vis m (P l).A) (P l).B (P i).news, (P i).K, fl⟩ w := hh.sub hsub (by omega)
    -- the run
    have hrun : ∃ γr v' w', Steps E.P (lone fr cs w) (lone (fr.finish v') cs w') ∧ VR γr x v' ∧ HR γr E.ng S' w' ∧ Pres ⟨addN (vis m (P l).A) (P l).B (P i).news, (P i).K, fl⟩ (γ.cut (P i).K.idx) w S' γr w' := by
      rcases he with he | ⟨f, args, he, hc⟩
      · obtain ⟨γr, v', w', hrun, hv, hH', hP⟩ := h.ev_at hft hE hs hx hi ho hm hnX hpre he (Nat.le_refl _) hHR
        exact ⟨γr, v', w', Steps.one (step_val hmo hto ho (want hw) (.inr (evOp_noDefer he (fun d e => by cases e))) hrun), hv, hH', hP⟩
      · obtain ⟨vs, hr1, hr2, _⟩ := h.ev_at hft hE hs hx hi ho hm hnX hpre he (Nat.le_refl _) hHR
        obtain ⟨γr, v', w', g1, g2, g3, g4⟩ := (hC f args _ _ w vs hHR hr2).1 x S' hc fr cs
        exact ⟨γr, v', w', Steps.head (step_enter hmo hto ho (want hw) (.inr (evOp_noDefer he (fun d e => by cases e))) hr1) g1, g2, g3, g4⟩
    obtain ⟨γr, v', w', hst, hv, hH', hP⟩ := hrun
    have notin : ∀ p v b, X p → tb (lvl (P i) i m) p = false → oc p = .q v (some b) → tb (P l).A p = false ∧ T.get (P p).K (addN (vis m (P l).A) (P l).B (P i).news) = none := fun p v b hp ha hq => by
      unfold lvl at ha
      rw [tb_or, tb_or, tb_bit, hA] at ha
      simp only [Bool.or_eq_false_iff, decide_eq_false_iff_not] at ha
      exact ⟨ha.1.1, h.notH (by omega) (hx.lt p hp) hq ha.1.2 (hfd p v b hp ha.1.1 hq)⟩
    obtain ⟨hh', g1, g2, g3⟩ := hh.next (O' := Ow P oc (fun p => X p ∨ p = i) (i + 1)) hsub (by omega) (by rw [hSn]; omega) (by rw [hSf]; omega) (fun a b e hf => by rw [hSf]; exact hf) hH' hP
      (fun n hn hc => hap n hn (by rw [hKx]; exact hc)) (fun a b c hO => by
        rcases hO with ⟨hO, rfl⟩ | ⟨p, v, h1, h2, h3, h4, h5⟩
        · exact .inl ⟨by rw [← hB1]; exact hO, by rw [hKx]; exact Nat.le_refl _, .inl hSf.symm⟩
        · rcases h1 with h1 | rfl
          · rw [hA1] at h2
            obtain ⟨n1, n2⟩ := notin p v b h1 h2 h3
            exact .inr ⟨.inr ⟨p, v, h1, n1, h3, h4, h5⟩, .inl (by rw [h4]; exact n2)⟩
          · rw [hoc] at h3; cases h3)
    refine .inl ⟨_, w', v', i + 1, hst, ⟨⟨?_, ?_, ?_, .inr ⟨i, rfl, hi, hef⟩, ?_⟩, ?_, hh'.weaken (fun _ _ _ x => x) (fun n hn => ?_), fun a b hab hlt => ?_, fun p v b hp ha hq => ?_⟩⟩
    · intro j hj
      rcases hj with hj | rfl
      · exact hx.lt j hj
      · exact hi
    · intro j m' hj hm' p hp
      rcases hj with hj | rfl
      · exact .inl (hx.closed j m' hj hm' p hp)
      · rw [hm] at hm'; cases hm'; exact .inl (hpre p hp)
    · intro e he' hf
      constructor
      · rintro (a | rfl)
        · have := (hx.eff e he' hf).1 a; omega
        · omega
      · intro a
        rcases Nat.lt_or_ge e i with hlt | hge
        · exact .inl (hall e hlt hf)
        · exact .inr (by omega)
    · intro j hj
      rcases hj with hj | rfl
      · exact hx.live j hj
      · rw [hval]; exact fun e => by cases e
    · exact h.s_next hs g1 ho hval (h.dst_lt hi ho hval) (hv.mono (Gm.le_trans g2 (Gm.cut_mono (Gm.le_refl _) (by rw [hKx]; exact Nat.le_refl _))))
    · rcases hn with hn | hn
      · exact hD1 n hn
      · exact .inr ⟨i, .inr rfl, hn.1, by rw [hKx]; exact hn.2⟩
    · rw [hB1]
      refine hP.old a b (addN_base (hold a b hab hlt) (fun p k o hmem e => ?_)) (by show a.idx < fl; rw [← hSf]; exact hlt)
      obtain ⟨q1, q2, _⟩ := h.news1 (by omega) hmem
      have : (P 0).K.idx ≤ (P p).K.idx := h.K (Nat.zero_le _) (by omega)
      rw [← q2, e, hkz] at this
      omega
    · rw [hB1]
      rcases hp with hp | rfl
      · rw [hA1] at ha
        obtain ⟨n1, n2⟩ := notin p v b hp ha hq
        exact g3 _ b _ (.inr ⟨p, v, hp, n1, hq, rfl, rfl⟩) n2
      · rw [hoc] at hq; cases hq
  | @pn v H f hw hn hsm hHs he =>
    obtain ⟨hl, hA, hB, hall⟩ := h.sync hx hi hpre hnX hsm (.inr ⟨_, _, hoc⟩)
    rw [hA, hB] at hHs hoc
    have hsub : ∀ a b, T.get a (addN (vis m (P l).A) (P l).B (P i).news) = some b → ∃ c, Ow P oc X l a b c ∧ c ≤ (P i).K.idx := fun a b e => h.viewH (by omega) hl hpre e
    have hHR : HR (γ.cut (P i).K.idx) E.ng ⟨H, (P i).K, f⟩ w := hh.sub (fun a b e => hsub a b (hHs a b e)) (by omega)
    obtain ⟨v', hr1, hr2⟩ := h.ev_at hft hE hs hx hi ho hm hnX hpre he (Nat.le_refl _) hHR
    obtain ⟨f1, f2⟩ := hh.final (H := addN (vis m (P l).A) (P l).B (P i).news) (k := (P ops.size).K) (fun a b e => by obtain ⟨c, h1, _⟩ := hsub a b e; exact ⟨c, h1⟩)
      (fun a b hab hlt => addN_base (hold a b hab hlt) (fun p k o hmem e => by
        obtain ⟨q1, q2, _⟩ := h.news1 (by omega) hmem
        have : (P 0).K.idx ≤ (P p).K.idx := h.K (Nat.zero_le _) (by omega)
        rw [← q2, e, hkz] at this
        omega)) hdl (by rw [hSn]; omega)
    rw [hSf] at f1 f2
    exact .inr ⟨v, _, by rw [hA, hB], v', γ, w, Steps.one (step_panic hmo hto ho (want hw) (.inr (evOp_noDefer he (fun d e => by cases e))) hr1), hr2.mono (Gm.cut_le _ _), f1, f2⟩
  | @pc v f args S' hw hn hsm he hc hK =>
    obtain ⟨hl, hA, hB, hall⟩ := h.sync hx hi hpre hnX hsm (.inr ⟨_, _, hoc⟩)
    have hKx : (P (i + 1)).K = S'.nx := by rw [hsi]
    rw [hA, hB] at he hc
    have hsub : ∀ a b, T.get a (addN (vis m (P l).A) (P l).B (P i).news) = some b → ∃ c, Ow P oc X l a b c ∧ c ≤ (P i).K.idx := fun a b e => h.viewH (by omega) hl hpre e
    have hHR : HR (γ.cut (P i).K.idx) E.ng ⟨addN (vis m (P l).A) (P l).B (P i).news, (P i).K, fl⟩ w := hh.sub hsub (by omega)
    obtain ⟨vs, hr1, hr2, _⟩ := h.ev_at hft hE hs hx hi ho hm hnX hpre he (Nat.le_refl _) hHR
    obtain ⟨γr, v', w', g1, g2, hH', hP⟩ := (hC f args _ _ w vs hHR hr2).2 v S' hc fr cs
    obtain ⟨hh', e1, e2, _⟩ := hh.next (O' := fun a b c => T.get a S'.hp = some b ∧ c = S'.nx.idx) hsub (by omega) (by rw [hSn]; omega) (by rw [hSf]; omega) (fun a b e hf => by rw [hSf]; exact hf) hH' hP
      (fun n hn hc => hap n hn (by rw [hKx]; exact hc)) (fun a b c hO => .inl ⟨hO.1, by rw [hO.2]; exact Nat.le_refl _, .inl hSf.symm⟩)
    obtain ⟨f1, f2⟩ := hh'.final (H := S'.hp) (k := (P ops.size).K) (fun a b e => ⟨_, e, rfl⟩)
      (fun a b hab hlt => hP.old a b (addN_base (hold a b hab hlt) (fun p k o hmem e => by
        obtain ⟨q1, q2, _⟩ := h.news1 (by omega) hmem
        have : (P 0).K.idx ≤ (P p).K.idx := h.K (Nat.zero_le _) (by omega)
        rw [← q2, e, hkz] at this
        omega)) (by show a.idx < fl; rw [← hSf]; exact hlt)) (fun n hn => by
          rcases hn with hn | hn
          · exact hdl n hn
          · rw [hKx] at hK1n; omega) (by rw [hSn]; omega)
    rw [hSf] at f1 f2
    exact .inr ⟨v, _, rfl, v', _, w', Steps.head (step_enter hmo hto ho (want hw) (.inr (evOp_noDefer he (fun d e => by cases e))) hr1) g1, g2.mono (Gm.le_trans e2 (Gm.cut_le _ _)), f1, f2⟩
end
end Go.AM
