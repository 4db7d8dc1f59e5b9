import Derived.Test.YtemimkkjkggcoaaGreatDoorGA39
/- Drawn regions: the whole. -/
namespace Go.AM

noncomputable def flo (A : Nat) : Nat → Bool := fun p => Bool.rec true false (tb A p)
noncomputable def chkQ (E : Env) (s : PSt) (q : QE) (x : Nat × T AO) : Bool :=
  Bool.rec (Bool.rec true (match evOp q.o.op E q.tm ⟨addN (vis q.m x.1) x.2 s.news, s.K, s.K.idx⟩ q.o.type with | some (.v y _) => eqA 4 y q.v | _ => false) (subM (Nat.land q.m s.Ef) x.1)) true (tb x.1 q.i)
noncomputable def allL {α : Type} (p : α → Bool) (l : List α) : Bool := List.rec true (fun x _ ih => Bool.rec false ih (p x)) l
theorem allL_ok {α : Type} {p : α → Bool} : ∀ {l : List α}, allL p l = true → ∀ x ∈ l, p x = true
  | [], _, x, hx => by cases hx
  | y :: l, h, x, hx => by
    obtain ⟨h1, h2⟩ := recf (b := p y) (c := allL p l) h
    rcases List.mem_cons.1 hx with rfl | hx
    · exact h1
    · exact allL_ok h2 x hx
noncomputable def drawEnd (E : Env) (fl : Nat) (s : PSt) : Option (Sum (Tm × Hp) (AV × Hp)) :=
  Bool.rec none (match s.pan with
    | none => some (.inl (s.tm, ⟨addN (flo s.A) s.B s.news, s.K, fl⟩))
    | some (_, v, hp) => some (.inr (v, ⟨hp, s.K, fl⟩))) (allL (fun q => allL (chkQ E s q) s.levels) s.qs)
noncomputable def draw1 (CALL : CallF) (E : Env) (nt : Nat) (ops : Array Oper) (tm : Tm) (S : Hp) (ms : List Nat) : Option (Sum (Tm × Hp) (AV × Hp)) :=
  Hp.rec (fun hp nx fl => Bool.rec none (Bool.rec none (Bool.rec none (Option.rec none (drawEnd E fl) (pass CALL E nt ops fl ops.toList ms 0 ⟨tm, hp, 0, 0, [], [(0, hp)], [], nx, none⟩)) (Nat.ble fl nx.idx)) (Nat.ble E.ng nx.idx)) (slots ops ms)) S
noncomputable def drawA (CALL : CallF) (E : Env) (nt : Nat) (ops : Array Oper) (tm : Tm) (S : Hp) : Option (Sum (Tm × Hp) (AV × Hp)) :=
  Option.rec none (draw1 CALL E nt ops tm S) (masks ops)
theorem draw1_ok {CALL : CallF} {E : Env} {nt : Nat} {ops : Array Oper} {tm : Tm} {S : Hp} {r : Sum (Tm × Hp) (AV × Hp)} (h : drawA CALL E nt ops tm S = some r) :
    ∃ ms P oc, Plan CALL E nt ops S.fl ms P oc tm S.hp S.nx ∧ QOk E ops.size P ∧ S.fl ≤ S.nx.idx ∧ E.ng ≤ S.nx.idx ∧
      ((∃ p v hp, (P ops.size).pan = some (p, v, hp) ∧ r = .inr (v, ⟨hp, (P ops.size).K, S.fl⟩)) ∨
       ((P ops.size).pan = none ∧ r = .inl ((P ops.size).tm, ⟨addN (flo (P ops.size).A) (P ops.size).B (P ops.size).news, (P ops.size).K, S.fl⟩))) := by
  obtain ⟨ms, h1, h2⟩ := recb_ok (o := masks ops) h
  obtain ⟨h3, h4⟩ := rec_some (b := slots ops ms) h2
  obtain ⟨h5, h6⟩ := rec_some h4
  obtain ⟨h7, h8⟩ := rec_some h6
  obtain ⟨s, h9, h10⟩ := recb_ok h8
  obtain ⟨h11, h12⟩ := rec_some h10
  obtain ⟨P, oc, g1, g2, g3⟩ := pass_ok h9
  rw [Array.length_toList] at g2
  refine ⟨ms, P, oc, ⟨masks_ok h1, slots_ok h3, g1, fun j o m hj hm => ?_⟩, ?_, Nat.le_of_ble_eq_true h7, Nat.le_of_ble_eq_true h5, ?_⟩
  · have := g3 j o m (by rw [Array.getElem?_toList]; exact hj) hm
    rw [Nat.zero_add] at this
    exact this
  · intro q hq x hx ha hs
    rw [g2] at hq hx hs ⊢
    have h13 := allL_ok (allL_ok h11 q hq) x hx
    unfold chkQ at h13
    rw [ha, hs] at h13
    have h13 : (match evOp q.o.op E q.tm ⟨addN (vis q.m x.1) x.2 s.news, s.K, s.K.idx⟩ q.o.type with | some (.v y _) => eqA 4 y q.v | _ => false) = true := h13
    split at h13
    · rename_i y S' he
      rw [eqA_ok _ _ _ h13] at he
      exact ⟨S', he⟩
    · cases h13
  · rw [g2]
    split at h12
    · rename_i hp
      cases h12
      exact .inr ⟨hp, rfl⟩
    · rename_i p v hp e
      cases h12
      exact .inl ⟨p, v, hp, e, rfl⟩

section
variable {CALL : CallF} {E : Env} {nt : Nat} {ops : Array Oper} {fl : Nat} {ms : List Nat} {P : Nat → PSt} {oc : Nat → Oc} {tm0 : Tm} {B0 : T AO} {K0 : Ps} (h : Plan CALL E nt ops fl ms P oc tm0 B0 K0)
variable {S : Hp} {γ0 : Gm} {w0 : World}

theorem RInv.congr {X X' : Nat → Prop} (e : ∀ i, X i ↔ X' i) {l : Nat} {γ : Gm} {w : World} {tmps : Array Value} (hR : RInv nt ops ms P oc tm0 K0 E.ng S γ0 w0 X l γ w tmps) : RInv nt ops ms P oc tm0 K0 E.ng S γ0 w0 X' l γ w tmps := by
  have : X = X' := funext fun i => propext (e i)
  rw [← this]; exact hR

include h in
theorem Plan.run (hE : E.Ok) (hC : CallOk CALL E) (hq : QOk E ops.size P) (hSf : S.fl = fl) (hSn : S.nx = K0) (hng : E.ng ≤ K0.idx) (hfl : fl ≤ K0.idx) {cs : List Frame} {k' : List Item} :
    ∀ {listed : Array Bool} {L : List Nat}, Valid ops listed L → listed.size = ops.size → ∀ {l : Nat} {γ : Gm} {w : World} {fr : Frame}, RInv nt ops ms P oc tm0 K0 E.ng S γ0 w0 (fun i => listed.getD i false = true) l γ w fr.tmps → fr.mode = .run →
      fr.todo = .inRegion ops L :: k' →
      (∃ γ' w' l' tmps', Steps E.P (lone fr cs w) (lone { fr with tmps := tmps', todo := .inRegion ops [] :: k' } cs w') ∧ RInv nt ops ms P oc tm0 K0 E.ng S γ0 w0 (fun i => i < ops.size) l' γ' w' tmps') ∨
      (∃ i v hp, i < ops.size ∧ oc i = .pan v hp ∧ ∃ v' γ' w' tmps' L', tmps'.size = nt ∧ Steps E.P (lone fr cs w) (lone (({ fr with tmps := tmps', todo := .inRegion ops L' :: k' } : Frame).raise [{ v := v', recovered := false }]) cs w') ∧
        VR γ' v v' ∧ HR γ' E.ng ⟨hp, (P ops.size).K, fl⟩ w' ∧ Pres S γ0 w0 ⟨hp, (P ops.size).K, fl⟩ γ' w') := by
  intro listed L hV
  induction hV with
  | @nil listed hr =>
    intro hsz l γ w fr hR hmo hto
    have all : ∀ i, i < ops.size → listed.getD i false = true := by
      intro i
      induction i using Nat.strongRecOn with
      | _ i ih =>
        intro hi
        obtain ⟨o, m, ho, hm, _⟩ := h.at hi
        cases hb : listed.getD i false with
        | true => rfl
        | false =>
          exfalso
          have hb' : listed.getD i true = false := by
            rw [Array.getD_eq_getD_getElem?, Array.getElem?_eq_getElem (by omega)] at hb ⊢
            exact hb
          have : i ∈ Region.ready .any ops listed := mem_ready.2 ⟨hb', o, ho, fun e he hbd => by
            have := h.masks.back i o (by rw [Array.getElem?_toList]; exact ho) e he hbd
            exact ih e.on this (by omega)⟩
          rw [hr] at this; cases this
    refine .inl ⟨γ, w, l, fr.tmps, ?_, hR.congr (fun i => ⟨hR.x.lt i, all i⟩)⟩
    have : ({ fr with tmps := fr.tmps, todo := .inRegion ops [] :: k' } : Frame) = fr := by rw [← hto]
    rw [this]
    exact Steps.refl _ _
  | @cons listed i L hr ht ih =>
    intro hsz l γ w fr hR hmo hto
    obtain ⟨hb, o, ho, hall⟩ := mem_ready.1 hr
    have hi : i < ops.size := (Array.getElem?_eq_some_iff.1 ho).1
    obtain ⟨_, m, _, hm, _⟩ := h.at hi
    have hnX : ¬ listed.getD i false = true := by
      rw [Array.getD_eq_getD_getElem?, Array.getElem?_eq_getElem (by omega)] at hb ⊢
      simp at hb ⊢; exact hb
    have hpre : ∀ p, tb m p = true → listed.getD p false = true := by
      intro p hp
      obtain ⟨e, he, hbd, r⟩ := h.masks.bits i o m (by rw [Array.getElem?_toList]; exact ho) hm p hp
      have h1 := hall e (by simpa using he) hbd
      rcases r with rfl | ⟨m', h2, h3⟩
      · exact h1
      · exact hR.x.closed e.on m' h1 h2 p h3
    rcases h.exec hE hC hq hSf hSn hng hfl hR hi ho hm hnX hpre (fr := fr) (cs := cs) rfl hmo hto with ⟨γ1, w1, v1, l1, h1, h2⟩ | ⟨v, hp, h1, v', γ', w', h2, h3, h4, h5⟩
    · have hfin : fr.finish v1 = { fr with tmps := setD o.dst v1 fr.tmps, todo := .inRegion ops L :: k' } := by
        simp only [Frame.finish, hto, ho, Option.bind_some]
        rfl
      have hX : ∀ p, (listed.getD p false = true ∨ p = i) ↔ ((listed.setIfInBounds i true).getD p false = true) := fun p => by
        rw [Array.getD_eq_getD_getElem?, Array.getD_eq_getD_getElem?, Array.getElem?_setIfInBounds]
        by_cases e : i = p
        · subst e; simp [hsz, hi]
        · simp [e, eq_comm (a := p)]
      rw [hfin] at h1
      have h2 := h2.congr hX
      rcases ih (by simpa using hsz) (fr := { fr with tmps := setD o.dst v1 fr.tmps, todo := .inRegion ops L :: k' }) h2 hmo rfl with ⟨γ2, w2, l2, t2, g1, g2⟩ | ⟨j, v, hp, gj, g1, v', γ2, w2, t2, L2, g0, g2, g3⟩
      · exact .inl ⟨γ2, w2, l2, t2, Steps.trans h1 g1, g2⟩
      · exact .inr ⟨j, v, hp, gj, g1, v', γ2, w2, t2, L2, g0, Steps.trans h1 g2, g3⟩
    · refine .inr ⟨i, v, hp, hi, h1, v', γ', w', fr.tmps, i :: L, hR.s.size, ?_, h3, h4, h5⟩
      have : ({ fr with tmps := fr.tmps, todo := .inRegion ops (i :: L) :: k' } : Frame) = fr := by rw [← hto]
      rw [this]; exact h2

include h in
theorem Plan.start (hSn : S.nx = K0) (hSB : S.hp = B0) {γ : Gm} {w : World} (hH : HR γ E.ng S w) {tmps : Array Value} (hT : TR γ tm0 tmps) (hsz : tmps.size = nt) :
    RInv nt ops ms P oc tm0 K0 E.ng S γ w (fun i => (Array.replicate ops.size false).getD i false = true) 0 γ w tmps := by
  have hno : ∀ i, ¬ (Array.replicate ops.size false).getD i false = true := fun i => by
    rw [Array.getD_eq_getD_getElem?, Array.getElem?_replicate]
    split <;> simp
  have hP0 := h.init
  refine ⟨⟨fun i e => absurd e (hno i), fun i m e => absurd e (hno i), fun e he hf => ⟨fun x => absurd x (hno e), fun x => by omega⟩, .inl rfl, fun i e => absurd e (hno i)⟩, ⟨hsz, fun p o d v e => absurd e (hno p), fun t _ => ?_⟩, ?_, fun a b hab _ => ?_, fun p v b e => absurd e (hno p)⟩
  · refine (hT t).mono (fun a L e => Gm.cut_some.2 ⟨?_, e⟩)
    have := hH.fresh a L e
    rw [hSn] at this; exact this
  · have := HInv.start hH K0.idx (by rw [hSn]; exact Nat.le_refl _) (Dm P (fun i => (Array.replicate ops.size false).getD i false = true)) (fun n hn => .inl (by rw [hP0]; rw [hSn] at hn; exact hn))
    refine this.weaken (fun a b c hO => ?_) (fun _ x => x)
    rcases hO with ⟨h1, h2⟩ | ⟨p, v, h1, _⟩
    · rw [hP0] at h1 h2
      exact ⟨by rw [hSB]; exact h1, h2⟩
    · exact absurd h1 (hno p)
  · rw [hP0, ← hSB]; exact hab
include h in
theorem Plan.fin (hSf : S.fl = fl) (hSn : S.nx = K0) (hfl : fl ≤ K0.idx) {l : Nat} {γ : Gm} {w : World} {tmps : Array Value} (hR : RInv nt ops ms P oc tm0 K0 E.ng S γ0 w0 (fun i => i < ops.size) l γ w tmps) :
    (P ops.size).pan = none ∧ TR γ (P ops.size).tm tmps ∧ tmps.size = nt ∧ HR γ E.ng ⟨addN (flo (P ops.size).A) (P ops.size).B (P ops.size).news, (P ops.size).K, fl⟩ w ∧
      Pres S γ0 w0 ⟨addN (flo (P ops.size).A) (P ops.size).B (P ops.size).news, (P ops.size).K, fl⟩ γ w := by
  obtain ⟨hx, hs, hh, hold, hfd⟩ := hR
  have hkz : (P 0).K = K0 := h.kz
  have hKn : K0.idx ≤ (P ops.size).K.idx := by rw [← hkz]; exact h.K (Nat.zero_le _) (Nat.le_refl _)
  have hln : l ≤ ops.size := by
    rcases hx.lvl with rfl | ⟨e, rfl, he, _⟩
    · exact Nat.zero_le _
    · exact he
  obtain ⟨hA, hB⟩ := h.AB hln (Nat.le_refl _) (fun e he hlt hf => by have := (hx.eff e hlt hf).1 hlt; omega)
  refine ⟨?_, fun t => ?_, hs.size, ?_⟩
  · cases hp : (P ops.size).pan with
    | none => rfl
    | some q =>
      obtain ⟨p, v, hp'⟩ := q
      obtain ⟨h1, h2⟩ := h.pan1 (Nat.le_refl _) hp
      have := hx.live p h1
      rw [h2] at this
      exact absurd rfl this
  · have hP := h.slotP (i := ops.size) (Nat.le_refl _)
    by_cases hex : ∃ j oj v, j < ops.size ∧ ops[j]? = some oj ∧ oj.dst = some t ∧ (oc j).val = some v
    · obtain ⟨j, oj, v, h0, h1, h2, h3⟩ := hex
      rw [(hP t).1 j oj v h0 h1 h2 h3]
      exact (hs.slot j oj t v h0 h1 h2 h3).mono (Gm.cut_le _ _)
    · rw [(hP t).2 (fun p o v hp ho hv hd => hex ⟨p, o, v, hp, ho, hd, hv⟩)]
      exact (hs.slot0 t (fun p o v hp ho hv hd => hex ⟨p, o, v, hp, ho, hd, hv⟩)).mono (Gm.cut_le _ _)
  · have := hh.final (H := addN (flo (P ops.size).A) (P ops.size).B (P ops.size).news) (k := (P ops.size).K) (fun a b e => ?_) (fun a b hab hlt => ?_) (h.domLt hx.lt) (by rw [hSn]; exact hKn)
    · rw [hSf] at this; exact this
    · rcases addN_get e with hb | ⟨p, h1, h2⟩
      · exact ⟨_, .inl ⟨by rw [← hB]; exact hb, rfl⟩⟩
      · obtain ⟨h3, h4, v, h5⟩ := h.news1 (Nat.le_refl _) h1
        refine ⟨_, .inr ⟨p, v, h3, ?_, h5, h4, rfl⟩⟩
        unfold flo at h2
        rw [← hA]
        cases hb : tb (P ops.size).A p with
        | false => rfl
        | true => rw [hb] at h2; cases h2
    · refine addN_base (by rw [hB]; exact hold a b hab hlt) (fun p k o hmem e => ?_)
      obtain ⟨q1, q2, _⟩ := h.news1 (Nat.le_refl _) hmem
      have : (P 0).K.idx ≤ (P p).K.idx := h.K (Nat.zero_le _) (by omega)
      rw [← q2, e, hkz] at this
      omega
end
end Go.AM
