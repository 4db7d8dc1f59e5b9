import Derived.Test.YtemimkkjkggcoaaGreatDoorGA35
/- The state in the midst of a drawn region. -/
namespace Go.AM

noncomputable def kbL (k : Nat) (l : List AV) : Bool :=
  AV.rec_1 (motive_1 := fun _ => Bool) (motive_2 := fun _ => Bool) (fun _ _ => true) (fun _ => true) (fun _ _ => true) (fun _ => true) true (fun b _ => Nat.blt b.idx k) true (fun b _ _ _ => Nat.blt b.idx k) (fun b _ _ _ => Nat.blt b.idx k) true
    (fun b => Nat.blt b.idx k) (fun _ _ _ x y => Bool.rec false y x) (fun b => Nat.blt b.idx k) true (fun _ _ x => x) true (fun _ x => x) (fun _ x => x) true (fun _ _ x y => Bool.rec false y x) l
theorem kbA_ok {γ : Gm} {k : Nat} {x : AV} {v : Value} (h : VR γ x v) : kbA k x = true → VR (γ.cut k) x v := by
  have blt : ∀ {b : Ps}, Nat.blt b.idx k = true → b.idx < k := fun e => by rw [nat_blt_decide] at e; exact of_decide_eq_true e
  exact VR.rec (γ := γ) (motive_1 := fun x v _ => kbA k x = true → VR (γ.cut k) x v) (motive_2 := fun l l' _ => kbL k l = true → LR (γ.cut k) l l')
    (fun k n _ => .int k n) (fun b _ => .bool b) (fun k b _ => .flt k b) (fun s _ => .str s) (fun _ => .nilp) (fun o h e => .ptr o (Gm.cut_some.2 ⟨blt e, h⟩)) (fun _ => .nils) (fun o l c h e => .sl o l c (Gm.cut_some.2 ⟨blt e, h⟩))
    (fun o l c z h hl hz he e => .su o l c z (Gm.cut_some.2 ⟨blt e, h⟩) hl hz he) (fun _ => .nilm) (fun h e => .mp (Gm.cut_some.2 ⟨blt e, h⟩))
    (fun {l c _ _} f _ _ h hc e => by obtain ⟨h1, h2⟩ := recf (b := kbL k l) (c := kbL k c) e; exact .fn f (h h1) (hc h2)) (fun h e => .yl (Gm.cut_some.2 ⟨blt e, h⟩)) (fun _ => .nilf)
    (fun t _ h e => .ifc t (h e)) (fun _ => .nili) (fun _ h e => .agg (h e)) (fun _ h e => .tup (h e)) (fun _ => .nil)
    (fun {x _ l _} _ _ h t e => by obtain ⟨h1, h2⟩ := recf (b := kbA k x) (c := kbL k l) e; exact .cons (h h1) (t h2)) h

/-! trees that are restricted to some slots -/
noncomputable def restr (tm : Tm) (l : List Nat) : Tm := List.rec te (fun t _ ih => tset t (tget tm t) ih) l
theorem restr_get (tm : Tm) (t : Nat) : ∀ (l : List Nat), tget (restr tm l) t = if t ∈ l then tget tm t else .tup []
  | [] => by show tget te t = _; rw [tget_te]; rfl
  | x :: l => by
    show tget (tset x (tget tm x) (restr tm l)) t = _
    by_cases e : t = x
    · subst e
      rw [if_pos (List.mem_cons_self ..)]
      rw [tget_same]
    · have : tget (tset x (tget tm x) (restr tm l)) t = tget (restr tm l) t := tget_ne (fun e' => e e'.symm) _ _
      rw [this, restr_get tm t l]
      simp [e]

section
variable {CALL : CallF} {E : Env} {nt : Nat} {ops : Array Oper} {fl : Nat} {ms : List Nat} {P : Nat → PSt} {oc : Nat → Oc} {tm0 : Tm} {B0 : T AO} {K0 : Ps} (h : Plan CALL E nt ops fl ms P oc tm0 B0 K0)
variable {X : Nat → Prop} {l : Nat} {γ : Gm} {w : World} {tmps : Array Value} {S : Hp} {γ0 : Gm} {w0 : World}

structure SInv (nt : Nat) (ops : Array Oper) (P : Nat → PSt) (oc : Nat → Oc) (tm0 : Tm) (K0 : Ps) (X : Nat → Prop) (γ : Gm) (tmps : Array Value) : Prop where
  size : tmps.size = nt
  slot : ∀ p o d v, X p → ops[p]? = some o → o.dst = some d → (oc p).val = some v → VR (γ.cut (P (p + 1)).K.idx) v (tmps.getD d Go.undef)
  slot0 : ∀ t, (∀ p o v, X p → ops[p]? = some o → (oc p).val = some v → o.dst ≠ some t) → VR (γ.cut K0.idx) (tget tm0 t) (tmps.getD t Go.undef)
structure XInv (ops : Array Oper) (ms : List Nat) (oc : Nat → Oc) (X : Nat → Prop) (l : Nat) : Prop where
  lt : ∀ i, X i → i < ops.size
  closed : ∀ i m, X i → ms[i]? = some m → ∀ p, tb m p = true → X p
  eff : ∀ e, e < ops.size → (oc e).isEf → (X e ↔ e < l)
  lvl : l = 0 ∨ ∃ e, l = e + 1 ∧ e < ops.size ∧ (oc e).isEf
  live : ∀ i, X i → (oc i).val ≠ none
def Ow (P : Nat → PSt) (oc : Nat → Oc) (X : Nat → Prop) (l : Nat) (a : Ps) (b : AO) (c : Nat) : Prop :=
  (T.get a (P l).B = some b ∧ c = (P l).K.idx) ∨ ∃ p v, X p ∧ tb (P l).A p = false ∧ oc p = .q v (some b) ∧ a = (P p).K ∧ c = (P (p + 1)).K.idx
def Dm (P : Nat → PSt) (X : Nat → Prop) (n : Nat) : Prop := n < (P 0).K.idx ∨ ∃ p, X p ∧ (P p).K.idx ≤ n ∧ n < (P (p + 1)).K.idx
structure RInv (nt : Nat) (ops : Array Oper) (ms : List Nat) (P : Nat → PSt) (oc : Nat → Oc) (tm0 : Tm) (K0 : Ps) (ng : Nat) (S : Hp) (γ0 : Gm) (w0 : World) (X : Nat → Prop) (l : Nat) (γ : Gm) (w : World) (tmps : Array Value) : Prop where
  x : XInv ops ms oc X l
  s : SInv nt ops P oc tm0 K0 X γ tmps
  h : HInv S γ0 w0 ng (Ow P oc X l) (Dm P X) γ w
  old : ∀ a b, T.get a S.hp = some b → a.idx < S.fl → T.get a (P l).B = some b
  fd : ∀ p v b, X p → tb (P l).A p = false → oc p = .q v (some b) → T.get (P p).K (P l).B = none

include h
theorem Plan.newK {p : Nat} (hp : p < ops.size) {v : AV} {b : AO} (ho : oc p = .q v (some b)) : (P (p + 1)).K = Ps.succ (P p).K := by
  obtain ⟨o, m, _, _, h3⟩ := h.at hp
  generalize hs : P (p + 1) = s' at h3
  rw [ho] at h3
  cases h3 with
  | qa _ _ _ _ _ => rfl
theorem Plan.newInj {p q : Nat} (hp : p < ops.size) (hq : q < ops.size) {v v' : AV} {b b' : AO} (ho : oc p = .q v (some b)) (ho' : oc q = .q v' (some b')) (e : (P p).K = (P q).K) : p = q := by
  have h1 := congrArg Ps.idx (h.newK hp ho)
  have h2 := congrArg Ps.idx (h.newK hq ho')
  rw [Ps.idx_succ] at h1 h2
  have e := congrArg Ps.idx e
  rcases Nat.lt_trichotomy p q with hlt | rfl | hlt
  · have := h.K (i := p + 1) (j := q) hlt (by omega); omega
  · rfl
  · have := h.K (i := q + 1) (j := p) hlt (by omega); omega

omit h in
theorem addN_get {f : Nat → Bool} {B : T AO} {a : Ps} {b : AO} : ∀ {l : List (Nat × Ps × AO)}, T.get a (addN f B l) = some b → T.get a B = some b ∨ ∃ p, (p, a, b) ∈ l ∧ f p = true
  | [], e => .inl e
  | (p, k, o) :: l, e => by
    have e' : T.get a (Bool.rec (addN f B l) (T.set k o (addN f B l)) (f p) : T AO) = some b := e
    cases hf : f p with
    | false =>
      rw [hf] at e'
      rcases addN_get (l := l) e' with h | ⟨q, h1, h2⟩
      · exact .inl h
      · exact .inr ⟨q, List.mem_cons_of_mem _ h1, h2⟩
    | true =>
      rw [hf] at e'
      have e' : T.get a (T.set k o (addN f B l)) = some b := e'
      by_cases hk : a = k
      · subst hk
        rw [T.get_set_same] at e'; cases e'
        exact .inr ⟨p, List.mem_cons_self .., hf⟩
      · rw [T.get_set_ne (fun e => hk e.symm)] at e'
        rcases addN_get (l := l) e' with h | ⟨q, h1, h2⟩
        · exact .inl h
        · exact .inr ⟨q, List.mem_cons_of_mem _ h1, h2⟩
omit h in
theorem addN_base {f : Nat → Bool} {B : T AO} {a : Ps} {b : AO} : ∀ {l : List (Nat × Ps × AO)}, T.get a B = some b → (∀ p k o, (p, k, o) ∈ l → k ≠ a) → T.get a (addN f B l) = some b
  | [], e, _ => e
  | (p, k, o) :: l, e, hn => by
    have ih := addN_base (f := f) (l := l) e (fun p k o hm => hn p k o (List.mem_cons_of_mem _ hm))
    show T.get a (Bool.rec (addN f B l) (T.set k o (addN f B l)) (f p) : T AO) = some b
    cases hf : f p with
    | false => exact ih
    | true =>
      show T.get a (T.set k o (addN f B l)) = some b
      rw [T.get_set_ne (hn p k o (List.mem_cons_self ..))]; exact ih
omit h in
theorem vis_iff {m A p : Nat} : vis m A p = true ↔ tb A p = false ∧ tb m p = true := by
  unfold vis
  cases tb A p <;> simp
end
end Go.AM
