import Derived.Test.YtemimkkjkggcoaaGreatDoorGA28
/- The orders of a drawn region; what must come before what. -/
namespace Go.AM

inductive Valid (ops : Array Oper) : Array Bool → List Nat → Prop where
  | nil {l : Array Bool} (h : Region.ready .any ops l = []) : Valid ops l []
  | cons {l : Array Bool} {i : Nat} {L : List Nat} (h : i ∈ Region.ready .any ops l) (t : Valid ops (l.setIfInBounds i true) L) : Valid ops l (i :: L)

/-- so many of the first m are not yet listed -/
def unl (l : Array Bool) : Nat → Nat
  | 0 => 0
  | m + 1 => unl l m + (if l.getD m true then 0 else 1)
theorem unl_set_ge {l : Array Bool} {i : Nat} : ∀ {m : Nat}, m ≤ i → unl (l.setIfInBounds i true) m = unl l m
  | 0, _ => rfl
  | m + 1, h => by
    unfold unl
    rw [unl_set_ge (Nat.le_of_succ_le h), getD_set_ne true (by omega)]
theorem unl_set_lt {l : Array Bool} {i : Nat} (hi : l.getD i true = false) : ∀ {m : Nat}, i < m → unl (l.setIfInBounds i true) m + 1 = unl l m
  | m + 1, h => by
    unfold unl
    by_cases e : i = m
    · subst e
      rw [unl_set_ge (Nat.le_refl _), hi]
      have : (l.setIfInBounds i true).getD i true = true := by
        rw [Array.getD_eq_getD_getElem?]
        by_cases h : i < l.size
        · rw [Array.getElem?_setIfInBounds_self_of_lt h]; rfl
        · rw [Array.getElem?_eq_none (by simp; omega)]; rfl
      rw [this]; simp
    · have := unl_set_lt hi (m := m) (by omega)
      rw [getD_set_ne true (by omega)]
      omega
theorem unl_zero {l : Array Bool} : ∀ {m : Nat}, unl l m = 0 → ∀ i, i < m → l.getD i true = true
  | m + 1, h, i, hi => by
    unfold unl at h
    by_cases e : i = m
    · subst e
      cases hb : l.getD i true with
      | true => rfl
      | false => rw [hb] at h; simp at h
    · exact unl_zero (m := m) (by omega) i (by omega)
theorem unl_le {l : Array Bool} : ∀ {m : Nat}, unl l m ≤ m
  | 0 => Nat.le_refl _
  | m + 1 => by unfold unl; have := unl_le (l := l) (m := m); split <;> omega

theorem go_valid (ops : Array Oper) : ∀ (fuel t : Nat) (l : Array Bool), unl l ops.size ≤ fuel → Valid ops l (Region.linearise.go .any ops fuel t l [])
  | 0, t, l, h => by
    refine .nil ?_
    have hz := unl_zero (Nat.le_zero.1 h)
    cases hr : Region.ready .any ops l with
    | nil => rfl
    | cons i r =>
      have hm : i ∈ Region.ready .any ops l := by rw [hr]; simp
      obtain ⟨h0, o, ho, _⟩ := mem_ready.1 hm
      rw [hz i (Array.getElem?_eq_some_iff.1 ho).1] at h0; cases h0
  | fuel + 1, t, l, h => by
    have e : Region.linearise.go .any ops (fuel + 1) t l [] = (match (Region.ready .any ops l)[t % (Region.ready .any ops l).length]? with
      | some i => Region.linearise.go .any ops fuel (t / (Region.ready .any ops l).length) (l.setIfInBounds i true) [i]
      | none => []) := by simp only [Region.linearise.go]; rfl
    rw [e]
    split
    · rename_i i hi
      have hm : i ∈ Region.ready .any ops l := List.mem_of_getElem? hi
      obtain ⟨h0, o, ho, _⟩ := mem_ready.1 hm
      rw [linearise_go_acc]
      refine .cons hm (go_valid ops fuel _ _ ?_)
      have := unl_set_lt h0 (Array.getElem?_eq_some_iff.1 ho).1
      omega
    · rename_i hn
      refine .nil ?_
      cases hr : Region.ready .any ops l with
      | nil => rfl
      | cons i r =>
        rw [hr] at hn
        have : t % (i :: r).length < (i :: r).length := Nat.mod_lt _ (by simp)
        rw [List.getElem?_eq_getElem this] at hn; cases hn
theorem schedule_valid (ops : Array Oper) (t : Nat) : Valid ops (Array.replicate ops.size false) (Region.schedule true ops t) := by
  unfold Region.schedule
  simp only [Bool.true_or, if_true]
  exact go_valid ops _ _ _ unl_le

/-! masks -/
noncomputable def tb (m i : Nat) : Bool := Nat.ble 1 (Nat.land 1 (Nat.shiftRight m i))
theorem tb_eq (m i : Nat) : tb m i = m.testBit i := by
  unfold tb Nat.testBit
  show Nat.ble 1 (1 &&& (m >>> i)) = _
  rw [nat_ble_decide]
  cases h : (1 &&& (m >>> i)) with
  | zero => rfl
  | succ n => simp
noncomputable def bit (i : Nat) : Nat := Nat.shiftLeft 1 i
theorem tb_bit (i j : Nat) : tb (bit i) j = decide (i = j) := by
  rw [tb_eq]
  show (1 <<< i).testBit j = _
  rw [Nat.one_shiftLeft, Nat.testBit_two_pow]
theorem tb_or (a b i : Nat) : tb (Nat.lor a b) i = (tb a i || tb b i) := by
  rw [tb_eq, tb_eq, tb_eq]; exact Nat.testBit_or a b i
theorem tb_and (a b i : Nat) : tb (Nat.land a b) i = (tb a i && tb b i) := by
  rw [tb_eq, tb_eq, tb_eq]; exact Nat.testBit_and a b i
theorem tb_zero (i : Nat) : tb 0 i = false := by rw [tb_eq]; simp
noncomputable def subM (a b : Nat) : Bool := Nat.beq (Nat.land a b) a
theorem subM_ok {a b : Nat} (h : subM a b = true) {i : Nat} (hi : tb a i = true) : tb b i = true := by
  have e : Nat.land a b = a := Nat.eq_of_beq_eq_true h
  rw [← e, tb_and] at hi
  simp at hi; exact hi.2
theorem subM_of {a b : Nat} (h : ∀ i, tb a i = true → tb b i = true) : subM a b = true := by
  unfold subM
  have : Nat.land a b = a := by
    apply Nat.eq_of_testBit_eq
    intro i
    have h1 := tb_and a b i
    rw [tb_eq] at h1
    rw [h1, ← tb_eq]
    cases ha : tb a i with
    | false => rfl
    | true => rw [h i ha]; rfl
  rw [this]; exact Nat.beq_refl a

/-- what must come before: of the edges -/
noncomputable def maskE (i : Nat) (ms : List Nat) (l : List Edge) : Option Nat :=
  List.rec (some 0) (fun e _ ih => Bool.rec ih (Option.rec none (fun m => Bool.rec none (Option.rec none (fun m' => some (Nat.lor m (Nat.lor m' (bit e.on)))) (nth ms e.on)) (Nat.blt e.on i)) ih) (Region.binds .any e)) l
/-- what must come before: of the operations. ms: of those ahead, in the order of the text -/
noncomputable def masksG (l : List Oper) : Nat → List Nat → Option (List Nat) :=
  List.rec (motive := fun _ => Nat → List Nat → Option (List Nat)) (fun _ ms => some ms) (fun o _ ih i ms => Option.rec none (fun m => ih (Nat.succ i) (List.append ms [m])) (maskE i ms o.after.toList)) l

theorem maskE_ok {i : Nat} {ms : List Nat} : ∀ {l : List Edge} {m : Nat}, maskE i ms l = some m →
    (∀ e ∈ l, Region.binds .any e = true → e.on < i) ∧ ∀ p, tb m p = true → ∃ e ∈ l, Region.binds .any e = true ∧ (p = e.on ∨ ∃ m', ms[e.on]? = some m' ∧ tb m' p = true)
  | [], m, h => by
    cases h
    exact ⟨fun e he => (by cases he), fun p hp => (by rw [tb_zero] at hp; cases hp)⟩
  | e :: l, m, h => by
    have h' : (Bool.rec (maskE i ms l) (Option.rec none (fun m => Bool.rec none (Option.rec none (fun m' => some (Nat.lor m (Nat.lor m' (bit e.on)))) (nth ms e.on)) (Nat.blt e.on i)) (maskE i ms l)) (Region.binds .any e) : Option Nat) = some m := h
    cases hb : Region.binds .any e with
    | false =>
      rw [hb] at h'
      obtain ⟨g1, g2⟩ := maskE_ok (l := l) (m := m) h'
      refine ⟨fun x hx hbx => ?_, fun p hp => ?_⟩
      · rcases List.mem_cons.1 hx with rfl | hx
        · rw [hb] at hbx; cases hbx
        · exact g1 x hx hbx
      · obtain ⟨x, hx, r⟩ := g2 p hp
        exact ⟨x, List.mem_cons_of_mem _ hx, r⟩
    | true =>
      rw [hb] at h'
      obtain ⟨m1, h1, h2⟩ := recb_ok h'
      obtain ⟨h3, h4⟩ := rec_some h2
      obtain ⟨m2, h5, h6⟩ := recb_ok h4
      cases h6
      rw [nat_blt_decide] at h3
      obtain ⟨g1, g2⟩ := maskE_ok h1
      refine ⟨fun x hx hbx => ?_, fun p hp => ?_⟩
      · rcases List.mem_cons.1 hx with rfl | hx
        · exact of_decide_eq_true h3
        · exact g1 x hx hbx
      · rw [tb_or, tb_or, tb_bit] at hp
        simp only [Bool.or_eq_true, decide_eq_true_eq] at hp
        rcases hp with hp | hp | hp
        · obtain ⟨x, hx, r⟩ := g2 p hp
          exact ⟨x, List.mem_cons_of_mem _ hx, r⟩
        · exact ⟨e, by simp, hb, .inr ⟨m2, by rw [← nth_eq]; exact h5, hp⟩⟩
        · exact ⟨e, by simp, hb, .inl hp.symm⟩
/-- what is known of masks -/
structure MasksOk (ops : List Oper) (ms : List Nat) : Prop where
  len : ms.length = ops.length
  back : ∀ i o, ops[i]? = some o → ∀ e ∈ o.after, Region.binds .any e = true → e.on < i
  bits : ∀ (i : Nat) o m, ops[i]? = some o → ms[i]? = some m → ∀ p, tb m p = true → ∃ e ∈ o.after, Region.binds .any e = true ∧ (p = e.on ∨ ∃ m', ms[e.on]? = some m' ∧ tb m' p = true)
theorem masksG_ok : ∀ (l : List Oper) (pre : List Oper) (ms r : List Nat), masksG l pre.length ms = some r → MasksOk pre ms → MasksOk (pre ++ l) r
  | [], pre, ms, r, h, hm => by cases h; rw [List.append_nil]; exact hm
  | o :: l, pre, ms, r, h, hm => by
    have h' : (Option.rec none (fun m => masksG l (Nat.succ pre.length) (List.append ms [m])) (maskE pre.length ms o.after.toList) : Option (List Nat)) = some r := h
    obtain ⟨m, h1, h2⟩ := recb_ok h'
    obtain ⟨g1, g2⟩ := maskE_ok h1
    have := masksG_ok l (pre ++ [o]) (ms ++ [m]) r (by rw [List.length_append]; exact h2) ⟨by simp [hm.len], fun i x hx e he hb => ?_, fun i x y hx hy p hp => ?_⟩
    · rw [List.append_assoc] at this; exact this
    · by_cases hi : i < pre.length
      · rw [List.getElem?_append_left hi] at hx; exact hm.back i x hx e he hb
      · rw [List.getElem?_append_right (by omega)] at hx
        cases hk : i - pre.length with
        | zero => rw [hk] at hx; simp at hx; subst hx; have := g1 e (by simpa using he) hb; omega
        | succ k => rw [hk] at hx; simp at hx
    · by_cases hi : i < pre.length
      · rw [List.getElem?_append_left hi] at hx
        rw [List.getElem?_append_left (by rw [hm.len]; exact hi)] at hy
        obtain ⟨e, he, hb, r⟩ := hm.bits i x y hx hy p hp
        refine ⟨e, he, hb, r.imp id (fun ⟨m', h1, h2⟩ => ⟨m', ?_, h2⟩)⟩
        rw [List.getElem?_append_left (List.getElem?_eq_some_iff.1 h1).1]; exact h1
      · rw [List.getElem?_append_right (by omega)] at hx
        rw [List.getElem?_append_right (by rw [hm.len]; omega), hm.len] at hy
        cases hk : i - pre.length with
        | zero =>
          rw [hk] at hx hy
          simp at hx hy
          subst hx hy
          obtain ⟨e, he, hb, r⟩ := g2 p hp
          refine ⟨e, by simpa using he, hb, r.imp id (fun ⟨m', h1, h2⟩ => ⟨m', ?_, h2⟩)⟩
          rw [List.getElem?_append_left (List.getElem?_eq_some_iff.1 h1).1]; exact h1
        | succ k => rw [hk] at hx; simp at hx
noncomputable def masks (ops : Array Oper) : Option (List Nat) := masksG ops.toList 0 []
theorem masks_ok {ops : Array Oper} {ms : List Nat} (h : masks ops = some ms) : MasksOk ops.toList ms := by
  have := masksG_ok ops.toList [] [] ms h ⟨rfl, fun i o e => by simp at e, fun i o m e => by simp at e⟩
  simpa using this
end Go.AM
