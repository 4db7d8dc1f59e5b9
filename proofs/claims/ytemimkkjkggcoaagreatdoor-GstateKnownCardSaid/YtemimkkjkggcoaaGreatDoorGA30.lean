import Derived.Test.YtemimkkjkggcoaaGreatDoorGA29
/- The slots of a drawn region: who writes and who looks. -/
namespace Go.AM

noncomputable def allI {α : Type} (p : Nat → α → Bool) (l : List α) : Nat → Bool := List.rec (motive := fun _ => Nat → Bool) (fun _ => true) (fun x _ ih i => Bool.rec false (ih (Nat.succ i)) (p i x)) l
theorem allI_ok {α : Type} {p : Nat → α → Bool} : ∀ {l : List α} {k : Nat}, allI p l k = true → ∀ i x, l[i]? = some x → p (k + i) x = true
  | [], k, h, i, x, e => by simp at e
  | y :: l, k, h, i, x, e => by
    have h' : (Bool.rec false (allI p l (k + 1)) (p k y) : Bool) = true := h
    cases hp : p k y with
    | false => rw [hp] at h'; cases h'
    | true =>
      rw [hp] at h'
      cases i with
      | zero => simp at e; subst e; exact hp
      | succ i => have := allI_ok (l := l) h' i x (by simpa using e); rw [show k + (i + 1) = k + 1 + i from by omega]; exact this
noncomputable def memN (x : Nat) (l : List Nat) : Bool := List.rec false (fun y _ ih => Bool.rec ih true (Nat.beq x y)) l
theorem memN_ok {x : Nat} : ∀ {l : List Nat}, x ∈ l → memN x l = true
  | y :: l, h => by
    show (Bool.rec (memN x l) true (Nat.beq x y) : Bool) = true
    cases hb : Nat.beq x y with
    | true => rfl
    | false =>
      rcases List.mem_cons.1 h with rfl | h
      · rw [Nat.beq_refl] at hb; cases hb
      · exact memN_ok h
noncomputable def dstIs (d : Nat) (o : Option Nat) : Bool := Option.rec false (fun e => Nat.beq d e) o
/-- operation i beside operation j with the slot d -/
noncomputable def pairOk (i mi : Nat) (li : List Nat) (di : Option Nat) (j mj : Nat) (oj : Option Nat) : Bool :=
  Option.rec true (fun d => Bool.rec (Bool.rec (Bool.rec true (Bool.rec (tb mj i) true (tb mi j)) (memN d li)) false (dstIs d di)) true (Nat.beq i j)) oj
noncomputable def rowsI (ops : Array Oper) : List Oper → List Nat → List (Nat × List Nat × Option Nat) :=
  fun l => List.rec (motive := fun _ => List Nat → List (Nat × List Nat × Option Nat)) (fun _ => []) (fun o _ ih ms => match ms with | m :: ms => (m, o.looksAt ops, o.dst) :: ih ms | [] => []) l
noncomputable def slots (ops : Array Oper) (ms : List Nat) : Bool :=
  allI (fun i x => allI (fun j y => pairOk i x.1 x.2.1 x.2.2 j y.1 y.2.2) (rowsI ops ops.toList ms) 0) (rowsI ops ops.toList ms) 0
theorem rowsI_get {ops : Array Oper} : ∀ {l : List Oper} {ms : List Nat} {i : Nat} {o : Oper} {m : Nat}, l[i]? = some o → ms[i]? = some m → (rowsI ops l ms)[i]? = some (m, o.looksAt ops, o.dst)
  | [], ms, i, o, m, h, _ => by simp at h
  | o' :: l, [], i, o, m, _, h => by simp at h
  | o' :: l, m' :: ms, i, o, m, h1, h2 => by
    show ((m', o'.looksAt ops, o'.dst) :: rowsI ops l ms)[i]? = _
    cases i with
    | zero => simp at h1 h2; subst h1 h2; rfl
    | succ i => simp at h1 h2 ⊢; exact rowsI_get h1 h2
structure SlotsOk (ops : Array Oper) (ms : List Nat) : Prop where
  apart : ∀ (i j : Nat) (oi oj : Oper) (mi mj d : Nat), ops[i]? = some oi → ops[j]? = some oj → ms[i]? = some mi → ms[j]? = some mj → i ≠ j → oj.dst = some d → oi.dst ≠ some d ∧ (d ∈ oi.looksAt ops → tb mi j = true ∨ tb mj i = true)
theorem slots_ok {ops : Array Oper} {ms : List Nat} (h : slots ops ms = true) : SlotsOk ops ms := by
  refine ⟨fun i j oi oj mi mj d hi hj hmi hmj hne hd => ?_⟩
  have ri := rowsI_get (ops := ops) (l := ops.toList) (by rw [Array.getElem?_toList]; exact hi) hmi
  have rj := rowsI_get (ops := ops) (l := ops.toList) (by rw [Array.getElem?_toList]; exact hj) hmj
  have h1 := allI_ok (allI_ok h i _ ri) j _ rj
  simp only [Nat.zero_add] at h1
  rw [hd] at h1
  have h2 : (Bool.rec (Bool.rec (Bool.rec true (Bool.rec (tb mj i) true (tb mi j)) (memN d (oi.looksAt ops))) false (dstIs d oi.dst)) true (Nat.beq i j) : Bool) = true := h1
  have hb : Nat.beq i j = false := by rw [nat_beq_decide]; simp [hne]
  rw [hb] at h2
  constructor
  · intro e
    rw [e] at h2
    have : dstIs d (some d) = true := Nat.beq_refl d
    rw [this] at h2; cases h2
  · intro hm
    cases hd2 : dstIs d oi.dst with
    | true => rw [hd2] at h2; cases h2
    | false =>
      rw [hd2, memN_ok hm] at h2
      cases h3 : tb mi j with
      | true => exact .inl rfl
      | false => rw [h3] at h2; exact .inr h2
end Go.AM
