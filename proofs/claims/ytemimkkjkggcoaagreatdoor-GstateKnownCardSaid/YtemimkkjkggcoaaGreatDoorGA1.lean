import GoSem.Step
import Derived.Calls
/- Data structures of the abstract machine: binary keys, trees, abstract values and objects. -/
namespace Go.AM

/-- binary keys: h is 0, o p is 2p+1, i p is 2p+2 -/
inductive Ps where
  | h | o (p : Ps) | i (p : Ps)
  deriving DecidableEq

namespace Ps
noncomputable def idx (p : Ps) : Nat := Ps.rec 0 (fun _ n => Nat.add (Nat.add n n) 1) (fun _ n => Nat.add (Nat.add n n) 2) p
theorem idx_h : idx h = 0 := rfl
theorem idx_o (p : Ps) : idx (o p) = idx p + idx p + 1 := rfl
theorem idx_i (p : Ps) : idx (i p) = idx p + idx p + 2 := rfl
noncomputable def succ (p : Ps) : Ps := Ps.rec (o h) (fun q _ => i q) (fun _ s => o s) p
theorem idx_succ (p : Ps) : idx (succ p) = idx p + 1 := by
  induction p with
  | h => rfl
  | o p ih => show idx (i p) = _; rw [idx_i, idx_o]
  | i p ih => show idx (o (succ p)) = _; rw [idx_o, idx_i, ih]; omega
theorem idx_inj {p q : Ps} (e : idx p = idx q) : p = q := by
  induction p generalizing q with
  | h => cases q with
    | h => rfl
    | o q => rw [idx_h, idx_o] at e; omega
    | i q => rw [idx_h, idx_i] at e; omega
  | o p ih => cases q with
    | h => rw [idx_h, idx_o] at e; omega
    | o q => rw [idx_o, idx_o] at e; rw [ih (q := q) (by omega)]
    | i q => rw [idx_o, idx_i] at e; omega
  | i p ih => cases q with
    | h => rw [idx_h, idx_i] at e; omega
    | o q => rw [idx_o, idx_i] at e; omega
    | i q => rw [idx_i, idx_i] at e; rw [ih (q := q) (by omega)]
/-- the key of a number -/
noncomputable def ofF (f : Nat) : Nat → Ps :=
  Nat.rec (motive := fun _ => Nat → Ps) (fun _ => h)
    (fun _ ih n => Bool.rec (Bool.rec (i (ih (Nat.sub (Nat.div n 2) 1))) (o (ih (Nat.div n 2))) (Nat.beq (Nat.mod n 2) 1)) h (Nat.beq n 0)) f
noncomputable def of (n : Nat) : Ps := ofF n n
theorem idx_ofF (f : Nat) : ∀ n, n < 2 ^ f → idx (ofF f n) = n := by
  induction f with
  | zero => intro n hn; have : n = 0 := by omega
            subst this; rfl
  | succ f ih =>
    intro n hn
    show idx (Bool.rec (Bool.rec (i (ofF f (Nat.sub (Nat.div n 2) 1))) (o (ofF f (Nat.div n 2))) (Nat.beq (Nat.mod n 2) 1)) h (Nat.beq n 0)) = n
    have e2 : Nat.div n 2 = n / 2 := rfl
    have e3 : Nat.mod n 2 = n % 2 := rfl
    have e4 : Nat.sub (n / 2) 1 = n / 2 - 1 := rfl
    rw [e2, e3, e4]
    cases h0 : Nat.beq n 0 with
    | true => have := Nat.eq_of_beq_eq_true h0; rw [this]; rfl
    | false =>
      have hn0 : n ≠ 0 := fun e => by rw [e] at h0; exact absurd h0 (by decide)
      cases h1 : Nat.beq (n % 2) 1 with
      | true =>
        have h2 := Nat.eq_of_beq_eq_true h1
        show idx (o (ofF f (n / 2))) = n
        rw [idx_o, ih (n / 2) (by rw [Nat.pow_succ] at hn; omega)]; omega
      | false =>
        have h2 : n % 2 ≠ 1 := fun e => by rw [e] at h1; exact absurd h1 (by decide)
        show idx (i (ofF f (n / 2 - 1))) = n
        rw [idx_i, ih (n / 2 - 1) (by rw [Nat.pow_succ] at hn; omega)]; omega
theorem idx_of (n : Nat) : idx (of n) = n := idx_ofF n n Nat.lt_two_pow_self
/-- equality of keys -/
noncomputable def beq (p : Ps) : Ps → Bool :=
  Ps.rec (motive := fun _ => Ps → Bool) (fun q => Ps.rec true (fun _ _ => false) (fun _ _ => false) q)
    (fun _ ih q => Ps.rec false (fun q' _ => ih q') (fun _ _ => false) q)
    (fun _ ih q => Ps.rec false (fun _ _ => false) (fun q' _ => ih q') q) p
theorem beq_eq {p q : Ps} : beq p q = true ↔ p = q := by
  induction p generalizing q with
  | h => cases q <;> simp [beq]
  | o p ih => cases q with
    | h => simp [beq]
    | o q => show beq p q = true ↔ _; rw [ih]; simp
    | i q => simp [beq]
  | i p ih => cases q with
    | h => simp [beq]
    | o q => simp [beq]
    | i q => show beq p q = true ↔ _; rw [ih]; simp
end Ps

/-- trees over binary keys -/
inductive T (α : Type) where
  | e : T α
  | n : T α → Option α → T α → T α

namespace T
variable {α : Type}
noncomputable def get (p : Ps) : T α → Option α :=
  Ps.rec (motive := fun _ => T α → Option α) (fun t => T.rec none (fun _ v _ _ _ => v) t)
    (fun _ ih t => T.rec none (fun l _ _ _ _ => ih l) t) (fun _ ih t => T.rec none (fun _ _ r _ _ => ih r) t) p
noncomputable def put (p : Ps) (x : Option α) : T α → T α :=
  Ps.rec (motive := fun _ => T α → T α) (fun t => T.rec (.n .e x .e) (fun l _ r _ _ => .n l x r) t)
    (fun _ ih t => T.rec (.n (ih .e) none .e) (fun l v r _ _ => .n (ih l) v r) t)
    (fun _ ih t => T.rec (.n .e none (ih .e)) (fun l v r _ _ => .n l v (ih r)) t) p
noncomputable def set (p : Ps) (x : α) (t : T α) : T α := put p (some x) t
noncomputable def del (p : Ps) (t : T α) : T α := put p none t
theorem get_e (p : Ps) : get p (e : T α) = none := by cases p <;> rfl
theorem get_put_same (p : Ps) (x : Option α) (t : T α) : get p (put p x t) = x := by
  induction p generalizing t with
  | h => cases t <;> rfl
  | o p ih => cases t with
    | e => show get p (put p x .e) = x; exact ih _
    | n l v r => show get p (put p x l) = x; exact ih _
  | i p ih => cases t with
    | e => show get p (put p x .e) = x; exact ih _
    | n l v r => show get p (put p x r) = x; exact ih _
theorem get_put_ne {p q : Ps} (hne : p ≠ q) (x : Option α) (t : T α) : get q (put p x t) = get q t := by
  induction p generalizing q t with
  | h => cases q with
    | h => exact absurd rfl hne
    | o q => cases t with
      | e => show get q .e = none; exact get_e q
      | n l v r => rfl
    | i q => cases t with
      | e => show get q .e = none; exact get_e q
      | n l v r => rfl
  | o p ih => cases q with
    | h => cases t <;> rfl
    | o q =>
      have hne' : p ≠ q := fun e => hne (by rw [e])
      cases t with
      | e => show get q (put p x .e) = none; rw [ih hne' .e, get_e]
      | n l v r => show get q (put p x l) = get q l; exact ih hne' l
    | i q => cases t with
      | e => show get q .e = none; exact get_e q
      | n l v r => rfl
  | i p ih => cases q with
    | h => cases t <;> rfl
    | o q => cases t with
      | e => show get q .e = none; exact get_e q
      | n l v r => rfl
    | i q =>
      have hne' : p ≠ q := fun e => hne (by rw [e])
      cases t with
      | e => show get q (put p x .e) = none; rw [ih hne' .e, get_e]
      | n l v r => show get q (put p x r) = get q r; exact ih hne' r
theorem get_set_same (p : Ps) (x : α) (t : T α) : get p (set p x t) = some x := get_put_same p _ t
theorem get_set_ne {p q : Ps} (hne : p ≠ q) (x : α) (t : T α) : get q (set p x t) = get q t := get_put_ne hne _ t
theorem get_del_same (p : Ps) (t : T α) : get p (del p t) = none := get_put_same p _ t
theorem get_del_ne {p q : Ps} (hne : p ≠ q) (t : T α) : get q (del p t) = get q t := get_put_ne hne _ t
end T

/-- lists: the place of a number; replacement -/
noncomputable def nth {α : Type} (l : List α) : Nat → Option α :=
  List.rec (motive := fun _ => Nat → Option α) (fun _ => none) (fun x _ ih n => Nat.rec (some x) (fun m _ => ih m) n) l
theorem nth_eq {α : Type} (l : List α) (n : Nat) : nth l n = l[n]? := by
  induction l generalizing n with
  | nil => rfl
  | cons x l ih => cases n with
    | zero => rfl
    | succ m => show nth l m = _; rw [ih]; rfl
noncomputable def lset {α : Type} (v : α) (l : List α) : Nat → List α :=
  List.rec (motive := fun _ => Nat → List α) (fun _ => []) (fun x t ih n => Nat.rec (v :: t) (fun m _ => x :: ih m) n) l
theorem lset_eq {α : Type} (v : α) (l : List α) (n : Nat) : lset v l n = l.set n v := by
  induction l generalizing n with
  | nil => rfl
  | cons x l ih => cases n with
    | zero => rfl
    | succ m => show x :: lset v l m = _; rw [ih]; rfl
noncomputable def ldrop {α : Type} (n : Nat) : List α → List α :=
  Nat.rec (motive := fun _ => List α → List α) (fun l => l) (fun _ ih l => List.rec [] (fun _ t _ => ih t) l) n
theorem ldrop_eq {α : Type} (n : Nat) (l : List α) : ldrop n l = l.drop n := by
  induction n generalizing l with
  | zero => rfl
  | succ n ih => cases l with
    | nil => rfl
    | cons x t => show ldrop n t = _; rw [ih]; rfl
/-- what is behind the first n elements, by steps that are shared -/
noncomputable def d1 {α : Type} (l : List α) : List α := List.rec [] (fun _ t _ => t) l
noncomputable def d2 {α : Type} (l : List α) : List α := d1 (d1 l)
noncomputable def d4 {α : Type} (l : List α) : List α := d2 (d2 l)
noncomputable def d8 {α : Type} (l : List α) : List α := d4 (d4 l)
noncomputable def d16 {α : Type} (l : List α) : List α := d8 (d8 l)
theorem d1_eq {α : Type} (l : List α) : d1 l = l.drop 1 := by cases l <;> rfl
theorem d2_eq {α : Type} (l : List α) : d2 l = l.drop 2 := by unfold d2; rw [d1_eq, d1_eq, List.drop_drop]
theorem d4_eq {α : Type} (l : List α) : d4 l = l.drop 4 := by unfold d4; rw [d2_eq, d2_eq, List.drop_drop]
theorem d8_eq {α : Type} (l : List α) : d8 l = l.drop 8 := by unfold d8; rw [d4_eq, d4_eq, List.drop_drop]
theorem d16_eq {α : Type} (l : List α) : d16 l = l.drop 16 := by unfold d16; rw [d8_eq, d8_eq, List.drop_drop]
noncomputable def dN {α : Type} (k : Nat) (l : List α) : List α := Nat.rec l (fun _ x => d16 x) k
theorem dN_eq {α : Type} (k : Nat) (l : List α) : dN k l = l.drop (16 * k) := by
  induction k with
  | zero => rfl
  | succ k ih => show d16 (dN k l) = _; rw [ih, d16_eq, List.drop_drop]; rfl
noncomputable def ldropF {α : Type} (n : Nat) (l : List α) : List α :=
  (fun x => Bool.rec x (d1 x) (Nat.ble 1 (Nat.mod n 2))) ((fun x => Bool.rec x (d2 x) (Nat.ble 2 (Nat.mod n 4))) ((fun x => Bool.rec x (d4 x) (Nat.ble 4 (Nat.mod n 8))) ((fun x => Bool.rec x (d8 x) (Nat.ble 8 (Nat.mod n 16))) (dN (Nat.div n 16) l))))
theorem bstep {α : Type} (f : List α → List α) (k m : Nat) (hf : ∀ l, f l = l.drop k) (x : List α) : (Bool.rec x (f x) (Nat.ble k m) : List α) = x.drop (if k ≤ m then k else 0) := by
  cases h : Nat.ble k m with
  | true => rw [if_pos (Nat.le_of_ble_eq_true h)]; exact hf x
  | false => rw [if_neg (fun e => by rw [Nat.ble_eq_true_of_le e] at h; cases h)]; rfl
theorem ldropF_eq {α : Type} (n : Nat) (l : List α) : ldropF n l = l.drop n := by
  unfold ldropF
  simp only [bstep d1 1 _ d1_eq, bstep d2 2 _ d2_eq, bstep d4 4 _ d4_eq, bstep d8 8 _ d8_eq, dN_eq, List.drop_drop]
  have e1 : Nat.mod n 2 = n % 2 := rfl
  have e2 : Nat.mod n 4 = n % 4 := rfl
  have e3 : Nat.mod n 8 = n % 8 := rfl
  have e4 : Nat.mod n 16 = n % 16 := rfl
  have e5 : Nat.div n 16 = n / 16 := rfl
  rw [e1, e2, e3, e4, e5]
  congr 1
  split <;> split <;> split <;> split <;> omega
noncomputable def nthF {α : Type} (l : List α) (n : Nat) : Option α := List.rec none (fun x _ _ => some x) (ldropF n l)
theorem nthF_eq {α : Type} (l : List α) (n : Nat) : nthF l n = nth l n := by
  unfold nthF
  rw [ldropF_eq, nth_eq]
  have : l[n]? = (l.drop n)[0]? := by rw [List.getElem?_drop, Nat.add_zero]
  rw [this]
  cases l.drop n <;> rfl
/-- the first n elements; none if there are fewer -/
noncomputable def ltake {α : Type} (n : Nat) : List α → Option (List α) :=
  Nat.rec (motive := fun _ => List α → Option (List α)) (fun _ => some [])
    (fun _ ih l => List.rec none (fun x t _ => Option.rec none (fun r => some (x :: r)) (ih t)) l) n
theorem ltake_eq {α : Type} {n : Nat} {l r : List α} (h : ltake n l = some r) : r = l.take n ∧ n ≤ l.length := by
  induction n generalizing l r with
  | zero => cases h; exact ⟨rfl, Nat.zero_le _⟩
  | succ n ih => cases l with
    | nil => cases h
    | cons x t =>
      have h' : (Option.rec none (fun r => some (x :: r)) (ltake n t) : Option (List α)) = some r := h
      cases ht : ltake n t with
      | none => rw [ht] at h'; cases h'
      | some r' =>
        rw [ht] at h'; cases h'
        obtain ⟨e, hl⟩ := ih ht
        exact ⟨by rw [e]; rfl, by simp; omega⟩

noncomputable def llen {α : Type} (l : List α) : Nat := List.rec 0 (fun _ _ n => Nat.add n 1) l
theorem llen_eq {α : Type} (l : List α) : llen l = l.length := by
  induction l with
  | nil => rfl
  | cons x l ih => show Nat.add (llen l) 1 = _; rw [ih]; rfl
/-- the first n behind off; the whole list as it is -/
noncomputable def ltakeF {α : Type} (n off : Nat) (l : List α) : Option (List α) :=
  Bool.rec (ltake n (ldropF off l)) (Bool.rec (ltake n l) (some l) (Nat.beq (llen l) n)) (Nat.beq off 0)
theorem ltake_all {α : Type} (l : List α) : ltake l.length l = some l := by
  induction l with
  | nil => rfl
  | cons x l ih =>
    show (Option.rec none (fun r => some (x :: r)) (ltake l.length l) : Option (List α)) = _
    rw [ih]
theorem ltakeF_eq {α : Type} (n off : Nat) (l : List α) : ltakeF n off l = ltake n (ldrop off l) := by
  unfold ltakeF
  rw [ldropF_eq, ldrop_eq]
  cases h : Nat.beq off 0 with
  | false => rfl
  | true =>
    have h0 := Nat.eq_of_beq_eq_true h
    subst h0
    rw [List.drop_zero]
    cases h1 : Nat.beq (llen l) n with
    | false => rfl
    | true =>
      have h2 := Nat.eq_of_beq_eq_true h1
      rw [llen_eq] at h2
      subst h2
      exact (ltake_all l).symm
/-- abstract values -/
inductive AV where
  | int (k : IntKind) (n : Int)
  | bool (b : Bool)
  | flt (k : FloatKind) (b : Nat)
  | str (s : List Nat)
  | nilp
  | ptr (b : Ps) (o : Nat)
  | nils
  /-- a slice whose capacity is known -/
  | sl (b : Ps) (o len cap : Nat)
  /-- a slice with z cells an element, up to the end of a block of unknown length -/
  | su (b : Ps) (o len z : Nat)
  | nilm
  | mp (b : Ps)
  | fn (f : Nat) (first cap : List AV)
  | yl (l : Ps)
  | nilf
  | ifc (t : Nat) (v : AV)
  | nili
  | agg (l : List AV)
  | tup (l : List AV)

/-! what a value is made of -/
noncomputable def intOf (a : AV) : Option (Go.IntKind × Int) :=
  AV.rec (motive_1 := fun _ => Option (Go.IntKind × Int)) (motive_2 := fun _ => Unit) (fun k n => some (k, n)) (fun _ => none) (fun _ _ => none) (fun _ => none) none (fun _ _ => none) none (fun _ _ _ _ => none) (fun _ _ _ _ => none) none (fun _ => none) (fun _ _ _ _ _ => none) (fun _ => none) none (fun _ _ _ => none) none (fun _ _ => none) (fun _ _ => none) () (fun _ _ _ _ => ()) a
noncomputable def strOf (a : AV) : Option (List Nat) :=
  AV.rec (motive_1 := fun _ => Option (List Nat)) (motive_2 := fun _ => Unit) (fun _ _ => none) (fun _ => none) (fun _ _ => none) (fun s => some s) none (fun _ _ => none) none (fun _ _ _ _ => none) (fun _ _ _ _ => none) none (fun _ => none) (fun _ _ _ _ _ => none) (fun _ => none) none (fun _ _ _ => none) none (fun _ _ => none) (fun _ _ => none) () (fun _ _ _ _ => ()) a
noncomputable def ptrOf (a : AV) : Option (Ps × Nat) :=
  AV.rec (motive_1 := fun _ => Option (Ps × Nat)) (motive_2 := fun _ => Unit) (fun _ _ => none) (fun _ => none) (fun _ _ => none) (fun _ => none) none (fun b o => some (b, o)) none (fun _ _ _ _ => none) (fun _ _ _ _ => none) none (fun _ => none) (fun _ _ _ _ _ => none) (fun _ => none) none (fun _ _ _ => none) none (fun _ _ => none) (fun _ _ => none) () (fun _ _ _ _ => ()) a
noncomputable def aggOf (a : AV) : Option (List AV) :=
  AV.rec (motive_1 := fun _ => Option (List AV)) (motive_2 := fun _ => Unit) (fun _ _ => none) (fun _ => none) (fun _ _ => none) (fun _ => none) none (fun _ _ => none) none (fun _ _ _ _ => none) (fun _ _ _ _ => none) none (fun _ => none) (fun _ _ _ _ _ => none) (fun _ => none) none (fun _ _ _ => none) none (fun l _ => some l) (fun _ _ => none) () (fun _ _ _ _ => ()) a
noncomputable def boolOf (a : AV) : Option Bool :=
  AV.rec (motive_1 := fun _ => Option Bool) (motive_2 := fun _ => Unit) (fun _ _ => none) (fun b => some b) (fun _ _ => none) (fun _ => none) none (fun _ _ => none) none (fun _ _ _ _ => none) (fun _ _ _ _ => none) none (fun _ => none) (fun _ _ _ _ _ => none) (fun _ => none) none (fun _ _ _ => none) none (fun _ _ => none) (fun _ _ => none) () (fun _ _ _ _ => ()) a
noncomputable def lapp {α : Type} (a b : List α) : List α := List.rec b (fun x _ ih => x :: ih) a
theorem lapp_eq {α : Type} (a b : List α) : lapp a b = List.append a b := by
  induction a with
  | nil => rfl
  | cons x a ih => show x :: lapp a b = _; rw [ih]; rfl

/-! the temporaries: four by four -/
structure Q (α : Type) where
  a : α
  b : α
  c : α
  d : α
/-- how one place is read and written -/
structure Acc (D : Type) where
  g : D → AV
  s : AV → D → D
noncomputable def accL {D : Type} (sub : Nat → Acc D) (i : Nat) : Acc (Q D) :=
  Bool.rec (Bool.rec (Bool.rec
      ⟨fun t => (sub (Nat.div i 4)).g t.d, fun v t => ⟨t.a, t.b, t.c, (sub (Nat.div i 4)).s v t.d⟩⟩
      ⟨fun t => (sub (Nat.div i 4)).g t.c, fun v t => ⟨t.a, t.b, (sub (Nat.div i 4)).s v t.c, t.d⟩⟩ (Nat.beq (Nat.mod i 4) 2))
      ⟨fun t => (sub (Nat.div i 4)).g t.b, fun v t => ⟨t.a, (sub (Nat.div i 4)).s v t.b, t.c, t.d⟩⟩ (Nat.beq (Nat.mod i 4) 1))
      ⟨fun t => (sub (Nat.div i 4)).g t.a, fun v t => ⟨(sub (Nat.div i 4)).s v t.a, t.b, t.c, t.d⟩⟩ (Nat.beq (Nat.mod i 4) 0)
noncomputable def acc0 (_ : Nat) : Acc AV := ⟨fun t => t, fun v _ => v⟩
structure AccOk {D : Type} (sub : Nat → Acc D) (N : Nat) (z : D) : Prop where
  same : ∀ i v t, (sub i).g ((sub i).s v t) = v
  ne : ∀ i j v t, i < N → j < N → i ≠ j → (sub j).g ((sub i).s v t) = (sub j).g t
  zero : ∀ i, (sub i).g z = .tup []
theorem accL_cases {D : Type} (sub : Nat → Acc D) (i : Nat) :
    (i % 4 = 0 ∧ accL sub i = ⟨fun t => (sub (i / 4)).g t.a, fun v t => ⟨(sub (i / 4)).s v t.a, t.b, t.c, t.d⟩⟩) ∨
    (i % 4 = 1 ∧ accL sub i = ⟨fun t => (sub (i / 4)).g t.b, fun v t => ⟨t.a, (sub (i / 4)).s v t.b, t.c, t.d⟩⟩) ∨
    (i % 4 = 2 ∧ accL sub i = ⟨fun t => (sub (i / 4)).g t.c, fun v t => ⟨t.a, t.b, (sub (i / 4)).s v t.c, t.d⟩⟩) ∨
    (i % 4 = 3 ∧ accL sub i = ⟨fun t => (sub (i / 4)).g t.d, fun v t => ⟨t.a, t.b, t.c, (sub (i / 4)).s v t.d⟩⟩) := by
  have hm : i % 4 < 4 := Nat.mod_lt _ (by decide)
  have e : Nat.mod i 4 = i % 4 := rfl
  have e2 : Nat.div i 4 = i / 4 := rfl
  unfold accL
  rw [e, e2]
  match h : i % 4, hm with
  | 0, _ => exact .inl ⟨rfl, rfl⟩
  | 1, _ => exact .inr (.inl ⟨rfl, rfl⟩)
  | 2, _ => exact .inr (.inr (.inl ⟨rfl, rfl⟩))
  | 3, _ => exact .inr (.inr (.inr ⟨rfl, rfl⟩))
theorem accL_ok {D : Type} {sub : Nat → Acc D} {N : Nat} {z : D} (h : AccOk sub N z) : AccOk (accL sub) (4 * N) ⟨z, z, z, z⟩ := by
  refine ⟨fun i v t => ?_, fun i j v t hi hj hij => ?_, fun i => ?_⟩
  · rcases accL_cases sub i with ⟨_, e⟩ | ⟨_, e⟩ | ⟨_, e⟩ | ⟨_, e⟩ <;> rw [e] <;> exact h.same _ _ _
  · have hd : i % 4 = j % 4 → i / 4 ≠ j / 4 := fun e e' => hij (by omega)
    have li : i / 4 < N := by omega
    have lj : j / 4 < N := by omega
    rcases accL_cases sub i with ⟨m, e⟩ | ⟨m, e⟩ | ⟨m, e⟩ | ⟨m, e⟩ <;> rcases accL_cases sub j with ⟨m', e'⟩ | ⟨m', e'⟩ | ⟨m', e'⟩ | ⟨m', e'⟩ <;> rw [e, e'] <;> first
      | rfl
      | exact h.ne _ _ _ _ li lj (hd (by omega))
  · rcases accL_cases sub i with ⟨_, e⟩ | ⟨_, e⟩ | ⟨_, e⟩ | ⟨_, e⟩ <;> rw [e] <;> exact h.zero _
theorem acc0_ok : AccOk acc0 1 (.tup []) := ⟨fun _ _ _ => rfl, fun i j _ _ hi hj hij => absurd (by omega) hij, fun _ => rfl⟩
abbrev D5 := Q (Q (Q (Q (Q AV))))
/-- 1024 temporaries, and the others -/
structure Tm where
  m : D5
  x : T AV
noncomputable def acc5 : Nat → Acc D5 := accL (accL (accL (accL (accL acc0))))
noncomputable def z1 : Q AV := ⟨.tup [], .tup [], .tup [], .tup []⟩
noncomputable def z2 : Q (Q AV) := ⟨z1, z1, z1, z1⟩
noncomputable def z3 : Q (Q (Q AV)) := ⟨z2, z2, z2, z2⟩
noncomputable def z4 : Q (Q (Q (Q AV))) := ⟨z3, z3, z3, z3⟩
noncomputable def z5 : D5 := ⟨z4, z4, z4, z4⟩
theorem acc5_ok : AccOk acc5 1024 z5 := accL_ok (accL_ok (accL_ok (accL_ok (accL_ok acc0_ok))))
noncomputable def accT (i : Nat) : Acc Tm :=
  Bool.rec ⟨fun t => Option.rec (.tup []) (fun v => v) (T.get (Ps.of i) t.x), fun v t => ⟨t.m, T.set (Ps.of i) v t.x⟩⟩
    ⟨fun t => (acc5 i).g t.m, fun v t => ⟨(acc5 i).s v t.m, t.x⟩⟩ (Nat.blt i 1024)
noncomputable def tget (t : Tm) (i : Nat) : AV := (accT i).g t
noncomputable def tset (i : Nat) (v : AV) (t : Tm) : Tm := (accT i).s v t
noncomputable def te : Tm := ⟨z5, .e⟩
theorem accT_cases (i : Nat) : (i < 1024 ∧ accT i = ⟨fun t => (acc5 i).g t.m, fun v t => ⟨(acc5 i).s v t.m, t.x⟩⟩) ∨
    (¬ i < 1024 ∧ accT i = ⟨fun t => Option.rec (.tup []) (fun v => v) (T.get (Ps.of i) t.x), fun v t => ⟨t.m, T.set (Ps.of i) v t.x⟩⟩) := by
  unfold accT
  cases h : Nat.blt i 1024 with
  | true => exact .inl ⟨(by rw [Nat.blt_eq] at h; exact h), rfl⟩
  | false => exact .inr ⟨fun e => (by rw [← Nat.blt_eq] at e; rw [e] at h; cases h), rfl⟩
theorem tget_same (i : Nat) (v : AV) (t : Tm) : tget (tset i v t) i = v := by
  unfold tget tset
  rcases accT_cases i with ⟨_, e⟩ | ⟨_, e⟩ <;> rw [e]
  · exact acc5_ok.same _ _ _
  · show (Option.rec (.tup []) (fun v => v) (T.get (Ps.of i) (T.set (Ps.of i) v t.x)) : AV) = v
    rw [T.get_set_same]
theorem tget_ne {i j : Nat} (h : i ≠ j) (v : AV) (t : Tm) : tget (tset i v t) j = tget t j := by
  unfold tget tset
  rcases accT_cases i with ⟨h1, e⟩ | ⟨h1, e⟩ <;> rcases accT_cases j with ⟨h2, e'⟩ | ⟨h2, e'⟩ <;> rw [e, e']
  · exact acc5_ok.ne _ _ _ _ h1 h2 h
  · show (Option.rec (.tup []) (fun v => v) (T.get (Ps.of j) (T.set (Ps.of i) v t.x)) : AV) = _
    rw [T.get_set_ne (fun e' => h (by have := congrArg Ps.idx e'; rwa [Ps.idx_of, Ps.idx_of] at this))]
theorem tget_te (i : Nat) : tget te i = .tup [] := by
  unfold tget te
  rcases accT_cases i with ⟨_, e⟩ | ⟨_, e⟩ <;> rw [e]
  · exact acc5_ok.zero _
  · show (Option.rec (.tup []) (fun v => v) (T.get (Ps.of i) (.e : T AV)) : AV) = _
    rw [T.get_e]

/-- abstract objects -/
inductive AO where
  /-- cells; ex: the block holds just these; sty: the block's end is marked; frozen from lo to hi -/
  | cells (c : List AV) (elem : Nat) (ex sty : Bool) (lo hi : Nat)
  | map (es : List (AV × AV × Nat)) (clock : Nat)
  | siter (s : List Nat) (pos : Nat)
  | loop (st : LoopState) (pend : Option Code) (fn nt : Nat) (tm : Tm) (ps : List Nat) (assign body : Code) (dfr : Ps)
  | dfr (taken : Bool)

/-- the abstract heap: its objects, the next key, and the least key that may be written -/
structure Hp where
  hp : T AO
  nx : Ps
  fl : Nat

end Go.AM
