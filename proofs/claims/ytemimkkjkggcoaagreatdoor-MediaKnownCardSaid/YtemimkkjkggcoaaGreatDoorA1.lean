import GoSem.Step
import Derived.Calls
/- Data structures of the abstract machine: binary keys, trees, abstract values and objects. -/
namespace Go.AM

/-- binary keys: h is 0, o p is 2p+1, i p is 2p+2 -/
inductive Ps where
  | h | o (p : Ps) | i (p : Ps)
  deriving DecidableEq

namespace Ps
noncomputable def idx (p : Ps) : Nat := Ps.rec 0 (fun _ n => Nat.add (Nat.add n n) 1) (fun _ n => Nat.add (Nat.add n n) 2) p
theorem idx_h : idx h = 0 := rfl
theorem idx_o (p : Ps) : idx (o p) = idx p + idx p + 1 := rfl
theorem idx_i (p : Ps) : idx (i p) = idx p + idx p + 2 := rfl
noncomputable def succ (p : Ps) : Ps := Ps.rec (o h) (fun q _ => i q) (fun _ s => o s) p
theorem idx_succ (p : Ps) : idx (succ p) = idx p + 1 := by
  induction p with
  | h => rfl
  | o p ih => show idx (i p) = _; rw [idx_i, idx_o]
  | i p ih => show idx (o (succ p)) = _; rw [idx_o, idx_i, ih]; omega
theorem idx_inj {p q : Ps} (e : idx p = idx q) : p = q := by
  induction p generalizing q with
  | h => cases q with
    | h => rfl
    | o q => rw [idx_h, idx_o] at e; omega
    | i q => rw [idx_h, idx_i] at e; omega
  | o p ih => cases q with
    | h => rw [idx_h, idx_o] at e; omega
    | o q => rw [idx_o, idx_o] at e; rw [ih (q := q) (by omega)]
    | i q => rw [idx_o, idx_i] at e; omega
  | i p ih => cases q with
    | h => rw [idx_h, idx_i] at e; omega
    | o q => rw [idx_o, idx_i] at e; omega
    | i q => rw [idx_i, idx_i] at e; rw [ih (q := q) (by omega)]
/-- the key of a number -/
noncomputable def ofF (f : Nat) : Nat → Ps :=
  Nat.rec (motive := fun _ => Nat → Ps) (fun _ => h)
    (fun _ ih n => Bool.rec (Bool.rec (i (ih (Nat.sub (Nat.div n 2) 1))) (o (ih (Nat.div n 2))) (Nat.beq (Nat.mod n 2) 1)) h (Nat.beq n 0)) f
noncomputable def of (n : Nat) : Ps := ofF n n
theorem idx_ofF (f : Nat) : ∀ n, n < 2 ^ f → idx (ofF f n) = n := by
  induction f with
  | zero => intro n hn; have : n = 0 := by omega
            subst this; rfl
  | succ f ih =>
    intro n hn
    show idx (Bool.rec (Bool.rec (i (ofF f (Nat.sub (Nat.div n 2) 1))) (o (ofF f (Nat.div n 2))) (Nat.beq (Nat.mod n 2) 1)) h (Nat.beq n 0)) = n
    have e2 : Nat.div n 2 = n / 2 := rfl
    have e3 : Nat.mod n 2 = n % 2 := rfl
    have e4 : Nat.sub (n / 2) 1 = n / 2 - 1 := rfl
    rw [e2, e3, e4]
    cases h0 : Nat.beq n 0 with
    | true => have := Nat.eq_of_beq_eq_true h0; rw [this]; rfl
    | false =>
      have hn0 : n ≠ 0 := fun e => by rw [e] at h0; exact absurd h0 (by decide)
      cases h1 : Nat.beq (n % 2) 1 with
      | true =>
        have h2 := Nat.eq_of_beq_eq_true h1
        show idx (o (ofF f (n / 2))) = n
        rw [idx_o, ih (n / 2) (by rw [Nat.pow_succ] at hn; omega)]; omega
      | false =>
        have h2 : n % 2 ≠ 1 := fun e => by rw [e] at h1; exact absurd h1 (by decide)
        show idx (i (ofF f (n / 2 - 1))) = n
        rw [idx_i, ih (n / 2 - 1) (by rw [Nat.pow_succ] at hn; omega)]; omega
theorem idx_of (n : Nat) : idx (of n) = n := idx_ofF n n Nat.lt_two_pow_self
/-- equality of keys -/
noncomputable def beq (p : Ps) : Ps → Bool :=
  Ps.rec (motive := fun _ => Ps → Bool) (fun q => Ps.rec true (fun _ _ => false) (fun _ _ => false) q)
    (fun _ ih q => Ps.rec false (fun q' _ => ih q') (fun _ _ => false) q)
    (fun _ ih q => Ps.rec false (fun _ _ => false) (fun q' _ => ih q') q) p
theorem beq_eq {p q : Ps} : beq p q = true ↔ p = q := by
  induction p generalizing q with
  | h => cases q <;> simp [beq]
  | o p ih => cases q with
    | h => simp [beq]
    | o q => show beq p q = true ↔ _; rw [ih]; simp
    | i q => simp [beq]
  | i p ih => cases q with
    | h => simp [beq]
    | o q => simp [beq]
    | i q => show beq p q = true ↔ _; rw [ih]; simp
end Ps

/-- trees over binary keys -/
inductive T (α : Type) where
  | e : T α
  | n : T α → Option α → T α → T α

namespace T
variable {α : Type}
noncomputable def get (p : Ps) : T α → Option α :=
  Ps.rec (motive := fun _ => T α → Option α) (fun t => T.rec none (fun _ v _ _ _ => v) t)
    (fun _ ih t => T.rec none (fun l _ _ _ _ => ih l) t) (fun _ ih t => T.rec none (fun _ _ r _ _ => ih r) t) p
noncomputable def put (p : Ps) (x : Option α) : T α → T α :=
  Ps.rec (motive := fun _ => T α → T α) (fun t => T.rec (.n .e x .e) (fun l _ r _ _ => .n l x r) t)
    (fun _ ih t => T.rec (.n (ih .e) none .e) (fun l v r _ _ => .n (ih l) v r) t)
    (fun _ ih t => T.rec (.n .e none (ih .e)) (fun l v r _ _ => .n l v (ih r)) t) p
noncomputable def set (p : Ps) (x : α) (t : T α) : T α := put p (some x) t
noncomputable def del (p : Ps) (t : T α) : T α := put p none t
theorem get_e (p : Ps) : get p (e : T α) = none := by cases p <;> rfl
theorem get_put_same (p : Ps) (x : Option α) (t : T α) : get p (put p x t) = x := by
  induction p generalizing t with
  | h => cases t <;> rfl
  | o p ih => cases t with
    | e => show get p (put p x .e) = x; exact ih _
    | n l v r => show get p (put p x l) = x; exact ih _
  | i p ih => cases t with
    | e => show get p (put p x .e) = x; exact ih _
    | n l v r => show get p (put p x r) = x; exact ih _
theorem get_put_ne {p q : Ps} (hne : p ≠ q) (x : Option α) (t : T α) : get q (put p x t) = get q t := by
  induction p generalizing q t with
  | h => cases q with
    | h => exact absurd rfl hne
    | o q => cases t with
      | e => show get q .e = none; exact get_e q
      | n l v r => rfl
    | i q => cases t with
      | e => show get q .e = none; exact get_e q
      | n l v r => rfl
  | o p ih => cases q with
    | h => cases t <;> rfl
    | o q =>
      have hne' : p ≠ q := fun e => hne (by rw [e])
      cases t with
      | e => show get q (put p x .e) = none; rw [ih hne' .e, get_e]
      | n l v r => show get q (put p x l) = get q l; exact ih hne' l
    | i q => cases t with
      | e => show get q .e = none; exact get_e q
      | n l v r => rfl
  | i p ih => cases q with
    | h => cases t <;> rfl
    | o q => cases t with
      | e => show get q .e = none; exact get_e q
      | n l v r => rfl
    | i q =>
      have hne' : p ≠ q := fun e => hne (by rw [e])
      cases t with
      | e => show get q (put p x .e) = none; rw [ih hne' .e, get_e]
      | n l v r => show get q (put p x r) = get q r; exact ih hne' r
theorem get_set_same (p : Ps) (x : α) (t : T α) : get p (set p x t) = some x := get_put_same p _ t
theorem get_set_ne {p q : Ps} (hne : p ≠ q) (x : α) (t : T α) : get q (set p x t) = get q t := get_put_ne hne _ t
theorem get_del_same (p : Ps) (t : T α) : get p (del p t) = none := get_put_same p _ t
theorem get_del_ne {p q : Ps} (hne : p ≠ q) (t : T α) : get q (del p t) = get q t := get_put_ne hne _ t
end T

/-- lists: the place of a number; replacement -/
noncomputable def nth {α : Type} (l : List α) : Nat → Option α :=
  List.rec (motive := fun _ => Nat → Option α) (fun _ => none) (fun x _ ih n => Nat.rec (some x) (fun m _ => ih m) n) l
theorem nth_eq {α : Type} (l : List α) (n : Nat) : nth l n = l[n]? := by
  induction l generalizing n with
  | nil => rfl
  | cons x l ih => cases n with
    | zero => rfl
    | succ m => show nth l m = _; rw [ih]; rfl
noncomputable def lset {α : Type} (v : α) (l : List α) : Nat → List α :=
  List.rec (motive := fun _ => Nat → List α) (fun _ => []) (fun x t ih n => Nat.rec (v :: t) (fun m _ => x :: ih m) n) l
theorem lset_eq {α : Type} (v : α) (l : List α) (n : Nat) : lset v l n = l.set n v := by
  induction l generalizing n with
  | nil => rfl
  | cons x l ih => cases n with
    | zero => rfl
    | succ m => show x :: lset v l m = _; rw [ih]; rfl
noncomputable def ldrop {α : Type} (n : Nat) : List α → List α :=
  Nat.rec (motive := fun _ => List α → List α) (fun l => l) (fun _ ih l => List.rec [] (fun _ t _ => ih t) l) n
theorem ldrop_eq {α : Type} (n : Nat) (l : List α) : ldrop n l = l.drop n := by
  induction n generalizing l with
  | zero => rfl
  | succ n ih => cases l with
    | nil => rfl
    | cons x t => show ldrop n t = _; rw [ih]; rfl
/-- the first n elements; none if there are fewer -/
noncomputable def ltake {α : Type} (n : Nat) : List α → Option (List α) :=
  Nat.rec (motive := fun _ => List α → Option (List α)) (fun _ => some [])
    (fun _ ih l => List.rec none (fun x t _ => Option.rec none (fun r => some (x :: r)) (ih t)) l) n
theorem ltake_eq {α : Type} {n : Nat} {l r : List α} (h : ltake n l = some r) : r = l.take n ∧ n ≤ l.length := by
  induction n generalizing l r with
  | zero => cases h; exact ⟨rfl, Nat.zero_le _⟩
  | succ n ih => cases l with
    | nil => cases h
    | cons x t =>
      have h' : (Option.rec none (fun r => some (x :: r)) (ltake n t) : Option (List α)) = some r := h
      cases ht : ltake n t with
      | none => rw [ht] at h'; cases h'
      | some r' =>
        rw [ht] at h'; cases h'
        obtain ⟨e, hl⟩ := ih ht
        exact ⟨by rw [e]; rfl, by simp; omega⟩

/-- abstract values -/
inductive AV where
  | int (k : IntKind) (n : Int)
  | bool (b : Bool)
  | flt (k : FloatKind) (b : Nat)
  | str (s : List Nat)
  | nilp
  | ptr (b : Ps) (o : Nat)
  | nils
  /-- a slice whose capacity is known -/
  | sl (b : Ps) (o len cap : Nat)
  /-- a slice with z cells an element, up to the end of a block of unknown length -/
  | su (b : Ps) (o len z : Nat)
  | nilm
  | mp (b : Ps)
  | fn (f : Nat) (first cap : List AV)
  | yl (l : Ps)
  | nilf
  | ifc (t : Nat) (v : AV)
  | nili
  | agg (l : List AV)
  | tup (l : List AV)

/-- abstract objects -/
inductive AO where
  /-- cells; ex: the block holds just these; sty: the block's end is marked; frozen from lo to hi -/
  | cells (c : List AV) (elem : Nat) (ex sty : Bool) (lo hi : Nat)
  | map (es : List (AV × AV × Nat)) (clock : Nat)
  | siter (s : List Nat) (pos : Nat)
  | loop (st : LoopState) (pend : Option Code) (fn nt : Nat) (tm : T AV) (ps : List Nat) (assign body : Code) (dfr : Ps)
  | dfr (taken : Bool)

/-- the abstract heap: its objects, the next key, and the least key that may be written -/
structure Hp where
  hp : T AO
  nx : Ps
  fl : Nat

end Go.AM
