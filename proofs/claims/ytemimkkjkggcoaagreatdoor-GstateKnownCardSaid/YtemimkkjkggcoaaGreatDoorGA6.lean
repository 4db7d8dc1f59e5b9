import Derived.Test.YtemimkkjkggcoaaGreatDoorGA5
/- Equality, arithmetic, conversions that do not touch the heap. -/
namespace Go.AM

/-! equality -/
noncomputable def eqFs (E : Env) (f : Nat → AV → AV → Option Bool) (xs ys : List AV) (fs : List Field) : Option Bool :=
  List.rec (some true) (fun g _ ih =>
    match decide (g.name = "_") with
    | true => ih
    | false => (match partA E g.type xs g.offset, partA E g.type ys g.offset with
      | some a, some b => (match f g.type a b with | some true => ih | some false => some false | none => none)
      | _, _ => none)) fs
noncomputable def eqEs (E : Env) (f : Nat → AV → AV → Option Bool) (e n : Nat) (len : Nat) : Nat → List AV → List AV → Option Bool :=
  Nat.rec (motive := fun _ => Nat → List AV → List AV → Option Bool) (fun _ _ _ => some true) (fun _ ih i xs ys =>
    match partA E e xs (i * n), partA E e ys (i * n) with
    | some a, some b => (match f e a b with | some true => ih (i + 1) xs ys | some false => some false | none => none)
    | _, _ => none) len
noncomputable def eqS (E : Env) (ih : Nat → AV → AV → Option Bool) (t : Nat) (d : TypeDesc) (x y : AV) : Option Bool :=
  match d with
  | .bool => (match x, y with | .bool a, .bool b => some (a == b) | _, _ => none)
  | .int _ => (match x, y with | .int k a, .int l b => Bool.rec none (some (ieq a b)) (Nat.beq (kno k) (kno l)) | _, _ => none)
  | .string => (match x, y with | .str a, .str b => some (seq a b) | _, _ => none)
  | .pointer e => (match x, y with
      | .nilp, .nilp => some true
      | .nilp, .ptr _ _ => some false
      | .ptr _ _, .nilp => some false
      | .ptr a o, .ptr b o' => (match Ps.beq a b, sizeA E e with | true, some (_ + 1) => some (Nat.beq o o') | _, _ => none)
      | _, _ => none)
  | .slice _ => (match x, y with
      | .nils, .nils => some true
      | .nils, .sl _ _ _ _ => some false
      | .nils, .su _ _ _ _ => some false
      | .sl _ _ _ _, .nils => some false
      | .su _ _ _ _, .nils => some false
      | _, _ => none)
  | .func _ _ _ => (match x, y with
      | .nilf, .nilf => some true
      | .nilf, .fn _ _ _ => some false
      | .fn _ _ _, .nilf => some false
      | .nilf, .yl _ => some false
      | .yl _, .nilf => some false
      | _, _ => none)
  | .map _ _ => (match x, y with
      | .nilm, .nilm => some true
      | .nilm, .mp _ => some false
      | .mp _, .nilm => some false
      | _, _ => none)
  | .interface _ => (match x, y with
      | .nili, .nili => some true
      | .nili, .ifc _ _ => some false
      | .ifc _ _, .nili => some false
      | .ifc t a, .ifc u b => (match Nat.beq t u with
          | false => some false
          | true => (match info E t with | some i => (match i.comparable with | true => ih t a b | false => none) | none => none))
      | _, _ => none)
  | .struct fs => (match x, y with
      | .agg a, .agg b => (match E.P.stoodInHeld t with | true => none | false => eqFs E ih a b fs.toList)
      | _, _ => none)
  | .array len e => (match x, y, sizeA E e with
      | .agg a, .agg b, some n => eqEs E ih e n len 0 a b
      | _, _, _ => none)
  | _ => none
noncomputable def eqV (E : Env) (n : Nat) : Nat → AV → AV → Option Bool :=
  Nat.rec (motive := fun _ => Nat → AV → AV → Option Bool) (fun _ _ _ => none)
    (fun _ ih t x y => match und E t with | some d => eqS E ih t d x y | none => none) n

/-- what an operation that leaves the world alone gives -/
def Gives (P : Program) (γ : Gm) (s : Sem Value) (x : AV) : Prop := ∀ w, ∃ v, s.run P w = .ok v w ∧ VR γ x v
def GivesB (P : Program) (s : Sem Bool) (b : Bool) : Prop := ∀ w, s.run P w = .ok b w

section
variable {E : Env} (hE : E.Ok) {γ : Gm}
include hE

theorem eqFs_ok {f : Nat → AV → AV → Option Bool} {d : Nat} (hf : ∀ t x y b x' y', f t x y = some b → VR γ x x' → VR γ y y' → GivesB E.P (Op.equalIn d t x' y') b) {xs ys : List AV} {xs' ys' : List Value}
    (hx : LR γ xs xs') (hy : LR γ ys ys') : ∀ (fs : List Field) (b : Bool), eqFs E f xs ys fs = some b → GivesB E.P (Op.eqFields d ⟨xs'⟩ ⟨ys'⟩ fs) b
  | [], b, h => by cases h; intro w; rfl
  | g :: fs, b, h => by
    intro w
    have h' : (match decide (g.name = "_") with
      | true => eqFs E f xs ys fs
      | false => (match partA E g.type xs g.offset, partA E g.type ys g.offset with
        | some a, some b => (match f g.type a b with | some true => eqFs E f xs ys fs | some false => some false | none => none)
        | _, _ => none)) = some b := h
    cases hd : decide (g.name = "_") with
    | true =>
      rw [hd] at h'
      have e : g.name = "_" := of_decide_eq_true hd
      simp only [Op.eqFields, e, ne_eq, not_true_eq_false, if_false]
      exact eqFs_ok hf hx hy fs b h' w
    | false =>
      rw [hd] at h'
      have e : g.name ≠ "_" := of_decide_eq_false hd
      cases h1 : partA E g.type xs g.offset with
      | none => rw [h1] at h'; simp at h'
      | some a =>
        cases h2 : partA E g.type ys g.offset with
        | none => rw [h1, h2] at h'; simp at h'
        | some c =>
          rw [h1, h2] at h'
          simp only at h'
          obtain ⟨a', ra, va⟩ := part_ok hE hx h1 w
          obtain ⟨c', rc, vc⟩ := part_ok hE hy h2 w
          simp only [Op.eqFields, e, ne_eq, not_false_eq_true, if_true, Sem.run_bind, ra, rc, Result.andThen_ok]
          cases h3 : f g.type a c with
          | none => rw [h3] at h'; simp at h'
          | some r =>
            rw [h3] at h'
            rw [hf _ _ _ _ _ _ h3 va vc w]
            cases r with
            | false => simp at h'; subst h'; rfl
            | true => exact eqFs_ok hf hx hy fs b h' w

theorem eqEs_ok {f : Nat → AV → AV → Option Bool} {d : Nat} (hf : ∀ t x y b x' y', f t x y = some b → VR γ x x' → VR γ y y' → GivesB E.P (Op.equalIn d t x' y') b) {xs ys : List AV} {xs' ys' : List Value}
    (hx : LR γ xs xs') (hy : LR γ ys ys') (e n : Nat) : ∀ (len i : Nat) (b : Bool), eqEs E f e n len i xs ys = some b → ∀ w,
      (forIn (List.range' i len) ((none, ()) : Option Bool × Unit) (fun (j : Nat) (_ : Option Bool × Unit) => do
        let a ← Go.part e ⟨xs'⟩ (j * n)
        let c ← Go.part e ⟨ys'⟩ (j * n)
        let r ← Op.equalIn d e a c
        if (!r) = true then pure (ForInStep.done (some false, ())) else pure (ForInStep.yield (none, ()))) : Sem (Option Bool × Unit)).run E.P w = .ok (if b then (none, ()) else (some false, ())) w
  | 0, i, b, h, w => by cases h; rfl
  | len + 1, i, b, h, w => by
    have h' : (match partA E e xs (i * n), partA E e ys (i * n) with
      | some a, some c => (match f e a c with | some true => eqEs E f e n len (i + 1) xs ys | some false => some false | none => none)
      | _, _ => none) = some b := h
    cases h1 : partA E e xs (i * n) with
    | none => rw [h1] at h'; simp at h'
    | some a =>
      cases h2 : partA E e ys (i * n) with
      | none => rw [h1, h2] at h'; simp at h'
      | some c =>
        rw [h1, h2] at h'
        simp only at h'
        obtain ⟨a', ra, va⟩ := part_ok hE hx h1 w
        obtain ⟨c', rc, vc⟩ := part_ok hE hy h2 w
        rw [List.range'_succ, List.forIn_cons]
        simp only [Sem.run_bind, ra, rc, Result.andThen_ok]
        cases h3 : f e a c with
        | none => rw [h3] at h'; simp at h'
        | some r =>
          rw [h3] at h'
          rw [hf _ _ _ _ _ _ h3 va vc w]
          cases r with
          | false => simp at h'; subst h'; rfl
          | true => exact eqEs_ok hf hx hy e n len (i + 1) b h' w

set_option maxHeartbeats 4000000 in
theorem eqS_ok {ih : Nat → AV → AV → Option Bool} {d : Nat} (hf : ∀ t x y b x' y', ih t x y = some b → VR γ x x' → VR γ y y' → GivesB E.P (Op.equalIn d t x' y') b)
    {t : Nat} {D : TypeDesc} (hD : und E t = some D) {x y : AV} {b : Bool} (h : eqS E ih t D x y = some b) {x' y' : Value} (hx : VR γ x x') (hy : VR γ y y') :
    GivesB E.P (Op.equalIn (d + 1) t x' y') b := by
  intro w
  have hu := run_und hE hD w
  cases D with
  | bool =>
    simp only [eqS] at h
    split at h <;> cases h
    cases hx; cases hy
    simp [Op.equalIn, hu]
  | int k =>
    simp only [eqS] at h
    split at h
    · rename_i k1 a l1 c
      cases hk : Nat.beq (kno k1) (kno l1) with
      | false => rw [hk] at h; cases h
      | true =>
        rw [hk] at h; cases h
        have := kno_inj hk
        subst this
        cases hx; cases hy
        simp [Op.equalIn, hu, ieq_eq]
    · cases h
  | string =>
    simp only [eqS] at h
    split at h <;> cases h
    cases hx; cases hy
    rename_i a c
    simp only [Op.equalIn, Sem.run_bind, hu, Result.andThen_ok]
    rw [beq_toListBytes, bytes_toList_beq]; rfl
  | pointer e =>
    simp only [eqS] at h
    split at h
    · cases h; cases hx; cases hy; simp [Op.equalIn, hu]
    · cases h; cases hx; cases hy; simp [Op.equalIn, hu]
    · cases h; cases hx; cases hy; simp [Op.equalIn, hu]
    · rename_i a o c o'
      split at h
      · rename_i n hab hs
        cases h
        rw [Ps.beq_eq] at hab
        subst hab
        cases hx with
        | ptr _ h1 => cases hy with
          | ptr _ h2 =>
            rw [h1] at h2; cases h2
            simp only [Op.equalIn, Sem.run_bind, hu, run_size hE hs, Result.andThen_ok]
            rw [nat_beq_decide]
            simp [sameAddr]
            rw [Bool.eq_iff_iff]; simp
      · cases h
    · cases h
  | slice e =>
    simp only [eqS] at h
    split at h <;> first | (cases h; done) | (cases h; cases hx; cases hy; simp [Op.equalIn, hu])
  | func a c v =>
    simp only [eqS] at h
    split at h <;> first | (cases h; done) | (cases h; cases hx; cases hy; simp [Op.equalIn, hu])
  | map a c =>
    simp only [eqS] at h
    split at h <;> first | (cases h; done) | (cases h; cases hx; cases hy; simp [Op.equalIn, hu])
  | interface ms =>
    simp only [eqS] at h
    split at h
    · cases h; cases hx; cases hy; simp [Op.equalIn, hu]
    · cases h; cases hx; cases hy; simp [Op.equalIn, hu]
    · cases h; cases hx; cases hy; simp [Op.equalIn, hu]
    · rename_i t1 a u1 c
      cases hx with
      | ifc _ h1 => cases hy with
        | ifc _ h2 =>
          split at h
          · rename_i hb
            cases h
            have : t1 ≠ u1 := fun e => by rw [e, nat_beq_decide] at hb; simp at hb
            simp [Op.equalIn, hu, this]
          · rename_i hb
            have : t1 = u1 := Nat.eq_of_beq_eq_true hb
            subst this
            split at h
            · rename_i i hi
              split at h
              · rename_i hc
                simp only [Op.equalIn, Sem.run_bind, hu, Result.andThen_ok, ne_eq, not_true_eq_false, if_false, run_info hE hi, hc, Bool.not_true, Bool.false_eq_true]
                exact hf _ _ _ _ _ _ h h1 h2 w
              · cases h
            · cases h
    · cases h
  | struct fs =>
    simp only [eqS] at h
    split at h
    · rename_i a c
      split at h
      · cases h
      · rename_i hst
        cases hx with
        | agg h1 => cases hy with
          | agg h2 =>
            have hfo : E.P.fieldsOf t = fs := by unfold Program.fieldsOf; rw [und_ok hE hD]
            rw [run_equalIn_struct w d t _ _ (by rw [hfo]; exact und_ok hE hD) hst, hfo]
            exact eqFs_ok hE hf h1 h2 fs.toList b h w
    · cases h
  | array len e =>
    simp only [eqS] at h
    split at h
    · rename_i a c n hs
      cases hx with
      | agg h1 => cases hy with
        | agg h2 =>
          have := eqEs_ok hE hf h1 h2 e n len 0 b h w
          simp only [Op.equalIn, Sem.run_bind, hu, run_size hE hs, Result.andThen_ok]
          rw [Std.Legacy.Range.forIn_eq_forIn_range']
          simp only [Std.Legacy.Range.size, Nat.sub_zero, Nat.add_sub_cancel, Nat.div_one]
          rw [this]
          cases b <;> rfl
    · cases h
  | invalid => simp [eqS] at h
  | float k => simp [eqS] at h
  | complex k => simp [eqS] at h
  | unsafePointer => simp [eqS] at h
  | chan a c => simp [eqS] at h
  | tuple a => simp [eqS] at h
  | named a c => simp [eqS] at h

theorem eqV_ok (n : Nat) : ∀ (d : Nat), n ≤ d → ∀ t x y b x' y', eqV E n t x y = some b → VR γ x x' → VR γ y y' → GivesB E.P (Op.equalIn d t x' y') b := by
  induction n with
  | zero => intro d _ t x y b x' y' h; cases h
  | succ n ih =>
    intro d hd t x y b x' y' h hx hy
    obtain ⟨m, rfl⟩ : ∃ m, d = m + 1 := ⟨d - 1, by omega⟩
    have h' : (match und E t with | some D => eqS E (eqV E n) t D x y | none => none) = some b := h
    cases hD : und E t with
    | none => rw [hD] at h'; cases h'
    | some D => rw [hD] at h'; exact eqS_ok hE (ih m (by omega)) hD h' hx hy
end
end Go.AM
