import Derived.Test.YtemimkkjkggcoaaGreatDoorGA7
/- The operations that leave the world alone, second part: any binary and unary operation, conversions, parts, addresses, len, min, max. -/
namespace Go.AM

section
variable {E : Env} (hE : E.Ok) {γ : Gm}

/-! binary operations -/
noncomputable def guardA (E : Env) (t : Nat) (x y : Operand) (a b : AV) : Bool :=
  match a, b with
  | .nili, .nili => (match x with | .const _ => true | _ => (match y with | .const _ => true | _ => false))
  | .agg _, .agg _ => Bool.not (E.P.eqGuardType E.P.depth t)
  | _, _ => true
noncomputable def eqBin (E : Env) (op : BinOp) (t : Nat) (x y : Operand) (a b : AV) : Option AV :=
  match guardA E t x y a b, eqV E 12 t a b with
  | true, some r => (match op with | .eql => some (.bool r) | .neq => some (.bool (Bool.not r)) | _ => none)
  | _, _ => none
noncomputable def binI (op : BinOp) (p : IntKind × Int) (b : AV) : Option AV := Option.rec none (fun q => Prod.rec (fun k m => Prod.rec (fun l n => intBin op k m l n) q) p) (intOf b)
noncomputable def bin0 (E : Env) (op : BinOp) (t : Nat) (x y : Operand) (a b : AV) : Option AV :=
  match a with
  | .int k m => (match b with | .int l n => intBin op k m l n | _ => none)
  | .str s => (match b with | .str u => strBin op s u | _ => none)
  | .flt k m => (match b with | .flt l n => Bool.rec none (fltBin op k m n) (kfl k l) | _ => none)
  | _ => eqBin E op t x y a b

noncomputable def bin (E : Env) (op : BinOp) (t : Nat) (x y : Operand) (a b : AV) : Option AV :=
  Option.rec (bin0 E op t x y a b) (fun p => binI op p b) (intOf a)
theorem bin_eq (E : Env) (op : BinOp) (t : Nat) (x y : Operand) (a b : AV) : bin E op t x y a b = bin0 E op t x y a b := by
  unfold bin binI
  cases a <;> first
    | rfl
    | (cases b <;> rfl)

theorem guard_other {P : Program} {op : BinOp} {t : TypeId} {x y : Operand} {a b : Value} (h1 : ¬ (a = .nilIface ∧ b = .nilIface)) (h2 : ∀ c d, ¬ (a = .agg c ∧ b = .agg d)) (w : World) :
    (eqGuard op t x y a b).run P w = .ok () w := by
  unfold eqGuard
  cases op <;> first
    | rfl
    | (simp only [Bool.not_true, Bool.false_eq_true, if_false]
       cases a <;> cases b <;> first
         | rfl
         | exact absurd ⟨rfl, rfl⟩ h1
         | exact absurd ⟨rfl, rfl⟩ (h2 _ _))
theorem Gives.guarded {P : Program} {op : BinOp} {t : TypeId} {x y : Operand} {a b : Value} (h1 : ¬ (a = .nilIface ∧ b = .nilIface)) (h2 : ∀ c d, ¬ (a = .agg c ∧ b = .agg d)) {r : AV}
    (h : Gives P γ (binOp op t a b) r) : Gives P γ (do eqGuard op t x y a b; binOp op t a b) r := by
  intro w
  obtain ⟨v, hv, hr⟩ := h w
  exact ⟨v, by simp only [Sem.run_bind, guard_other h1 h2 w, Result.andThen_ok, hv], hr⟩

include hE in
theorem eqBin_ok {op : BinOp} {t : Nat} {x y : Operand} {a b r : AV} (h : eqBin E op t x y a b = some r) {a' b' : Value} (ha : VR γ a a') (hb : VR γ b b')
    (hop : ∀ o, binOp .eql t a' b' = o → o = (do pure (.bool (← Op.equal t a' b')))) (hop' : ∀ o, binOp .neq t a' b' = o → o = (do pure (.bool (!(← Op.equal t a' b'))))) :
    Gives E.P γ (do eqGuard op t x y a' b'; binOp op t a' b') r := by
  unfold eqBin at h
  cases hg : guardA E t x y a b with
  | false => rw [hg] at h; cases h
  | true =>
    cases he : eqV E 12 t a b with
    | none => rw [hg, he] at h; cases h
    | some q =>
      rw [hg, he] at h
      have hq := fun w => eqV_ok hE 12 Op.maxDepth (by decide) t a b q a' b' he ha hb w
      have hguard : ∀ w, (eqGuard op t x y a' b').run E.P w = .ok () w := by
        intro w
        by_cases e1 : a' = .nilIface ∧ b' = .nilIface
        · obtain ⟨rfl, rfl⟩ := e1
          cases ha; cases hb
          unfold eqGuard
          cases op <;> first
            | rfl
            | (cases x <;> first
                | (simp; done)
                | (cases y <;> first | (simp; done) | (simp [guardA] at hg; done)))
        · by_cases e2 : ∃ c d, a' = .agg c ∧ b' = .agg d
          · obtain ⟨c, d, rfl, rfl⟩ := e2
            cases ha; cases hb
            have hm : E.P.eqGuardType E.P.depth t = false := by simpa [guardA] using hg
            exact run_eqGuard_agg w op t x y _ _ hm
          · exact guard_other e1 (fun c d e => e2 ⟨c, d, e⟩) w
      intro w
      cases op <;> first
        | (cases h; done)
        | (cases h
           refine ⟨.bool q, ?_, .bool q⟩
           simp only [Sem.run_bind, hguard w, Result.andThen_ok, hop _ rfl]
           simp only [Op.equal, hq w, Result.andThen_ok]; rfl)
        | (cases h
           refine ⟨.bool (!q), ?_, .bool _⟩
           simp only [Sem.run_bind, hguard w, Result.andThen_ok, hop' _ rfl]
           simp only [Op.equal, hq w, Result.andThen_ok]; rfl)

include hE in
theorem bin_ok {op : BinOp} {t : Nat} {x y : Operand} {a b r : AV} (h : bin E op t x y a b = some r) {a' b' : Value} (ha : VR γ a a') (hb : VR γ b b') :
    Gives E.P γ (do eqGuard op t x y a' b'; binOp op t a' b') r := by
  rw [bin_eq] at h
  have eqc : bin0 E op t x y a b = eqBin E op t x y a b → (∀ k m, a ≠ .int k m) → (∀ s, a ≠ .str s) → (∀ k m, a ≠ .flt k m) → Gives E.P γ (do eqGuard op t x y a' b'; binOp op t a' b') r := by
    intro e n1 n2 n3
    rw [e] at h
    refine eqBin_ok hE h ha hb ?_ ?_
    · intro o ho; subst ho
      cases ha <;> first | rfl | exact absurd rfl (n1 _ _) | exact absurd rfl (n2 _) | exact absurd rfl (n3 _ _)
    · intro o ho; subst ho
      cases ha <;> first | rfl | exact absurd rfl (n1 _ _) | exact absurd rfl (n2 _) | exact absurd rfl (n3 _ _)
  cases ha with
  | int k m =>
    cases hb with
    | int l n => exact Gives.guarded (fun e => by cases e.1) (fun c d e => by cases e.1) (intBin_ok h t γ)
    | _ => cases h
  | str s =>
    cases hb with
    | str u => exact Gives.guarded (fun e => by cases e.1) (fun c d e => by cases e.1) (strBin_ok h t γ)
    | _ => cases h
  | flt k m =>
    cases hb with
    | flt l n =>
      obtain ⟨hk, h2⟩ := rec_some h
      have e := kfl_eq hk
      subst e
      exact Gives.guarded (fun e => by cases e.1) (fun c d e => by cases e.1) (fltBin_ok h2 t γ)
    | _ => cases h
  | _ => exact eqc rfl (fun _ _ e => by cases e) (fun _ e => by cases e) (fun _ _ e => by cases e)

/-! unary operations -/
noncomputable def un (op : UnOp) (a : AV) : Option AV :=
  match op with
  | .neg => (match a with | .int k n => some (.int k (wr k (Int.sub 0 n))) | .flt k b => some (.flt k (Op.negFloat k b)) | _ => none)
  | .xor => (match a with | .int k n => some (.int k (k.wrap ((BitVec.ofInt k.bits (if k.signed then -1 else k.max) ^^^ BitVec.ofInt k.bits n).toNat))) | _ => none)
  | .not => (match a with | .bool b => some (.bool (Bool.not b)) | _ => none)
  | _ => none
theorem un_ok {P : Program} {op : UnOp} {a r : AV} (h : un op a = some r) {a' : Value} (ha : VR γ a a') : Gives P γ (Op.unary op a') r := by
  cases op with
  | neg => cases ha with
    | int k n => cases h; exact .mk (v := .int k (k.wrap (0 - n))) (fun w => by simp [Op.unary, Op.intArith]) (by rw [wr_eq]; exact .int k _)
    | flt k b => cases h; exact .mk (fun w => by simp [Op.unary]) (.flt k _)
    | _ => cases h
  | xor => cases ha with
    | int k n => cases h; exact .mk (v := .int k _) (fun w => by simp [Op.unary, Op.intBits]) (.int k _)
    | _ => cases h
  | not => cases ha with
    | bool b => cases h; exact .mk (fun w => by simp [Op.unary]) (.bool _)
    | _ => cases h
  | _ => cases h

/-! conversions that make no memory -/
noncomputable def convN (s d : TypeDesc) (x : AV) : Option AV :=
  match x with
  | .int _ n => (match d with
      | .int k => some (.int k (wr k n))
      | .float k => some (.flt k (k.nearest n))
      | _ => none)
  | .flt f b => (match d with
      | .int k => (match (f.decode b).toInt .zero with | some n => (match ile k.min n, ile n k.max with | true, true => some (.int k n) | _, _ => none) | none => none)
      | _ => none)
  | .str u => (match s, d with | .string, .string => some (.str u) | _, _ => none)
  | _ => none
noncomputable def convA (E : Env) (s d : Nat) (x : AV) : Option AV :=
  match und E s, und E d with
  | some s, some d => convN s d x
  | _, _ => none
include hE in
theorem convA_ok {s d : Nat} {x r : AV} (h : convA E s d x = some r) {x' : Value} (hx : VR γ x x') : Gives E.P γ (convert s d x') r := by
  unfold convA at h
  cases hs : und E s with
  | none => rw [hs] at h; cases h
  | some S =>
    cases hd : und E d with
    | none => rw [hs, hd] at h; cases h
    | some D =>
      rw [hs, hd] at h
      simp only [convN] at h
      cases hx with
      | int l n =>
        cases D <;> simp only at h <;> first
          | (cases h; done)
          | (cases h
             first
             | (rename_i k
                refine .mk (v := .int k (k.wrap n)) (fun w => ?_) (by rw [wr_eq]; exact .int k _)
                simp only [convert, Sem.run_bind, run_und hE hs, run_und hE hd, Result.andThen_ok]
                rfl)
             | (rename_i k
                refine .mk (v := .float k _) (fun w => ?_) (.flt k _)
                simp only [convert, Sem.run_bind, run_und hE hs, run_und hE hd, Result.andThen_ok]
                rfl))
      | flt f b =>
        cases D <;> simp only at h <;> first
          | (cases h; done)
          | skip
        rename_i k
        split at h
        · rename_i n hn
          split at h
          · rename_i h1 h2
            cases h
            rw [ile_eq] at h1 h2
            refine .mk (v := .int k n) (fun w => ?_) (.int k n)
            simp only [convert, Sem.run_bind, run_und hE hs, run_und hE hd, Result.andThen_ok, Conv.floatToInt, hn]
            rw [if_pos ⟨of_decide_eq_true h1, of_decide_eq_true h2⟩]; rfl
          · cases h
        · cases h
      | str u =>
        cases S <;> simp only at h <;> first
          | (cases h; done)
          | skip
        cases D <;> simp only at h <;> first
          | (cases h; done)
          | skip
        cases h
        refine .mk (fun w => ?_) (.str u)
        simp only [convert, Sem.run_bind, run_und hE hs, run_und hE hd, Result.andThen_ok]
        rfl
      | _ => simp only at h; cases h
end
end Go.AM
