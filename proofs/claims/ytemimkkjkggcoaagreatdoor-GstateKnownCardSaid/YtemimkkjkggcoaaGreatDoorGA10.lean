import Derived.Test.YtemimkkjkggcoaaGreatDoorGA9
/- Aggregates, len, min, max, type assertions, slices. -/
namespace Go.AM

section
variable {E : Env} (hE : E.Ok) {γ : Gm}

noncomputable def zeroA (E : Env) (t : Nat) : Option AV := match info E t with | some i => (match i.zero with | some v => ofV 4 v | none => none) | none => none
theorem zeroA_eq {t : Nat} {x : AV} (h : zeroA E t = some x) : ∃ i v, info E t = some i ∧ i.zero = some v ∧ ofV 4 v = some x := by
  unfold zeroA at h
  split at h
  · rename_i i hi
    split at h
    · rename_i v hv; exact ⟨i, v, hi, hv, h⟩
    · cases h
  · cases h
include hE in
theorem run_zero {t : Nat} {x : AV} (h : zeroA E t = some x) (γ : Gm) : ∃ v, (∀ w, (Go.zeroValue t).run E.P w = .ok v w) ∧ VR γ x v := by
  obtain ⟨i, v, hi, hz, hv⟩ := zeroA_eq h
  exact ⟨v, fun w => by simp only [Go.zeroValue, Sem.run_bind, run_info hE hi, Result.andThen_ok, hz]; rfl, ofV_ok 4 _ _ hv⟩

noncomputable def fplace (E : Env) (t i : Nat) : Option (Nat × Nat) := match fieldOf E t i with | some g => (match sizeA E g.type with | some z => some (g.offset, z) | none => none) | none => none
noncomputable def allSizes (E : Env) (fs : List Field) : Bool := List.rec true (fun g _ ih => match sizeA E g.type with | some _ => ih | none => false) fs
noncomputable def buildA (E : Env) (t : Nat) (parts : List (Nat × AV)) : Option AV :=
  match und E t, zeroA E t with
  | some (.struct fs), some z => (match allSizes E fs.toList, fillM (fplace E t) parts (cellsA z) with | true, some r => some (.agg r) | _, _ => none)
  | some (.array _ e), some z => (match sizeA E e with
      | some n => (match fillM (fun i => some (Nat.mul i n, n)) parts (cellsA z) with | some r => some (.agg r) | none => none)
      | none => none)
  | _, _ => none
include hE in
theorem places_ok {fs : List Field} (h : allSizes E fs = true) (w : World) : ∃ l : List (Nat × Nat), (fs.mapM (fun f => do pure (f.offset, ← Go.sizeOf f.type) : Field → Sem (Nat × Nat))).run E.P w = .ok l w ∧
    ∀ i : Nat, l[i]? = (match (fs[i]? : Option Field) with | some g => (match sizeA E g.type with | some z => some (g.offset, z) | none => none) | none => none) := by
  induction fs with
  | nil => exact ⟨[], rfl, fun i => by simp⟩
  | cons g fs ih =>
    have h' : (match sizeA E g.type with | some _ => allSizes E fs | none => false) = true := h
    cases hs : sizeA E g.type with
    | none => rw [hs] at h'; cases h'
    | some z =>
      rw [hs] at h'
      obtain ⟨l, hl, hi⟩ := ih h'
      refine ⟨(g.offset, z) :: l, ?_, fun i => ?_⟩
      · simp only [List.mapM_cons, Sem.run_bind, run_size hE hs, Result.andThen_ok, Sem.run_pure, hl]
      · cases i with
        | zero => simp [hs]
        | succ i => simpa using hi i
include hE in
theorem buildA_ok {t : Nat} {parts : List (Nat × AV)} {r : AV} (h : buildA E t parts = some r) {parts' : List (Nat × Value)} (hp : PR γ parts parts') : Gives E.P γ (Instr.build t ⟨parts'⟩) r := by
  unfold buildA at h
  simp only [fillM_eq] at h
  split at h
  · rename_i fs z hu hz
    split at h
    · rename_i r' hs hf
      cases h
      obtain ⟨v, hv, hr⟩ := run_zero hE hz γ
      intro w
      obtain ⟨l, hl, hi⟩ := places_ok hE hs w
      have hpl : ∀ i : Nat, fplace E t i = l[i]? := by
        intro i
        rw [hi i]
        unfold fplace fieldOf
        rw [hu]
        simp only [nth_eq]
      have hf' : fillA (fun i : Nat => l[i]?) parts (cellsA z) = some r' := by rw [show (fun i : Nat => l[i]?) = fplace E t from funext fun i => (hpl i).symm]; exact hf
      obtain ⟨out, ho, hro⟩ := fillA_ok hp (cells_ok hr) hf'
      refine ⟨.agg ⟨out⟩, ?_, .agg hro⟩
      simp only [Instr.build, Sem.run_bind, hv w, Result.andThen_ok, run_und hE hu]
      have hm : (fs.mapM (fun f => do pure (f.offset, ← Go.sizeOf f.type) : Field → Sem (Nat × Nat))).run E.P w = .ok ⟨l⟩ w := by
        rw [← Array.toArray_toList (xs := fs), List.mapM_toArray, Sem.run_map, hl]; rfl
      rw [hm]
      simp only [Result.andThen_ok]
      have e : (fun x : Nat => (⟨l⟩ : Array (Nat × Nat))[x]?) = (fun i : Nat => l[i]?) := by funext i; simp
      rw [e]
      rw [show v.cells = ⟨v.cells.toList⟩ from rfl, ho]
      rfl
    · cases h
  · rename_i len e z hu hz
    split at h
    · rename_i n hs
      split at h
      · rename_i r' hf
        cases h
        obtain ⟨v, hv, hr⟩ := run_zero hE hz γ
        intro w
        obtain ⟨out, ho, hro⟩ := fillA_ok hp (cells_ok hr) hf
        refine ⟨.agg ⟨out⟩, ?_, .agg hro⟩
        simp only [Instr.build, Sem.run_bind, hv w, Result.andThen_ok, run_und hE hu, run_size hE hs]
        rw [show v.cells = ⟨v.cells.toList⟩ from rfl]
        rw [show (fun i => some (i * n, n)) = (fun i => some (Nat.mul i n, n)) from rfl, ho]
        rfl
      · cases h
    · cases h
  · cases h

/-! len, min, max, type assertions -/
noncomputable def lenA (E : Env) (S : Hp) (t : Nat) (x : AV) : Option AV :=
  match und E t with
  | some .string => (match x with | .str s => some (.int .i64 (Int.ofNat s.length)) | _ => none)
  | some (.array n _) => some (.int .i64 (Int.ofNat n))
  | some (.pointer a) => (match und E a with | some (.array n _) => some (.int .i64 (Int.ofNat n)) | _ => none)
  | some (.slice _) => (match x with
      | .nils => some (.int .i64 0)
      | .sl _ _ n _ => some (.int .i64 (Int.ofNat n))
      | .su _ _ n _ => some (.int .i64 (Int.ofNat n))
      | _ => none)
  | some (.map _ _) => (match x with
      | .nilm => some (.int .i64 0)
      | .mp b => (match T.get b S.hp with | some (.map es _) => some (.int .i64 (Int.ofNat es.length)) | _ => none)
      | _ => none)
  | _ => none
theorem ER.length {l : List (AV × AV × Nat)} {l' : List MapEntry} (h : ER γ l l') : l'.length = l.length := by
  induction h with
  | nil => rfl
  | cons n hk hv _ ih => simp [ih]
theorem HR.map {ng : Nat} {S : Hp} {w : World} (h : HR γ ng S w) {b : Ps} {es : List (AV × AV × Nat)} {clock : Nat} {L : Loc} (hb : T.get b S.hp = some (.map es clock)) (hL : γ b = some L) :
    ∃ es', w.heap[L.blk]? = some (.map ⟨es'⟩ clock) ∧ ER γ es es' := by
  obtain ⟨M, ob, h1, h2, es', rfl, h3⟩ := h.obj b _ hb
  rw [hL] at h1; cases h1
  exact ⟨es', h2, h3⟩
theorem run_getObj {P : Program} {w : World} {r : Nat} {o : Obj} (h : w.heap[r]? = some o) (hc : ∀ c e f, o ≠ .cells c e f) : (Go.getObj r).run P w = .ok o w := by
  simp only [Go.getObj, Sem.run, h]
  all_goals (cases o <;> first | rfl | exact absurd rfl (hc _ _ _))
include hE in
theorem run_len {t : Nat} {D : TypeDesc} (hu : und E t = some D) (x' : Value) (ty : TypeId) {ats : Array TypeId} (ha : ats[0]? = some t) {args : Array Value} (hargs : args[0]? = some x') (w : World) :
    (Builtin.len_ ats ty args).run E.P w = ((match D, x' with
        | .string, .string s => pure (goInt s.size)
        | .array n _, _ => pure (goInt n)
        | .pointer arr, _ => do
          let .array n _ ← underlying arr | stuck "len: pointer to array expected"
          pure (goInt n)
        | .slice _, .slice _ n _ => pure (goInt n)
        | .map _ _, .map none | .chan _ _, .chan none => pure (goInt 0)
        | .map _ _, .map (some r) => do
          let .map entries _ ← getObj r | stuck "len: map expected"
          pure (goInt entries.size)
        | .chan _ _, .chan (some r) => do
          let .chan _ buf _ _ _ timer ← getObj r | stuck "len: channel expected"
          pure (goInt (if timer then 0 else buf.size))
        | _, _ => stuck "len: string, array, pointer to array, slice, map or channel expected") : Sem Value).run E.P w := by
  unfold Builtin.len_
  simp only [ha, hargs, Sem.run_bind, run_und hE hu, Result.andThen_ok]
  rfl
include hE in
theorem lenA_ok {S : Hp} {t : Nat} {x r : AV} (h : lenA E S t x = some r) {x' : Value} (hx : VR γ x x') {ng : Nat} {w : World} (hH : HR γ ng S w) {ty : TypeId} {ats : Array TypeId} (ha : ats[0]? = some t) {args : Array Value} (hargs : args[0]? = some x') :
    ∃ v, (Builtin.len_ ats ty args).run E.P w = .ok v w ∧ VR γ r v := by
  unfold lenA at h
  cases hu : und E t with
  | none => rw [hu] at h; cases h
  | some D =>
    rw [hu] at h
    have hrun := run_len hE hu x' ty ha hargs w
    rw [hrun]
    cases D <;> simp only at h <;> first
      | (cases h; done)
      | skip
    · split at h
      · cases h; cases hx with
        | str s => exact ⟨_, rfl, by rw [bytesOf_length]; exact .int _ _⟩
      · cases h
    · rename_i a
      split at h
      · rename_i n e ha
        cases h
        refine ⟨_, ?_, .int _ _⟩
        simp only [Sem.run_bind, run_und hE ha, Result.andThen_ok]
        rfl
      · cases h
    · split at h
      · cases h; cases hx; exact ⟨_, rfl, .int _ _⟩
      · cases h; cases hx; exact ⟨_, rfl, .int _ _⟩
      · cases h; cases hx; exact ⟨_, rfl, .int _ _⟩
      · cases h
    · cases h; exact ⟨_, rfl, .int _ _⟩
    · split at h
      · cases h; cases hx; exact ⟨_, rfl, .int _ _⟩
      · rename_i b
        split at h
        · rename_i es clock hb
          cases h
          cases hx with
          | mp hL =>
            obtain ⟨es', h1, h2⟩ := hH.map hb hL
            refine ⟨goInt es'.length, ?_, by rw [h2.length]; exact .int _ _⟩
            simp only [Sem.run_bind, run_getObj h1 (fun _ _ _ e => by cases e), Result.andThen_ok]
            rfl
        · cases h
      · cases h

noncomputable def max2A (a b : AV) : Option AV :=
  match a, b with
  | .int k x, .int _ y => some (.int k (Bool.rec x y (ilt x y)))
  | .str s, .str u => some (.str (Bool.rec s u (slt s u)))
  | _, _ => none
noncomputable def min2A (a b : AV) : Option AV :=
  match a, b with
  | .int k x, .int _ y => some (.int k (Bool.rec x y (ilt y x)))
  | .str s, .str u => some (.str (Bool.rec u s (Bool.or (slt s u) (seq s u))))
  | _, _ => none
theorem max2A_ok {P : Program} {a b r : AV} (h : max2A a b = some r) {a' b' : Value} (ha : VR γ a a') (hb : VR γ b b') : Gives P γ (Builtin.max2 a' b') r := by
  unfold max2A at h
  split at h
  · rename_i k x l y
    cases h; cases ha; cases hb
    refine .mk (v := .int k (if y > x then y else x)) (fun w => rfl) ?_
    rw [ilt_eq]
    by_cases e : x < y
    · rw [if_pos e, decide_eq_true e]; exact .int _ _
    · rw [if_neg e, decide_eq_false e]; exact .int _ _
  · rename_i s u
    cases h; cases ha with
    | str s => cases hb with
      | str u =>
        refine .mk (v := .string (if !(Op.bytesLess s.toList u.toList) then s else u)) (fun w => ?_) ?_
        · simp [Builtin.max2, Op.stringOp, asBool]
        · rw [slt_bytes]
          cases slt (bytesOf s) (bytesOf u) <;> exact .str _
  · cases h
theorem min2A_ok {P : Program} {a b r : AV} (h : min2A a b = some r) {a' b' : Value} (ha : VR γ a a') (hb : VR γ b b') : Gives P γ (Builtin.min2 a' b') r := by
  unfold min2A at h
  split at h
  · rename_i k x l y
    cases h; cases ha; cases hb
    refine .mk (v := .int k (if y < x then y else x)) (fun w => rfl) ?_
    rw [ilt_eq]
    by_cases e : y < x
    · rw [if_pos e, decide_eq_true e]; exact .int _ _
    · rw [if_neg e, decide_eq_false e]; exact .int _ _
  · rename_i s u
    cases h; cases ha with
    | str s => cases hb with
      | str u =>
        refine .mk (v := .string (if (Op.bytesLess s.toList u.toList || (s.toList == u.toList)) then s else u)) (fun w => ?_) ?_
        · simp [Builtin.min2, Op.stringOp, asBool]
        · rw [slt_bytes, bytes_toList_beq]
          cases slt (bytesOf s) (bytesOf u) <;> cases seq (bytesOf s) (bytesOf u) <;> exact .str _
  · cases h
end
end Go.AM
