import Derived.Test.YtemimkkjkggcoaaGreatDoorGA8
/- Parts, addresses, aggregates, len, min, max, type assertions, slices. -/
namespace Go.AM

section
variable {E : Env} (hE : E.Ok) {γ : Gm}

noncomputable def fieldOf (E : Env) (t f : Nat) : Option Field := match und E t with | some (.struct fs) => nth fs.toList f | _ => none
noncomputable def fieldA (E : Env) (t : Nat) (x : AV) (f : Nat) : Option AV :=
  match x, fieldOf E t f with
  | .agg l, some g => partA E g.type l g.offset
  | _, _ => none
theorem fieldOf_eq {t f : Nat} {g : Field} (h : fieldOf E t f = some g) : ∃ fs, und E t = some (.struct fs) ∧ fs[f]? = some g := by
  unfold fieldOf at h
  split at h
  · rename_i fs hu; exact ⟨fs, hu, by rw [nth_eq, Array.getElem?_toList] at h; exact h⟩
  · cases h
include hE in
theorem fieldA_ok {t f : Nat} {x r : AV} (h : fieldA E t x f = some r) {x' : Value} (hx : VR γ x x') : Gives E.P γ (Instr.field t x' f) r := by
  unfold fieldA at h
  split at h
  · rename_i l g hg
    obtain ⟨fs, hu, hf⟩ := fieldOf_eq hg
    cases hx with
    | agg hl =>
      intro w
      obtain ⟨v, hv, hr⟩ := part_ok hE hl h w
      refine ⟨v, ?_, hr⟩
      simp only [Instr.field, Sem.run_bind, run_und hE hu, Result.andThen_ok, hf, asAgg]
      simpa using hv
  · cases h
noncomputable def foffA (E : Env) (t f : Nat) : Option Nat := match fieldOf E t f with | some g => (match sizeA E g.type with | some (_ + 1) => some g.offset | _ => none) | none => none
noncomputable def faddrA (E : Env) (t : Nat) (x : AV) (f : Nat) : Option AV :=
  Option.rec none (fun p => Option.rec none (fun n => Prod.rec (fun b o => some (.ptr b (Nat.add o n))) p) (foffA E t f)) (ptrOf x)
noncomputable def faddrA0 (E : Env) (t : Nat) (x : AV) (f : Nat) : Option AV :=
  match x, fieldOf E t f with
  | .ptr b o, some g => (match sizeA E g.type with | some (_ + 1) => some (.ptr b (Nat.add o g.offset)) | _ => none)
  | _, _ => none
theorem faddrA_eq (E : Env) (t : Nat) (x : AV) (f : Nat) : faddrA E t x f = faddrA0 E t x f := by
  unfold faddrA faddrA0 foffA
  cases x <;> first
    | rfl
    | (cases fieldOf E t f with
       | none => rfl
       | some g =>
         simp only
         cases sizeA E g.type with
         | none => rfl
         | some n => cases n <;> rfl)
theorem addr_add (b o n : Nat) : (⟨b, o, none⟩ : Addr).add n = ⟨b, o + n, none⟩ := by
  unfold Addr.add
  split
  · rename_i h; rw [h]; rfl
  · rfl
include hE in
theorem faddrA_ok {t f : Nat} {x r : AV} (h : faddrA E t x f = some r) {x' : Value} (hx : VR γ x x') : Gives E.P γ (Instr.fieldAt t x' f) r := by
  rw [faddrA_eq] at h; unfold faddrA0 at h
  split at h
  · rename_i b o g hg
    obtain ⟨fs, hu, hf⟩ := fieldOf_eq hg
    split at h
    · rename_i n hs
      cases h
      cases hx with
      | @ptr _ L _ hb =>
        refine .mk (v := .pointer (some ⟨L.blk, L.off + (o + g.offset), none⟩)) (fun w => ?_) (.ptr _ hb)
        simp only [Instr.fieldAt, Sem.run_bind, run_und hE hu, Result.andThen_ok, hf, Instr.sureAddr, Sem.run_pure, fieldPlace, run_size hE hs]
        simp [addr_add, Nat.add_assoc]
    · cases h
  · cases h

noncomputable def inB (i : AV) (n : Nat) : Option Nat :=
  match i with
  | .int _ z => Int.rec (fun m => Bool.rec none (some m) (Nat.blt m n)) (fun _ => none) z
  | _ => none
theorem inB_ok {i : AV} {n m : Nat} (h : inB i n = some m) {i' : Value} (hi : VR γ i i') : ∃ k, i' = .int k (Int.ofNat m) ∧ m < n := by
  unfold inB at h
  cases hi with
  | int k z =>
    cases z with
    | ofNat q =>
      obtain ⟨h1, h2⟩ := rec_some (b := Nat.blt q n) h
      cases h2
      rw [nat_blt_decide] at h1
      exact ⟨k, rfl, of_decide_eq_true h1⟩
    | negSucc q => cases h
  | _ => cases h
noncomputable def iaddrA (E : Env) (t : Nat) (x i : AV) : Option AV :=
  match und E t with
  | some (.array n e) => (match x, inB i n, sizeA E e with | .ptr b o, some m, some z => some (.ptr b (Nat.add o (Nat.mul m z))) | _, _, _ => none)
  | some (.slice e) => (match x with
      | .sl b o len _ => (match inB i len, sizeA E e with | some m, some z => some (.ptr b (Nat.add o (Nat.mul m z))) | _, _ => none)
      | .su b o len _ => (match inB i len, sizeA E e with | some m, some z => some (.ptr b (Nat.add o (Nat.mul m z))) | _, _ => none)
      | _ => none)
  | _ => none
include hE in
theorem iaddrA_ok {t : Nat} {x i r : AV} (h : iaddrA E t x i = some r) {x' i' : Value} (hx : VR γ x x') (hi : VR γ i i') : Gives E.P γ (Instr.indexAt t x' i') r := by
  unfold iaddrA at h
  split at h
  · rename_i n e hu
    split at h
    · rename_i b o m z hm hs
      cases h
      obtain ⟨k, rfl, hlt⟩ := inB_ok hm hi
      cases hx with
      | @ptr _ L _ hb =>
        refine .mk (v := .pointer (some ⟨L.blk, L.off + (o + m * z), none⟩)) (fun w => ?_) (.ptr _ hb)
        simp only [Instr.indexAt, asIntOf, Sem.run_bind, Sem.run_pure, run_und hE hu, Result.andThen_ok, Instr.sureAddr]
        have hc : (0 : Int) ≤ Int.ofNat m ∧ Int.ofNat m < (n : Int) := ⟨Int.natCast_nonneg m, Int.ofNat_lt.2 hlt⟩
        rw [if_pos hc]
        simp only [Sem.run_bind, run_size hE hs, Result.andThen_ok, addr_add]
        simp [Nat.add_assoc]
    · cases h
  · rename_i e hu
    have key : ∀ {b : Ps} {o len cap : Nat} {L : Loc} {m z : Nat}, γ b = some L → inB i len = some m → sizeA E e = some z → r = .ptr b (Nat.add o (Nat.mul m z)) →
        Gives E.P γ (Instr.indexAt t (.slice (some ⟨L.blk, L.off + o, none⟩) len cap) i') r := by
      intro b o len cap L m z hb hm hs hr
      subst hr
      obtain ⟨k, rfl, hlt⟩ := inB_ok hm hi
      refine .mk (v := .pointer (some ⟨L.blk, L.off + (o + m * z), none⟩)) (fun w => ?_) (.ptr _ hb)
      simp only [Instr.indexAt, asIntOf, Sem.run_bind, Sem.run_pure, run_und hE hu, Result.andThen_ok]
      have hc : (0 : Int) ≤ Int.ofNat m ∧ Int.ofNat m < (len : Int) := ⟨Int.natCast_nonneg m, Int.ofNat_lt.2 hlt⟩
      rw [if_pos hc]
      simp only [Sem.run_bind, run_size hE hs, Result.andThen_ok, addr_add]
      simp [Nat.add_assoc]
    split at h
    · split at h
      · rename_i m z hm hs
        cases h
        cases hx with
        | sl o l c hb => exact key hb hm hs rfl
      · cases h
    · split at h
      · rename_i m z hm hs
        cases h
        cases hx with
        | su o l c z hb _ _ _ => exact key hb hm hs rfl
      · cases h
    · cases h
  · cases h
noncomputable def indexA (E : Env) (t : Nat) (x i : AV) : Option AV :=
  match und E t with
  | some (.array n e) => (match x, inB i n, sizeA E e with | .agg l, some m, some z => partA E e l (Nat.mul m z) | _, _, _ => none)
  | some .string => (match x, i with
      | .str s, .int _ (Int.ofNat m) => (match nth s m with | some b => some (.int .u8 (Int.ofNat b)) | none => none)
      | _, _ => none)
  | _ => none
include hE in
theorem indexA_ok {t : Nat} {x i r : AV} (h : indexA E t x i = some r) {x' i' : Value} (hx : VR γ x x') (hi : VR γ i i') : Gives E.P γ (Instr.index t x' i') r := by
  unfold indexA at h
  split at h
  · rename_i n e hu
    split at h
    · rename_i l m z hm hs
      obtain ⟨k, rfl, hlt⟩ := inB_ok hm hi
      cases hx with
      | agg hl =>
        intro w
        obtain ⟨v, hv, hr⟩ := part_ok hE hl h w
        refine ⟨v, ?_, hr⟩
        simp only [Instr.index, asIntOf, Sem.run_bind, Sem.run_pure, run_und hE hu, Result.andThen_ok]
        have hc : (0 : Int) ≤ Int.ofNat m ∧ Int.ofNat m < (n : Int) := ⟨Int.natCast_nonneg m, Int.ofNat_lt.2 hlt⟩
        rw [if_pos hc]
        simp only [Sem.run_bind, run_size hE hs, Result.andThen_ok]
        exact hv
    · cases h
  · rename_i hu
    split at h
    · rename_i s k m
      split at h
      · rename_i b hb
        cases h
        cases hx with
        | str s =>
          cases hi
          rw [nth_eq, bytesOf_nth] at hb
          cases hb2 : s[m]? with
          | none => rw [hb2] at hb; cases hb
          | some c =>
            rw [hb2] at hb; cases hb
            refine .mk (v := .int .u8 c.toNat) (fun w => ?_) (.int _ _)
            simp only [Instr.index, asIntOf, Sem.run_bind, Sem.run_pure, run_und hE hu, Result.andThen_ok]
            rw [if_pos (show (0 : Int) ≤ Int.ofNat m from Int.natCast_nonneg m)]
            rw [show (Int.ofNat m).toNat = m from rfl, hb2]; rfl
      · cases h
    · cases h
  · cases h

/-! building aggregates -/
noncomputable def lputs {α : Type} (vs : List α) : Nat → List α → List α :=
  List.rec (motive := fun _ => Nat → List α → List α) (fun _ cs => cs) (fun v _ ih off cs => ih (Nat.succ off) (lset v cs off)) vs
theorem lputs_length {α : Type} (vs : List α) : ∀ (off : Nat) (cs : List α), (lputs vs off cs).length = cs.length := by
  induction vs with
  | nil => intro off cs; rfl
  | cons v vs ih => intro off cs; show (lputs vs (off + 1) (lset v cs off)).length = _; rw [ih, lset_eq, List.length_set]
theorem lputs_ok {vs : List AV} {vs' : List Value} (h : LR γ vs vs') : ∀ (off j : Nat) (cs : List AV) (cs' : List Value), LR γ cs cs' →
    ∃ out, (vs'.zipIdx j).foldl (fun (a : Array Value) (p : Value × Nat) => a.setIfInBounds (off + p.2) p.1) ⟨cs'⟩ = ⟨out⟩ ∧ LR γ (lputs vs (off + j) cs) out := by
  induction vs generalizing vs' with
  | nil => intro off j cs cs' hc; cases h; exact ⟨cs', rfl, hc⟩
  | cons v vs ih =>
    intro off j cs cs' hc
    cases h with
    | @cons _ y _ l' hv ht =>
      obtain ⟨out, ho, hr⟩ := ih ht off (j + 1) (lset v cs (off + j)) (cs'.set (off + j) y) (by rw [lset_eq]; exact hc.set _ hv)
      refine ⟨out, ?_, hr⟩
      rw [List.zipIdx_cons, List.foldl_cons]
      rw [show ((⟨cs'⟩ : Array Value).setIfInBounds (off + (y, j).2) (y, j).1) = ⟨cs'.set (off + j) y⟩ from by simp [Array.setIfInBounds, Array.set]; intro hge; rw [List.set_eq_of_length_le hge]]
      exact ho
/-- the same in one go -/
noncomputable def lover {α : Type} (vs : List α) : List α → List α :=
  List.rec (motive := fun _ => List α → List α) (fun cs => cs) (fun v _ ih cs => List.rec [] (fun _ t _ => v :: ih t) cs) vs
noncomputable def lput2 {α : Type} (vs : List α) (off : Nat) : List α → List α :=
  Nat.rec (motive := fun _ => List α → List α) (fun cs => lover vs cs) (fun _ ih cs => List.rec [] (fun c t _ => c :: ih t) cs) off
theorem lputs_nil {α : Type} (vs : List α) : ∀ off : Nat, lputs vs off [] = [] := by
  induction vs with
  | nil => intro off; rfl
  | cons v vs ih => intro off; show lputs vs (off + 1) (lset v [] off) = _; rw [lset_eq, List.set_nil, ih]
theorem lputs_skip {α : Type} (vs : List α) : ∀ (off : Nat) (c : α) (t : List α), lputs vs (off + 1) (c :: t) = c :: lputs vs off t := by
  induction vs with
  | nil => intro off c t; rfl
  | cons v vs ih =>
    intro off c t
    show lputs vs (off + 1 + 1) (lset v (c :: t) (off + 1)) = c :: lputs vs (off + 1) (lset v t off)
    rw [show lset v (c :: t) (off + 1) = c :: lset v t off from rfl, ih]
theorem lover_eq {α : Type} (vs : List α) : ∀ cs : List α, lover vs cs = lputs vs 0 cs := by
  induction vs with
  | nil => intro cs; rfl
  | cons v vs ih =>
    intro cs
    cases cs with
    | nil => rw [lputs_nil]; rfl
    | cons c t =>
      show v :: lover vs t = lputs vs 1 (v :: t)
      rw [lputs_skip, ih]
theorem lput2_eq {α : Type} (vs : List α) (off : Nat) : ∀ cs : List α, lput2 vs off cs = lputs vs off cs := by
  induction off with
  | zero => exact lover_eq vs
  | succ off ih =>
    intro cs
    cases cs with
    | nil => rw [lputs_nil]; rfl
    | cons c t => show c :: lput2 vs off t = _; rw [lputs_skip, ih]
theorem lputs_eq {α : Type} (vs : List α) : ∀ (k : Nat) (l : List α), k + vs.length ≤ l.length → lputs vs k l = l.take k ++ vs ++ l.drop (k + vs.length) := by
  induction vs with
  | nil => intro k l h; show l = _; simp
  | cons v vs ih =>
    intro k l h
    simp only [List.length_cons] at h
    show lputs vs (k + 1) (lset v l k) = _
    rw [lset_eq, ih (k + 1) _ (by simp; omega)]
    have e1 : (l.set k v).take (k + 1) = l.take k ++ [v] := by
      rw [List.take_set, List.take_succ_eq_append_getElem (by omega)]
      rw [List.set_append_right _ _ (by simp; omega)]
      simp
      rw [Nat.min_eq_left (by omega)]; simp
    have e2 : (l.set k v).drop (k + 1 + vs.length) = l.drop (k + (vs.length + 1)) := by
      rw [List.drop_set_of_lt (by omega)]; congr 1; omega
    rw [e1, e2]
    simp
noncomputable def fillA (place : Nat → Option (Nat × Nat)) (parts : List (Nat × AV)) : List AV → Option (List AV) :=
  List.rec (motive := fun _ => List AV → Option (List AV)) (fun cs => some cs) (fun p _ ih cs =>
    match place p.1 with
    | none => none
    | some q => Bool.rec (ih (lput2 (cellsA p.2) q.1 cs)) none (Bool.or (Bool.not (Nat.beq (llen (cellsA p.2)) q.2)) (Nat.blt (llen cs) (Nat.add q.1 (llen (cellsA p.2)))))) parts
/-- has a list n elements? -/
noncomputable def lhas {α : Type} (n : Nat) : List α → Bool :=
  Nat.rec (motive := fun _ => List α → Bool) (fun _ => true) (fun _ ih l => List.rec false (fun _ t _ => ih t) l) n
theorem lhas_eq {α : Type} (n : Nat) : ∀ l : List α, lhas n l = Nat.ble n l.length := by
  induction n with
  | zero => intro l; exact (Nat.ble_eq_true_of_le (Nat.zero_le _)).symm
  | succ n ih =>
    intro l
    cases l with
    | nil => rfl
    | cons x t => show lhas n t = _; rw [ih]; rfl
/-- parts that come in order -/
noncomputable def mergeS (off : Nat) (zs cells : List AV) (o n : Nat) (ih : Nat → List AV → Option (List AV)) : Option (List AV) :=
  Bool.rec none (Bool.rec none (Option.rec none (fun pre => Option.rec none (fun r => some (lapp pre (lapp cells r))) (ih (Nat.add o n) (ldrop (Nat.sub (Nat.add o n) off) zs))) (ltake (Nat.sub o off) zs))
    (lhas (Nat.sub (Nat.add o n) off) zs)) (Bool.and (Nat.ble off o) (Nat.beq (llen cells) n))
noncomputable def mergeA (place : Nat → Option (Nat × Nat)) (parts : List (Nat × AV)) : Nat → List AV → Option (List AV) :=
  List.rec (motive := fun _ => Nat → List AV → Option (List AV)) (fun _ zs => some zs)
    (fun p _ ih off zs => Prod.rec (fun i x => Option.rec none (fun q => Prod.rec (fun o n => mergeS off zs (cellsA x) o n ih) q) (place i)) p) parts
noncomputable def fillM (place : Nat → Option (Nat × Nat)) (parts : List (Nat × AV)) (cs : List AV) : Option (List AV) := Option.rec (fillA place parts cs) (fun r => some r) (mergeA place parts 0 cs)
theorem mergeA_ok {place : Nat → Option (Nat × Nat)} : ∀ {parts : List (Nat × AV)} {off : Nat} {pre zs r : List AV}, pre.length = off → mergeA place parts off zs = some r → fillA place parts (pre ++ zs) = some (pre ++ r)
  | [], off, pre, zs, r, _, h => by cases h; rfl
  | (i, x) :: parts, off, pre, zs, r, hl, h => by
    have h' : (Option.rec none (fun q => Prod.rec (fun o n => mergeS off zs (cellsA x) o n (mergeA place parts)) q) (place i) : Option (List AV)) = some r := h
    have hg : fillA place ((i, x) :: parts) (pre ++ zs) = (match place i with
        | none => none
        | some q => Bool.rec (fillA place parts (lput2 (cellsA x) q.1 (pre ++ zs))) none (Bool.or (Bool.not (Nat.beq (llen (cellsA x)) q.2)) (Nat.blt (llen (pre ++ zs)) (Nat.add q.1 (llen (cellsA x)))))) := rfl
    rw [hg]
    cases hq : place i with
    | none => rw [hq] at h'; cases h'
    | some q =>
      obtain ⟨o, n⟩ := q
      rw [hq] at h'
      have h2 : mergeS off zs (cellsA x) o n (mergeA place parts) = some r := h'
      unfold mergeS at h2
      cases hb : Bool.and (Nat.ble off o) (Nat.beq (llen (cellsA x)) n) with
      | false => rw [hb] at h2; cases h2
      | true =>
        rw [hb] at h2
        cases hh : lhas (Nat.sub (Nat.add o n) off) zs with
        | false => rw [hh] at h2; cases h2
        | true =>
          rw [hh] at h2
          cases ht : ltake (Nat.sub o off) zs with
          | none => rw [ht] at h2; cases h2
          | some gap =>
            rw [ht] at h2
            simp only at h2
            cases hr : mergeA place parts (Nat.add o n) (ldrop (Nat.sub (Nat.add o n) off) zs) with
            | none => rw [hr] at h2; cases h2
            | some r' =>
              rw [hr] at h2
              cases h2
              have hb1 : Nat.ble off o = true := by revert hb; cases Nat.ble off o <;> simp
              have hb2 : Nat.beq (llen (cellsA x)) n = true := by revert hb; cases Nat.ble off o <;> simp
              have e1 : off ≤ o := Nat.le_of_ble_eq_true hb1
              have e2 : (cellsA x).length = n := by rw [← llen_eq]; exact Nat.eq_of_beq_eq_true hb2
              have e3 : o + n - off ≤ zs.length := by rw [lhas_eq] at hh; exact Nat.le_of_ble_eq_true hh
              obtain ⟨e4, e5⟩ := ltake_eq ht
              have e5' : o - off ≤ zs.length := e5
              have e4' : gap = zs.take (o - off) := e4
              simp only [lput2_eq, llen_eq, lapp_eq]
              have c1 : Nat.beq (cellsA x).length n = true := by rw [nat_beq_decide]; exact decide_eq_true e2
              have c2 : Nat.blt (pre ++ zs).length (Nat.add o (cellsA x).length) = false := by
                rw [nat_blt_decide]; apply decide_eq_false
                show ¬ _ < o + _
                rw [List.length_append]; omega
              rw [c1, c2]
              show fillA place parts (lputs (cellsA x) o (pre ++ zs)) = _
              rw [lputs_eq _ _ _ (by rw [List.length_append]; omega)]
              have e6 : (pre ++ zs).take o ++ cellsA x ++ (pre ++ zs).drop (o + (cellsA x).length) = (pre ++ gap ++ cellsA x) ++ ldrop (Nat.sub (Nat.add o n) off) zs := by
                rw [ldrop_eq, e4', List.take_append, List.take_of_length_le (by omega), List.drop_append, List.drop_of_length_le (by omega), hl, e2]
                show _ = (pre ++ zs.take (o - off) ++ cellsA x) ++ zs.drop (o + n - off)
                simp
              rw [e6]
              have e7 := mergeA_ok (place := place) (parts := parts) (off := Nat.add o n) (pre := pre ++ gap ++ cellsA x) (zs := ldrop (Nat.sub (Nat.add o n) off) zs) (r := r')
                (by rw [List.length_append, List.length_append, e4', List.length_take, hl, e2, Nat.min_eq_left e5']; show _ = o + n; omega) hr
              rw [e7]
              show some (pre ++ gap ++ cellsA x ++ r') = some (pre ++ (gap ++ (cellsA x ++ r')))
              simp
theorem fillM_eq (place : Nat → Option (Nat × Nat)) (parts : List (Nat × AV)) (cs : List AV) : fillM place parts cs = fillA place parts cs := by
  unfold fillM
  cases h : mergeA place parts 0 cs with
  | none => rfl
  | some r => exact (mergeA_ok (pre := []) rfl h).symm
inductive PR (γ : Gm) : List (Nat × AV) → List (Nat × Value) → Prop where
  | nil : PR γ [] []
  | cons {x : AV} {y : Value} {l : List (Nat × AV)} {l' : List (Nat × Value)} (i : Nat) (h : VR γ x y) (t : PR γ l l') : PR γ ((i, x) :: l) ((i, y) :: l')
theorem fillA_ok {place : Nat → Option (Nat × Nat)} {parts : List (Nat × AV)} {parts' : List (Nat × Value)} (hp : PR γ parts parts') : ∀ {cs : List AV} {cs' : List Value} {r : List AV}, LR γ cs cs' →
    fillA place parts cs = some r → ∃ out, Instr.fill place ⟨cs'⟩ parts' = some ⟨out⟩ ∧ LR γ r out := by
  induction parts generalizing parts' with
  | nil => intro cs cs' r hc h; cases hp; cases h; exact ⟨cs', rfl, hc⟩
  | cons p parts ih =>
    intro cs cs' r hc h
    cases hp with
    | @cons x y l l' i hv ht =>
      have h' : (match place i with
        | none => none
        | some q => Bool.rec (fillA place parts (lput2 (cellsA x) q.1 cs)) none (Bool.or (Bool.not (Nat.beq (llen (cellsA x)) q.2)) (Nat.blt (llen cs) (Nat.add q.1 (llen (cellsA x)))))) = some r := h
      cases hq : place i with
      | none => rw [hq] at h'; cases h'
      | some q =>
        rw [hq] at h'
        simp only [lput2_eq, llen_eq] at h'
        obtain ⟨hb, h2⟩ := rec_none h'
        have hcl := cells_ok hv
        have hlen := hcl.length
        have hcs := hc.length
        rw [nat_beq_decide, nat_blt_decide] at hb
        simp only [Bool.or_eq_false_iff, Bool.not_eq_false', decide_eq_true_eq, decide_eq_false_iff_not] at hb
        obtain ⟨hb1, hb2⟩ := hb
        have hb2' : ¬ cs.length < q.1 + (cellsA x).length := hb2
        obtain ⟨out, ho, hr⟩ := lputs_ok hcl q.1 0 cs cs' hc
        obtain ⟨out2, ho2, hr2⟩ := ih ht hr h2
        refine ⟨out2, ?_, hr2⟩
        obtain ⟨q1, q2⟩ := q
        simp only [Instr.fill, hq]
        have e1 : y.cells.size = q2 := by rw [← Array.length_toList, hlen]; exact hb1
        have e2 : ¬ (q1 + y.cells.size > (⟨cs'⟩ : Array Value).size) := by
          rw [← Array.length_toList, hlen]
          show ¬ (q1 + _ > cs'.length)
          rw [hcs]; simp at hb2'; omega
        rw [if_neg (by simp only [ne_eq, e1, not_true_eq_false, decide_false, Bool.false_or, decide_eq_true_eq]; rw [← e1]; exact e2)]
        have e3 : (y.cells.zipIdx.foldl (fun (a : Array Value) (p : Value × Nat) => a.setIfInBounds (q1 + p.2) p.1) ⟨cs'⟩) = ⟨out⟩ := by
          rw [← ho, ← Array.foldl_toList, Array.toList_zipIdx]
        rw [← ho2]
        congr 1
end
end Go.AM
