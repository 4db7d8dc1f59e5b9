import Derived.Test.YtemimkkjkggcoaaGreatDoorGA16
/- Each operation of the abstract machine is the model's. -/
namespace Go.AM

theorem amap {α β : Type} (f : α → β) (a : Array α) : a.map f = ⟨a.toList.map f⟩ := by rw [← Array.toList_map]
section
variable {E : Env} (hE : E.Ok) {γ : Gm} {S : Hp} {w : World}

theorem OpR.val {s : Sem Value} {x : AV} {S' : Hp} (h : ∃ γ' v w', s.run E.P w = .ok v w' ∧ VR γ' x v ∧ HR γ' E.ng S' w' ∧ Pres S γ w S' γ' w') : OpR E γ S w (do pure (.value (← s))) (.v x S') := by
  obtain ⟨γ', v, w', h1, h2⟩ := h
  exact ⟨γ', v, w', .inl (by simp only [Sem.run_bind, h1, Result.andThen_ok, Sem.run_pure]), h2⟩
theorem OpR.unit {s : Sem Unit} {S' : Hp} (h : ∃ γ' w', s.run E.P w = .ok () w' ∧ HR γ' E.ng S' w' ∧ Pres S γ w S' γ' w') : OpR E γ S w (do s; pure .skip) (.v (.tup []) S') := by
  obtain ⟨γ', w', h1, h2⟩ := h
  exact ⟨γ', undef, w', .inr ⟨by simp only [Sem.run_bind, h1, Result.andThen_ok, Sem.run_pure], rfl⟩, .undef, h2⟩
theorem b1_ok {α : Type} {o : Option AV} {f : AV → Option α} {r : α} (h : b1 o f = some r) : ∃ x, o = some x ∧ f x = some r := by
  cases o with
  | none => cases h
  | some x => exact ⟨x, rfl, h⟩
theorem vS_ok {S : Hp} {o : Option AV} {r : RO} (h : vS S o = some r) : ∃ x, o = some x ∧ r = .v x S := by
  cases o with
  | none => cases h
  | some x => cases h; exact ⟨x, rfl, rfl⟩
theorem vP_ok {o : Option (AV × Hp)} {r : RO} (h : vP o = some r) : ∃ x S, o = some (x, S) ∧ r = .v x S := by
  cases o with
  | none => cases h
  | some p => obtain ⟨x, S⟩ := p; cases h; exact ⟨x, S, rfl, rfl⟩
theorem vU_ok {o : Option Hp} {r : RO} (h : vU o = some r) : ∃ S, o = some S ∧ r = .v (.tup []) S := by
  cases o with
  | none => cases h
  | some S => cases h; exact ⟨S, rfl, rfl⟩
theorem recb_ok {α β : Type} {o : Option α} {f : α → Option β} {r : β} (h : (Option.rec none f o : Option β) = some r) : ∃ x, o = some x ∧ f x = some r := by
  cases o with
  | none => cases h
  | some x => exact ⟨x, rfl, h⟩
theorem Gives.opr {s : Sem Value} {x : AV} (h : Gives E.P γ s x) (hH : HR γ E.ng S w) : OpR E γ S w (do pure (.value (← s))) (.v x S) :=
  OpR.val (let ⟨v, h1, h2⟩ := h w; ⟨γ, v, w, h1, h2, hH, Pres.refl _ _ _⟩)
theorem OpR.here {s : Sem Value} {x : AV} (hH : HR γ E.ng S w) (h : ∃ v, s.run E.P w = .ok v w ∧ VR γ x v) : OpR E γ S w (do pure (.value (← s))) (.v x S) :=
  OpR.val (let ⟨v, h1, h2⟩ := h; ⟨γ, v, w, h1, h2, hH, Pres.refl _ _ _⟩)
theorem Out.opr {s : Sem Value} {x : AV} {S' : Hp} (h : Out E.P γ E.ng S s x S') (hH : HR γ E.ng S w) : OpR E γ S w (do pure (.value (← s))) (.v x S') := OpR.val (h w hH)
theorem OutU.opr {s : Sem Unit} {S' : Hp} (h : OutU E.P γ E.ng S s S') (hH : HR γ E.ng S w) : OpR E γ S w (do s; pure .skip) (.v (.tup []) S') := OpR.unit (h w hH)

variable {tm : Tm} {fr : Frame} (hT : TR γ tm fr.tmps) (hH : HR γ E.ng S w)
include hT hH

theorem ev_ok {x : Operand} {v : AV} (h : evX E.ng tm x = some v) : VR γ v (fr.eval x) := evX_ok hT hH.glob h
theorem evs_ok {l : List Operand} {r : List AV} (h : evXs E.ng tm l = some r) : LR γ r (l.map fr.eval) := evXs_ok hT hH.glob h
theorem evPs_ok {l : List (Nat × Operand)} {r : List (Nat × AV)} (h : evPs E.ng tm l = some r) : PR γ r (l.map fun (i, x) => (i, fr.eval x)) := by
  induction l generalizing r with
  | nil => cases h; exact .nil
  | cons p l ih =>
    have h' : (Option.rec none (fun y => Option.rec none (fun t => some ((p.1, y) :: t)) (evPs E.ng tm l)) (evX E.ng tm p.2) : Option (List (Nat × AV))) = some r := h
    obtain ⟨y, h1, h2⟩ := recb_ok h'
    obtain ⟨t, h3, h4⟩ := recb_ok h2
    cases h4
    exact .cons _ (ev_ok hT hH h1) (ih h3)
theorem evO_ok {x : Option Operand} {v : Option AV} (h : evO E.ng tm x = some v) : OVR γ v (x.map fr.eval) := by
  cases x with
  | none => cases h; trivial
  | some x =>
    obtain ⟨y, h1, h2⟩ := recb_ok (o := evX E.ng tm x) h
    cases h2
    exact ev_ok hT hH h1

include hE
omit hT hH in
theorem tasA_ok {x r : AV} {a : Nat} {ok : Bool} (h : tasA E x a ok = some r) {x' : Value} (hx : VR γ x x') (xT : Nat) : Gives E.P γ (Instr.typeAssert x' xT a ok) r := by
  unfold tasA at h
  cases hu : und E a with
  | none => rw [hu] at h; cases h
  | some D =>
    rw [hu] at h
    obtain ⟨hn, h2⟩ := rec_some h
    have hni : ∀ ms, D ≠ .interface ms := by intro ms e; subst e; cases hn
    clear h
    unfold tasB at h2
    have fails : ∀ z, zeroA E a = some z → r = .tup [z, .bool false] → (∀ w, (Instr.typeAssert x' xT a true).run E.P w = ((Go.zeroValue a).run E.P w).andThen fun v w => .ok (.tuple #[v, .bool false]) w) → Gives E.P γ (Instr.typeAssert x' xT a true) r := by
      intro z hz hr hrun
      subst hr
      obtain ⟨v, hv, hvr⟩ := run_zero hE hz γ
      exact .mk (v := .tuple #[v, .bool false]) (fun w => by rw [hrun, hv]; rfl) (.tup (.cons hvr (.cons (.bool false) .nil)))
    split at h2
    · rename_i t v
      cases hx with
      | ifc _ hv =>
        split at h2
        · rename_i hb
          cases h2
          have := Nat.eq_of_beq_eq_true hb
          subst this
          refine .mk (fun w => ?_) (.tup (.cons hv (.cons (.bool true) .nil)))
          simp only [Instr.typeAssert, Sem.run_bind, run_und hE hu, Result.andThen_ok]
          cases D <;> first | rfl | (simp; done) | exact (hni _ rfl).elim
        · rename_i hb
          cases h2
          have := Nat.eq_of_beq_eq_true hb
          subst this
          refine .mk (fun w => ?_) hv
          simp only [Instr.typeAssert, Sem.run_bind, run_und hE hu, Result.andThen_ok]
          cases D <;> first | rfl | (simp; done) | exact (hni _ rfl).elim
        · rename_i hb
          split at h2
          · rename_i z hz
            cases h2
            have hne : t ≠ a := fun e => by rw [e, nat_beq_decide] at hb; simp at hb
            refine fails z hz rfl (fun w => ?_)
            simp only [Instr.typeAssert, Sem.run_bind, run_und hE hu, Result.andThen_ok]
            cases D <;> first | exact (hni _ rfl).elim | (simp [hne]; done)
          · cases h2
        · cases h2
    · cases hx
      split at h2
      · split at h2
        · rename_i z hz
          cases h2
          refine fails z hz rfl (fun w => ?_)
          simp only [Instr.typeAssert, Sem.run_bind, run_und hE hu, Result.andThen_ok]
          cases D <;> first | exact (hni _ rfl).elim | (simp; done)
        · cases h2
      · cases h2
    · cases h2
omit hT hH in
theorem ifcA_ok {x r : AV} {t : Nat} (h : ifcA E t x = some r) {x' : Value} (hx : VR γ x x') : Gives E.P γ (Instr.makeInterface t x') r := by
  unfold ifcA at h
  split at h
  · rename_i D hu
    obtain ⟨hn, h2⟩ := rec_some h
    cases h2
    refine .mk (fun w => ?_) (.ifc t hx)
    simp only [Instr.makeInterface, Sem.run_bind, run_und hE hu, Result.andThen_ok]
    cases D <;> first | rfl | cases hn
  · cases h
omit hT hH hE in
theorem mm_ok {g : AV → AV → Option AV} {g' : Value → Value → Sem Value} (hg : ∀ {a b r : AV} {a' b' : Value}, g a b = some r → VR γ a a' → VR γ b b' → Gives E.P γ (g' a' b') r) {l : List AV} {l' : List Value} (hl : LR γ l l') :
    ∀ {x r : AV} {x' : Value}, VR γ x x' → mm g l x = some r → Gives E.P γ (l'.foldlM g' x') r := by
  induction l generalizing l' with
  | nil => intro x r x' hx h; cases hl; cases h; exact .mk (fun w => rfl) hx
  | cons y l ih =>
    intro x r x' hx h
    cases hl with
    | @cons _ y' _ l' hy ht =>
      have h' : (Option.rec none (mm g l) (g x y) : Option AV) = some r := h
      obtain ⟨z, h1, h2⟩ := recb_ok h'
      intro w
      obtain ⟨v, hv1, hv2⟩ := hg h1 hx hy w
      obtain ⟨u, hu1, hu2⟩ := ih ht hv2 h2 w
      exact ⟨u, by simp only [List.foldlM_cons, Sem.run_bind, hv1, Result.andThen_ok, hu1], hu2⟩

omit hE hT hH in
theorem extA_ok {x : Ext} {args : List AV} {r : AV} (h : extA x args = some r) {args' : List Value} (ha : LR γ args args') : ∃ v, (x.sem ⟨args'⟩).run E.P w = .ok v w ∧ VR γ r v := by
  cases x with
  | sqrt =>
    unfold extA at h
    simp only at h
    split at h
    · rename_i b
      split at h
      · rename_i r' hr
        cases h
        cases ha with
        | cons hx hn =>
          cases hx
          cases hn
          refine ⟨.float .f64 r', ?_, .flt _ _⟩
          have e : Extern.MathSqrt.sqrt #[.float .f64 b] = (match FloatKind.f64.format.sqrt b with | some r => pure (.float .f64 r) | none => do pure (.float .f64 (← choose (.nanBits .f64 b b)))) := rfl
          show (Extern.MathSqrt.sqrt #[.float .f64 b]).run E.P w = _
          rw [e, hr]
          rfl
      · cases h
    · cases h
omit hT in
theorem callV_ok {f : AV} {args : List AV} {r : RO} (h : callV E S f args = some r) {f' : Value} {args' : List Value} (hf : VR γ f f') (ha : LR γ args args') :
    OpR E γ S w (do let d ← Deferred.ofValue f' ⟨args'⟩; invoke d.target d.args) r := by
  unfold callV at h
  split at h
  · rename_i f first cap
    split at h
    · rename_i i hi
      cases h
      cases hf with
      | @fn _ _ first' cap' _ h1 h2 =>
        obtain ⟨fn, g1, g2, g3, g4, g5⟩ := hE.funcs f i hi
        refine ⟨first' ++ args' ++ cap', ?_, ?_, i, hi⟩
        · simp only [Deferred.ofValue, Sem.run_bind, Sem.run_pure, Result.andThen_ok, invoke, callFunc, Go.program, Sem.run, g1]
          simp [g5, g2]
        · exact (h1.lapp ha).lapp h2
    · unfold extV at h
      split at h
      · rename_i x hx
        obtain ⟨v, h3, rfl⟩ := vS_ok h
        cases hf with
        | @fn _ _ first' cap' _ h1 h2 =>
          obtain ⟨fn, g1, g2, g3, g4, g5⟩ := hE.ext f x hx
          obtain ⟨v', e1, e2⟩ := extA_ok (E := E) (w := w) h3 ((h1.lapp ha).lapp h2)
          refine ⟨γ, v', w, .inl ?_, e2, hH, Pres.refl _ _ _⟩
          have e1' : (x.sem (first' ++ (args' ++ cap')).toArray).run E.P w = .ok v' w := by rw [List.append_assoc] at e1; exact e1
          simp only [Deferred.ofValue, Sem.run_bind, Sem.run_pure, Result.andThen_ok, invoke, callFunc, Go.program, Sem.run, g1]
          simp [g2, g3, g4, g5, e1', Go.mark, Sem.run]
      · cases h
  · cases h
    cases hf with
    | @yl _ L hL =>
      exact ⟨L, args', hL, ha, fun w => by simp [Deferred.ofValue, invoke]⟩
  · cases h
omit hT in
theorem builtA_ok {b : Builtin} {ts : Array TypeId} {ty : TypeId} {consts : Array Bool} {args : List AV} {r : RO} (h : builtA E S b ts.toList args = some r) {args' : List Value} (ha : LR γ args args') :
    OpR E γ S w (builtin b ts ty consts ⟨args'⟩) r := by
  have hts : ∀ {t : Nat} {l : List Nat}, ts.toList = t :: l → ts[0]? = some t := by
    intro t l e; rw [← Array.getElem?_toList, e]; rfl
  have hts1 : ∀ {t u : Nat} {l : List Nat}, ts.toList = t :: u :: l → ts[1]? = some u := by
    intro t u l e; rw [← Array.getElem?_toList, e]; rfl
  unfold builtA at h
  split at h
  · split at h
    · rename_i t tl x xl e1
      obtain ⟨y, h1, rfl⟩ := vS_ok h
      cases ha with
      | cons hx _ => exact OpR.here hH (lenA_ok hE h1 hx hH (hts e1) rfl)
    · cases h
  · split at h
    · rename_i t u tl x y xl e1
      obtain ⟨z, S', h1, rfl⟩ := vP_ok h
      cases ha with
      | cons hx hl => cases hl with
        | cons hy _ => exact (appA_ok hE h1 hx hy (hts e1) (hts1 e1) ty rfl rfl).opr hH
    · cases h
  · split at h
    · obtain ⟨z, h1, rfl⟩ := vS_ok h
      cases ha with
      | cons hx hl => exact (mm_ok (fun h ha hb => max2A_ok h ha hb) hl hx h1).opr hH
    · cases h
  · split at h
    · obtain ⟨z, h1, rfl⟩ := vS_ok h
      cases ha with
      | cons hx hl => exact (mm_ok (fun h ha hb => min2A_ok h ha hb) hl hx h1).opr hH
    · cases h
  · cases h; rfl
  · cases h

set_option maxHeartbeats 4000000 in
theorem evOp_ok {o : Oper} {r : RO} (h : evOp o.op E tm S o.type = some r) : OpR E γ S w (execOp fr.eval o) r := by
  obtain ⟨dst, op, type, pos, after, guard⟩ := o
  have ev := fun {x v} h => ev_ok (E := E) hT hH (x := x) (v := v) h
  cases op with
  | move x =>
    obtain ⟨v, h1, rfl⟩ := vS_ok (o := evX E.ng tm x) h
    exact ⟨γ, fr.eval x, w, .inl rfl, ev h1, hH, Pres.refl _ _ _⟩
  | assign x =>
    obtain ⟨v, h1, rfl⟩ := vS_ok (o := evX E.ng tm x) h
    exact ⟨γ, fr.eval x, w, .inl rfl, ev h1, hH, Pres.refl _ _ _⟩
  | pick c a b =>
    obtain ⟨cv, h1, h2⟩ := b1_ok (o := evX E.ng tm c) h
    have hc := ev h1
    split at h2
    · obtain ⟨v, h3, rfl⟩ := vS_ok h2
      generalize hcv : fr.eval c = cv' at hc
      cases hc
      exact ⟨γ, fr.eval a, w, .inl (by simp [execOp, hcv, asBool]), ev h3, hH, Pres.refl _ _ _⟩
    · obtain ⟨v, h3, rfl⟩ := vS_ok h2
      generalize hcv : fr.eval c = cv' at hc
      cases hc
      exact ⟨γ, fr.eval b, w, .inl (by simp [execOp, hcv, asBool]), ev h3, hH, Pres.refl _ _ _⟩
    · cases h2
  | alloc t =>
    obtain ⟨v, S', h1, rfl⟩ := vP_ok (o := allocA E S t) h
    exact (allocA_ok hE h1).opr hH
  | box t x =>
    obtain ⟨v, h1, h2⟩ := b1_ok (o := evX E.ng tm x) h
    cases h2
    exact (box_ok (ev h1)).opr hH
  | build t ps =>
    obtain ⟨l, h1, h2⟩ := recb_ok (o := evPs E.ng tm ps.toList) h
    obtain ⟨v, h3, rfl⟩ := vS_ok h2
    have := (buildA_ok hE h3 (evPs_ok hT hH h1)).opr hH
    show OpR E γ S w (do pure (.value (← Instr.build t (ps.map fun (i, x) => (i, fr.eval x))))) _
    rw [amap]; exact this
  | buildSlice t len ps =>
    obtain ⟨l, h1, h2⟩ := recb_ok (o := evPs E.ng tm ps.toList) h
    obtain ⟨v, S', h3, rfl⟩ := vP_ok h2
    have := (buildSA_ok hE h3 (evPs_ok hT hH h1)).opr hH
    show OpR E γ S w (do pure (.value (← Instr.buildSlice t len (ps.map fun (i, x) => (i, fr.eval x))))) _
    rw [amap]; exact this
  | insert t m k x =>
    obtain ⟨m', h1, h2⟩ := b1_ok (o := evX E.ng tm m) h
    obtain ⟨k', h3, h4⟩ := b1_ok h2
    obtain ⟨x', h5, h6⟩ := b1_ok h4
    obtain ⟨S', h7, rfl⟩ := vU_ok h6
    exact (mapUpdateA_ok hE h7 (ev h1) (ev h3) (ev h5)).opr hH
  | load t a =>
    obtain ⟨a', h1, h2⟩ := b1_ok (o := evX E.ng tm a) h
    obtain ⟨v, h3, rfl⟩ := vS_ok h2
    exact OpR.here hH (loadA_ok hE hH h3 (ev h1))
  | store t a x =>
    obtain ⟨a', h1, h2⟩ := b1_ok (o := evX E.ng tm a) h
    obtain ⟨x', h3, h4⟩ := b1_ok h2
    obtain ⟨S', h5, rfl⟩ := vU_ok h4
    exact (storeA_ok hE h5 (ev h1) (ev h3)).opr hH
  | ready g => cases h
  | waits g => cases h
  | nilCheck x =>
    obtain ⟨v, h1, h2⟩ := b1_ok (o := evX E.ng tm x) h
    obtain ⟨h3, h4⟩ := rec_some h2
    cases h4
    have hv := ev h1
    refine ⟨γ, fr.eval x, w, .inl ?_, hv, hH, Pres.refl _ _ _⟩
    show (match fr.eval x with
      | .pointer none | .nilIface | .nilFunc => runtimePanic .nilDeref
      | .func (.method name) first captured =>
        match (first[0]? : Option Value) with
        | some .nilIface => runtimePanic .nilDeref
        | some (.iface t w) => do
          if (← nilAhead ((← program).types.size + Made.depth) t w name) != some false then
            unsupported (.noEntry "op/nilCheck.the method's receiver behind this interface value is a nil pointer, or cannot be seen to be none, and the arguments act or may panic (ledger 612)")
          pure (.value (.func (.method name) first captured))
        | _ => pure (.value (.func (.method name) first captured))
      | x => pure (.value x) : Sem Next).run E.P w = _
    generalize fr.eval x = u at hv ⊢
    cases hv <;> first | rfl | cases h3
  | binOp op t x y yt =>
    obtain ⟨a, h1, h2⟩ := b1_ok (o := evX E.ng tm x) h
    obtain ⟨b, h3, h4⟩ := b1_ok h2
    obtain ⟨v, h5, rfl⟩ := vS_ok h4
    exact (bin_ok hE h5 (ev h1) (ev h3)).opr hH
  | unOp op t x =>
    obtain ⟨a, h1, h2⟩ := b1_ok (o := evX E.ng tm x) h
    obtain ⟨v, h5, rfl⟩ := vS_ok h2
    exact (un_ok h5 (ev h1)).opr hH
  | convert s d x =>
    obtain ⟨a, h1, h2⟩ := b1_ok (o := evX E.ng tm x) h
    obtain ⟨v, h5, rfl⟩ := vS_ok h2
    exact OpR.here hH (conv2_ok hE hH h5 (ev h1))
  | sliceToArrayPointer a x => cases h
  | makeInterface t x =>
    obtain ⟨a, h1, h2⟩ := b1_ok (o := evX E.ng tm x) h
    obtain ⟨v, h5, rfl⟩ := vS_ok h2
    exact (ifcA_ok hE h5 (ev h1)).opr hH
  | makeFunc fn first cap =>
    cases fn with
    | func f =>
      obtain ⟨a, h1, h2⟩ := recb_ok (o := evXs E.ng tm first.toList) h
      obtain ⟨c, h3, h4⟩ := recb_ok h2
      cases h4
      refine ⟨γ, .func (.func f) (first.map fr.eval) (cap.map fr.eval), w, .inl (by simp [execOp, Instr.makeFunc]), ?_, hH, Pres.refl _ _ _⟩
      have e1 : first.map fr.eval = ⟨first.toList.map fr.eval⟩ := amap _ _
      have e2 : cap.map fr.eval = ⟨cap.toList.map fr.eval⟩ := amap _ _
      rw [e1, e2]
      exact .fn f (evs_ok hT hH h1) (evs_ok hT hH h3)
    | _ => cases h
  | makeMap t r =>
    cases r with
    | none => cases h; exact makeMap_ok.opr hH
    | some x => cases h
  | makeChan t s => cases h
  | makeSlice t l c =>
    obtain ⟨a, h1, h2⟩ := b1_ok (o := evX E.ng tm l) h
    obtain ⟨b, h3, h4⟩ := b1_ok h2
    obtain ⟨v, S', h5, rfl⟩ := vP_ok h4
    exact (makeSA_ok hE h5 (ev h1) (ev h3)).opr hH
  | slice t x lo hi mx =>
    obtain ⟨a, h1, h2⟩ := b1_ok (o := evX E.ng tm x) h
    split at h2
    · rename_i lo' hi' mx' g1 g2 g3
      obtain ⟨v, h5, rfl⟩ := vS_ok h2
      exact OpR.here hH (sliceA_ok hE hH h5 (ev h1) (evO_ok hT hH g1) (evO_ok hT hH g2) (evO_ok hT hH g3))
    · cases h2
  | fieldAddr t x f =>
    obtain ⟨a, h1, h2⟩ := b1_ok (o := evX E.ng tm x) h
    obtain ⟨v, h5, rfl⟩ := vS_ok h2
    exact (faddrA_ok hE h5 (ev h1)).opr hH
  | field t x f =>
    obtain ⟨a, h1, h2⟩ := b1_ok (o := evX E.ng tm x) h
    obtain ⟨v, h5, rfl⟩ := vS_ok h2
    exact (fieldA_ok hE h5 (ev h1)).opr hH
  | indexAddr t x i =>
    obtain ⟨a, h1, h2⟩ := b1_ok (o := evX E.ng tm x) h
    obtain ⟨b, h3, h4⟩ := b1_ok h2
    obtain ⟨v, h5, rfl⟩ := vS_ok h4
    exact (iaddrA_ok hE h5 (ev h1) (ev h3)).opr hH
  | index t x i =>
    obtain ⟨a, h1, h2⟩ := b1_ok (o := evX E.ng tm x) h
    obtain ⟨b, h3, h4⟩ := b1_ok h2
    obtain ⟨v, h5, rfl⟩ := vS_ok h4
    exact (indexA_ok hE h5 (ev h1) (ev h3)).opr hH
  | lookup t x k ok =>
    obtain ⟨a, h1, h2⟩ := b1_ok (o := evX E.ng tm x) h
    obtain ⟨b, h3, h4⟩ := b1_ok h2
    obtain ⟨v, h5, rfl⟩ := vS_ok h4
    exact OpR.here hH (lookupA_ok hE hH h5 (ev h1) (ev h3))
  | mapUpdate t m k x =>
    obtain ⟨m', h1, h2⟩ := b1_ok (o := evX E.ng tm m) h
    obtain ⟨k', h3, h4⟩ := b1_ok h2
    obtain ⟨x', h5, h6⟩ := b1_ok h4
    obtain ⟨S', h7, rfl⟩ := vU_ok h6
    exact (mapUpdateA_ok hE h7 (ev h1) (ev h3) (ev h5)).opr hH
  | mapEntry t m k => cases h
  | entryStore t m s x => cases h
  | range t x => cases h
  | next i s => cases h
  | entry i => cases h
  | typeAssert x xt a ok =>
    obtain ⟨v, h1, h2⟩ := b1_ok (o := evX E.ng tm x) h
    obtain ⟨u, h5, rfl⟩ := vS_ok h2
    exact (tasA_ok hE h5 (ev h1) xt).opr hH
  | extract x i =>
    obtain ⟨a, h1, h2⟩ := b1_ok (o := evX E.ng tm x) h
    have ha := ev h1
    split at h2
    · rename_i l
      obtain ⟨v, h5, rfl⟩ := vS_ok h2
      rw [nth_eq] at h5
      refine OpR.here hH ?_
      generalize fr.eval x = u at ha ⊢
      cases ha with
      | tup hl =>
        obtain ⟨y, h6, h7⟩ := hl.nth i h5
        exact ⟨y, by simp [Instr.extract, h6], h7⟩
    · cases h2
  | call c =>
    obtain ⟨args, h1, h2⟩ := recb_ok (o := evXs E.ng tm c.args.toList) h
    have ha := evs_ok hT hH h1
    have e1 : c.args.map fr.eval = ⟨c.args.toList.map fr.eval⟩ := amap _ _
    obtain ⟨callee, cargs, ats⟩ := c
    cases callee with
    | value f =>
      obtain ⟨fv, h3, h4⟩ := b1_ok h2
      have := callV_ok hE hH h4 (ev h3) ha
      show OpR E γ S w (do let d ← resolve fr.eval _ type; invoke d.target d.args) r
      simp only [resolve]
      rw [e1]
      exact this
    | invoke a n => cases h2
    | builtin b =>
      show OpR E γ S w (do let d ← resolve fr.eval _ type; invoke d.target d.args) r
      simp only [resolve]
      rw [e1]
      simp only [pure_bind, invoke]
      exact builtA_ok hE hH h2 ha
  | go c => cases h
  | defer c =>
    obtain ⟨args, h1, h2⟩ := recb_ok (o := evXs E.ng tm c.args.toList) h
    have ha := evs_ok hT hH h1
    have e1 : c.args.map fr.eval = ⟨c.args.toList.map fr.eval⟩ := amap _ _
    obtain ⟨callee, cargs, ats⟩ := c
    cases callee with
    | value f =>
      obtain ⟨fv, h3, h4⟩ := b1_ok h2
      have hf := ev h3
      split at h4
      · rename_i f2 first cap
        cases h4
        generalize hfe : fr.eval f = fe at hf
        cases hf with
        | @fn _ _ first' cap' _ g1 g2 =>
          refine ⟨{ target := .fn (.func f2) ⟨cap'⟩, args := ⟨first' ++ cargs.toList.map fr.eval⟩ }, ?_, .call f2 (g1.append ha) g2⟩
          show (do let d ← resolve fr.eval _ type; pure (Next.defer d) : Sem Next).run E.P w = _
          simp only [resolve]
          rw [e1, hfe]
          simp [Deferred.ofValue]
      · cases h4
    | invoke a n => cases h2
    | builtin b => cases h2
  | panic x =>
    obtain ⟨v, h1, h2⟩ := b1_ok (o := evX E.ng tm x) h
    have hv := ev h1
    split at h2
    · cases h2
      generalize hfe : fr.eval x = fe at hv
      have hv' := hv
      cases hv with
      | ifc t hv2 =>
        refine ⟨_, ?_, hv'⟩
        show (do pure (Next.value (← Instr.panic (fr.eval x))) : Sem Next).run E.P w = _
        rw [hfe]
        simp [Instr.panic, goPanic, Sem.run]
    · cases h2
  | send c x => cases h
  | recv t c ok => cases h
  | select cs b => cases h
end
end Go.AM
