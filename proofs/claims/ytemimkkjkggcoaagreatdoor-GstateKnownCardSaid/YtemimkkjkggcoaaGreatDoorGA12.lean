import Derived.Test.YtemimkkjkggcoaaGreatDoorGA11
/- Memory: loads, stores, new variables, new rows. -/
namespace Go.AM

/-- what an operation gives -/
def Out (P : Program) (γ : Gm) (ng : Nat) (S : Hp) (s : Sem Value) (x : AV) (S' : Hp) : Prop :=
  ∀ w, HR γ ng S w → ∃ γ' v w', s.run P w = .ok v w' ∧ VR γ' x v ∧ HR γ' ng S' w' ∧ Pres S γ w S' γ' w'
def OutU (P : Program) (γ : Gm) (ng : Nat) (S : Hp) (s : Sem Unit) (S' : Hp) : Prop :=
  ∀ w, HR γ ng S w → ∃ γ' w', s.run P w = .ok () w' ∧ HR γ' ng S' w' ∧ Pres S γ w S' γ' w'
theorem Gives.out {P : Program} {γ : Gm} {ng : Nat} {S : Hp} {s : Sem Value} {x : AV} (h : Gives P γ s x) : Out P γ ng S s x S := fun w hw =>
  let ⟨v, hv, hr⟩ := h w; ⟨γ, v, w, hv, hr, hw, Pres.refl S γ w⟩

/-! loads -/
theorem run_loadCellsFrom {P : Program} {w : World} {a : Addr} (vs : List Value) : ∀ (i : Nat) (acc : Array Value), (∀ j v, vs[j]? = some v → w.cell? (a.add (i + j)) = some v) →
    (Go.loadCellsFrom a i vs.length acc).run P w = .ok (acc ++ vs.toArray) w := by
  induction vs with
  | nil => intro i acc h; simp [Go.loadCellsFrom]
  | cons v vs ih =>
    intro i acc h
    have h0 := h 0 v rfl
    simp only [List.length_cons, Go.loadCellsFrom, Sem.run_bind]
    rw [show (Go.load (a.add i)).run P w = .ok v w from by simp only [Go.load, Sem.run]; rw [show a.add i = a.add (i + 0) from rfl, h0]]
    simp only [Result.andThen_ok]
    rw [ih (i + 1) (acc.push v) (fun j u hj => by have := h (j + 1) u hj; rwa [show i + (j + 1) = i + 1 + j from by omega] at this)]
    congr 1
    apply Array.ext'
    simp
theorem HR.range {γ : Gm} {ng : Nat} {S : Hp} {w : World} (h : HR γ ng S w) {a : Ps} {c : List AV} {elem lo hi : Nat} {ex sty : Bool} {L : Loc} (ha : S.hp.get a = some (.cells c elem ex sty lo hi)) (hL : γ a = some L)
    {o n : Nat} {l : List AV} (hl : ltake n (ldrop o c) = some l) (P : Program) : ∃ vs, (Go.loadCells ⟨L.blk, L.off + o, none⟩ n).run P w = .ok ⟨vs⟩ w ∧ LR γ l vs ∧ vs.length = n := by
  obtain ⟨M, ob, h1, h2, pre, cs, post, fz, rfl, h4, h5, h6, h7⟩ := h.obj a _ ha
  rw [hL] at h1; cases h1
  obtain ⟨e, hle⟩ := ltake_eq hl
  rw [ldrop_eq] at e hle
  refine ⟨(cs.drop o).take n, ?_, e ▸ (h6.drop o).take n, ?_⟩
  · have hn : ((cs.drop o).take n).length = n := by
      have := h6.length
      simp at hle ⊢; omega
    have := run_loadCellsFrom (P := P) (w := w) (a := ⟨L.blk, L.off + o, none⟩) ((cs.drop o).take n) 0 #[] ?_
    · rw [hn] at this
      unfold Go.loadCells
      rw [this]; simp
    · intro j v hj
      have hlt : j < n := by
        have := (List.getElem?_eq_some_iff.1 hj).1
        omega
      rw [List.getElem?_take_of_lt hlt, List.getElem?_drop] at hj
      rw [addr_add, Nat.zero_add]
      unfold World.cell?
      rw [h2]
      have hi : o + j < cs.length := (List.getElem?_eq_some_iff.1 hj).1
      simp only [Option.isSome_none, Bool.false_eq_true, if_false]
      rw [← h4, List.getElem?_toArray, List.append_assoc, List.getElem?_append_right (by omega)]
      rw [show pre.length + o + j - pre.length = o + j from by omega, List.getElem?_append_left hi]; exact hj
  · have := h6.length
    simp at hle ⊢; omega

section
variable {E : Env} (hE : E.Ok) {γ : Gm}

noncomputable def loadC (E : Env) (t : Nat) (c : List AV) (o : Nat) : Option AV := partA E t c o
noncomputable def loadC0 (E : Env) (t : Nat) (c : List AV) (o : Nat) : Option AV :=
  match isAggA E t, sizeA E t with
  | some true, some n => (match ltake n (ldrop o c) with | some l => some (.agg l) | none => none)
  | some false, _ => nth c o
  | _, _ => none
theorem loadC_eq (E : Env) (t : Nat) (c : List AV) (o : Nat) : loadC E t c o = loadC0 E t c o := partA_eq E t c o
noncomputable def cellOf (o : AO) : Option (List AV) := AO.rec (fun c _ _ _ _ _ => some c) (fun _ _ => none) (fun _ _ => none) (fun _ _ _ _ _ _ _ _ _ => none) (fun _ => none) o
noncomputable def loadO (E : Env) (t : Nat) (o : Nat) (a : Option AO) : Option AV := Option.rec none (fun a => Option.rec none (fun c => loadC E t c o) (cellOf a)) a
noncomputable def loadA (E : Env) (S : Hp) (t : Nat) (x : AV) : Option AV :=
  Option.rec none (fun p => Prod.rec (fun b o => loadO E t o (T.get b S.hp)) p) (ptrOf x)
noncomputable def loadA0 (E : Env) (S : Hp) (t : Nat) (x : AV) : Option AV :=
  match x with
  | .ptr b o => (match T.get b S.hp with | some (.cells c _ _ _ _ _) => loadC E t c o | _ => none)
  | _ => none
theorem loadA_eq (E : Env) (S : Hp) (t : Nat) (x : AV) : loadA E S t x = loadA0 E S t x := by
  unfold loadA loadA0
  cases x <;> first
    | rfl
    | (rename_i b o
       show loadO E t o (T.get b S.hp) = _
       simp only
       cases T.get b S.hp with
       | none => rfl
       | some a => cases a <;> rfl)
include hE in
theorem loadVar_ok {S : Hp} {ng : Nat} {w : World} (hH : HR γ ng S w) {t : Nat} {b : Ps} {o : Nat} {c : List AV} {elem lo hi : Nat} {ex sty : Bool} {L : Loc} (hb : T.get b S.hp = some (.cells c elem ex sty lo hi)) (hL : γ b = some L) {r : AV}
    (h : loadC E t c o = some r) : ∃ v, (Go.loadVar t ⟨L.blk, L.off + o, none⟩).run E.P w = .ok v w ∧ VR γ r v := by
  rw [loadC_eq] at h; unfold loadC0 at h
  split at h
  · rename_i n ha hs
    split at h
    · rename_i l hl
      cases h
      obtain ⟨vs, hv, hr, _⟩ := hH.range hb hL hl E.P
      refine ⟨.agg ⟨vs⟩, ?_, .agg hr⟩
      simp only [Go.loadVar, Sem.run_bind, run_isAgg hE ha, Result.andThen_ok, if_true, run_size hE hs, hv]; rfl
    · cases h
  · rename_i ha
    rw [nth_eq] at h
    obtain ⟨v, hv, hr⟩ := hH.cell hb hL h
    refine ⟨v, ?_, hr⟩
    simp only [Go.loadVar, Sem.run_bind, run_isAgg hE ha, Result.andThen_ok, Bool.false_eq_true, if_false]
    simp only [Go.load, Sem.run, hv]
  · cases h
include hE in
theorem loadA_ok {S : Hp} {ng : Nat} {w : World} (hH : HR γ ng S w) {t : Nat} {x r : AV} (h : loadA E S t x = some r) {x' : Value} (hx : VR γ x x') : ∃ v, (Instr.loadAt t x').run E.P w = .ok v w ∧ VR γ r v := by
  rw [loadA_eq] at h; unfold loadA0 at h
  split at h
  · rename_i b o
    split at h
    · rename_i c elem ex sty lo hi hb
      cases hx with
      | ptr _ hL =>
        obtain ⟨v, hv, hr⟩ := loadVar_ok hE hH hb hL h
        exact ⟨v, by simp only [Instr.loadAt, Instr.sureAddr, Sem.run_bind, Sem.run_pure, Result.andThen_ok, hv], hr⟩
    · cases h
  · cases h

/-! stores -/
noncomputable def scal (x : AV) : Bool := match x with | .agg _ => false | .tup _ => false | _ => true
noncomputable def scals (l : List AV) : Bool := List.rec true (fun x _ ih => Bool.rec false ih (scal x)) l
def Value.isCell : Value → Prop | .agg _ => False | .tuple _ => False | _ => True
theorem scal_ok {x : AV} {v : Value} (h : VR γ x v) (hs : scal x = true) : Value.isCell v := by
  cases h <;> first | exact trivial | cases hs
theorem scals_ok {l : List AV} {l' : List Value} (h : LR γ l l') (hs : scals l = true) : ∀ v ∈ l', Value.isCell v := by
  induction l generalizing l' with
  | nil => cases h; intro v hv; cases hv
  | cons x l ih =>
    cases h with
    | cons h t =>
      obtain ⟨h1, h2⟩ : scal x = true ∧ scals l = true := by
        have hs' : (Bool.rec false (scals l) (scal x) : Bool) = true := hs
        cases hx : scal x with
        | false => rw [hx] at hs'; cases hs'
        | true => rw [hx] at hs'; exact ⟨rfl, hs'⟩
      intro v hv
      cases hv with
      | head => exact scal_ok h h1
      | tail _ hv => exact ih t h2 v hv
theorem run_store {P : Program} {w : World} {a : Addr} {v u : Value} (hv : Value.isCell v) (hc : w.cell? a = some u) (hf : w.frozen? a = false) : (Go.store a v).run P w = .ok () (w.setCell a v) := by
  cases v <;> first | exact hv.elim | simp [Go.store, Sem.run, hc, hf]
theorem run_storeCells {P : Program} {B O : Nat} {elem : TypeId} {fz : Nat × Nat} (vs : List Value) : ∀ (i : Nat) (w : World) (cs : List Value), w.heap[B]? = some (.cells ⟨cs⟩ elem fz) → O + i + vs.length ≤ cs.length →
    (∀ j, j < vs.length → ¬ (fz.1 ≤ O + i + j ∧ O + i + j < fz.2)) → (∀ v ∈ vs, Value.isCell v) →
    (Go.storeCells ⟨B, O, none⟩ vs i).run P w = .ok () { w with heap := w.heap.setIfInBounds B (.cells ⟨lputs vs (O + i) cs⟩ elem fz) } := by
  induction vs with
  | nil =>
    intro i w cs hb hl hf hv
    have hlt := (Array.getElem?_eq_some_iff.1 hb).1
    simp only [Go.storeCells, Sem.run_pure]
    congr 1
    cases w with | mk heap tape drawn os output =>
      simp only at hb hlt ⊢
      congr 1
      apply Array.ext_getElem?
      intro r
      rw [Array.getElem?_setIfInBounds]
      split
      · rename_i e; subst e; exact hb
      · rfl
  | cons v vs ih =>
    intro i w cs hb hl hf hv
    have hlt := (Array.getElem?_eq_some_iff.1 hb).1
    simp only [List.length_cons] at hl
    have hcell : w.cell? ⟨B, O + i, none⟩ = some (cs[O + i]'(by omega)) := by
      unfold World.cell?
      rw [hb]
      simp
    have hfr : w.frozen? ⟨B, O + i, none⟩ = false := by
      unfold World.frozen?
      rw [hb]
      have := hf 0 (by simp)
      simp only [Nat.add_zero] at this
      rw [Bool.eq_false_iff]
      simp only [ne_eq, Bool.and_eq_true, decide_eq_true_eq]
      exact this
    have hw1 : (w.setCell ⟨B, O + i, none⟩ v) = { w with heap := w.heap.setIfInBounds B (.cells ⟨cs.set (O + i) v⟩ elem fz) } := by
      unfold World.setCell
      congr 1
      apply Array.ext_getElem?
      intro r
      rw [Array.getElem?_modify, Array.getElem?_setIfInBounds]
      split
      · rename_i e
        have e' : B = r := e
        subst e'
        show Option.map _ w.heap[B]? = _
        rw [hb]
        simp [Array.setIfInBounds, Array.set]
        intro hge; omega
      · rfl
    simp only [Go.storeCells, Sem.run_bind, addr_add]
    rw [run_store (hv v (List.mem_cons_self)) hcell hfr]
    simp only [Result.andThen_ok]
    rw [hw1, ih (i + 1) _ (cs.set (O + i) v) ?_ ?_ ?_ ?_]
    · show Result.ok () _ = _
      congr 1
      show ({ w with heap := (w.heap.setIfInBounds B _).setIfInBounds B (.cells ⟨lputs vs (O + (i + 1)) (cs.set (O + i) v)⟩ elem fz) } : World) = _
      rw [Array.setIfInBounds_setIfInBounds]
      show _ = ({ w with heap := w.heap.setIfInBounds B (.cells ⟨lputs vs (O + i + 1) (lset v cs (O + i))⟩ elem fz) } : World)
      rw [lset_eq]; rfl
    · show (w.heap.setIfInBounds B _)[B]? = _
      rw [Array.getElem?_setIfInBounds_self, if_pos hlt]
    · simp; omega
    · intro j hj
      have := hf (j + 1) (by simp; omega)
      rw [show O + (i + 1) + j = O + i + (j + 1) from by omega]; exact this
    · intro u hu; exact hv u (List.mem_cons_of_mem _ hu)
theorem lputs_append {α : Type} (vs : List α) : ∀ (pre cs post : List α) (o : Nat), o + vs.length ≤ cs.length → lputs vs (pre.length + o) (pre ++ cs ++ post) = pre ++ lputs vs o cs ++ post := by
  induction vs with
  | nil => intro pre cs post o h; rfl
  | cons v vs ih =>
    intro pre cs post o h
    simp only [List.length_cons] at h
    show lputs vs (pre.length + o + 1) (lset v (pre ++ cs ++ post) (pre.length + o)) = pre ++ lputs vs (o + 1) (lset v cs o) ++ post
    rw [lset_eq, lset_eq]
    rw [show (pre ++ cs ++ post).set (pre.length + o) v = pre ++ cs.set o v ++ post from by
      rw [List.append_assoc, List.set_append_right _ _ (by omega), show pre.length + o - pre.length = o from by omega, List.set_append_left _ _ (by omega), List.append_assoc]]
    exact ih pre (cs.set o v) post (o + 1) (by simp; omega)
theorem lputs_LR {vs : List AV} {vs' : List Value} (h : LR γ vs vs') : ∀ (o : Nat) {cs : List AV} {cs' : List Value}, LR γ cs cs' → LR γ (lputs vs o cs) (lputs vs' o cs') := by
  induction vs generalizing vs' with
  | nil => intro o cs cs' hc; cases h; exact hc
  | cons v vs ih =>
    intro o cs cs' hc
    cases h with
    | @cons _ y _ l' hv ht =>
      show LR γ (lputs vs (o + 1) (lset v cs o)) (lputs l' (o + 1) (lset y cs' o))
      rw [lset_eq, lset_eq]
      exact ih ht (o + 1) (hc.set o hv)

/-- may n cells from o on be written? -/
noncomputable def thaw (lo hi o n : Nat) : Bool := Bool.or (Nat.beq lo hi) (Bool.or (Nat.ble (Nat.add o n) lo) (Nat.ble hi o))
/-- a list that is put over one of the same length takes its place -/
noncomputable def lput3 {α : Type} (vs : List α) (o : Nat) (c : List α) : List α := Bool.rec (lput2 vs o c) (Bool.rec (lput2 vs o c) vs (Nat.beq (llen c) (llen vs))) (Nat.beq o 0)
theorem lput3_eq {α : Type} (vs : List α) (o : Nat) (c : List α) : lput3 vs o c = lputs vs o c := by
  unfold lput3
  rw [lput2_eq]
  cases h : Nat.beq o 0 with
  | false => rfl
  | true =>
    have h0 := Nat.eq_of_beq_eq_true h
    subst h0
    cases h1 : Nat.beq (llen c) (llen vs) with
    | false => rfl
    | true =>
      have h2 := Nat.eq_of_beq_eq_true h1
      rw [llen_eq, llen_eq] at h2
      show vs = _
      rw [lputs_eq vs 0 c (by omega)]
      simp [← h2]
/-- has c the cells o to o + m? -/
noncomputable def lroom {α : Type} (o m : Nat) (c : List α) : Bool := Bool.rec (lhas (Nat.add o m) c) (Nat.ble m (llen c)) (Nat.beq o 0)
theorem lroom_eq {α : Type} (o m : Nat) (c : List α) : lroom o m c = Nat.ble (Nat.add o m) c.length := by
  unfold lroom
  rw [lhas_eq, llen_eq]
  cases h : Nat.beq o 0 with
  | false => rfl
  | true => have h0 := Nat.eq_of_beq_eq_true h; subst h0; show Nat.ble m c.length = Nat.ble (0 + m) c.length; rw [Nat.zero_add]
noncomputable def putW (S : Hp) (b : Ps) (o : Nat) (vs : List AV) (a : AO) : Option Hp :=
  AO.rec (fun c elem ex sty lo hi => Bool.rec none (Bool.rec none (Bool.rec none (Bool.rec none (some (S.put b (.cells (lput3 vs o c) elem ex sty lo hi))) (scals vs)) (thaw lo hi o (llen vs))) (lroom o (llen vs) c)) (Nat.ble S.fl b.idx))
    (fun _ _ => none) (fun _ _ => none) (fun _ _ _ _ _ _ _ _ _ => none) (fun _ => none) a
noncomputable def putC (S : Hp) (b : Ps) (o : Nat) (vs : List AV) : Option Hp := Option.rec none (fun a => putW S b o vs a) (T.get b S.hp)
noncomputable def putC0 (S : Hp) (b : Ps) (o : Nat) (vs : List AV) : Option Hp :=
  match T.get b S.hp with
  | some (.cells c elem ex sty lo hi) =>
    (match Nat.ble S.fl b.idx, Nat.ble (Nat.add o vs.length) c.length, thaw lo hi o vs.length, scals vs with
      | true, true, true, true => some (S.put b (.cells (lputs vs o c) elem ex sty lo hi))
      | _, _, _, _ => none)
  | _ => none
theorem putC_eq (S : Hp) (b : Ps) (o : Nat) (vs : List AV) : putC S b o vs = putC0 S b o vs := by
  unfold putC putC0
  cases T.get b S.hp with
  | none => rfl
  | some a =>
    cases a with
    | cells c elem ex sty lo hi =>
      show putW S b o vs (.cells c elem ex sty lo hi) = _
      unfold putW
      simp only [llen_eq, lroom_eq, lput3_eq]
      cases Nat.ble S.fl b.idx <;> cases Nat.ble (Nat.add o vs.length) c.length <;> cases thaw lo hi o vs.length <;> cases scals vs <;> rfl
    | _ => rfl
theorem putC_ok {S S' : Hp} {b : Ps} {o : Nat} {vs : List AV} (h : putC S b o vs = some S') {L : Loc} (hL : γ b = some L) {vs' : List Value} (hv : LR γ vs vs') {P : Program} {ng : Nat} :
    OutU P γ ng S (Go.storeCells ⟨L.blk, L.off + o, none⟩ vs') S' := by
  intro w hH
  rw [putC_eq] at h; unfold putC0 at h
  split at h
  · rename_i c elem ex sty lo hi hb
    split at h
    · rename_i h1 h2 h3 h4
      cases h
      obtain ⟨M, ob, g1, g2, pre, cs, post, fz, rfl, g4, g5, g6, g7, g8, g9⟩ := hH.obj b _ hb
      rw [hL] at g1; cases g1
      have hle := Nat.le_of_ble_eq_true h2
      have hle' : o + vs.length ≤ c.length := hle
      have e1 := hv.length
      have e2 := g6.length
      have hlt := (Array.getElem?_eq_some_iff.1 g2).1
      have hrun := run_storeCells (P := P) (B := L.blk) (O := L.off + o) (elem := elem) (fz := fz) vs' 0 w (pre ++ cs ++ post) g2 (by simp; omega) ?_ (scals_ok hv h4)
      · rw [Nat.add_zero, ← g4, lputs_append _ _ _ _ _ (by omega)] at hrun
        refine ⟨γ, _, by rw [← g4]; exact hrun, ?_⟩
        refine hH.put (o' := .cells (lputs vs o c) elem ex sty lo hi) (ob' := .cells ⟨pre ++ lputs vs' o cs ++ post⟩ elem fz) hb hL (Nat.le_of_ble_eq_true h1) (by simp) ?_ ?_ ?_ rfl rfl
        · intro r hr; exact Array.getElem?_setIfInBounds_ne (fun e => hr e.symm)
        · show (w.heap.setIfInBounds L.blk _)[L.blk]? = _
          rw [Array.getElem?_setIfInBounds_self, if_pos hlt]
        · refine ⟨pre, lputs vs' o cs, post, fz, rfl, g4, ?_, lputs_LR hv o g6, g7, by rw [lputs_length]; exact g8, g9⟩
          simp only [List.length_append, lputs_length] at g5 ⊢
          exact g5
      · intro j hj hc
        have hth : thaw lo hi o vs.length = true := h3
        unfold thaw at hth
        rw [nat_beq_decide, nat_ble_decide, nat_ble_decide] at hth
        simp only [Bool.or_eq_true, decide_eq_true_eq] at hth
        have hth2 : lo = hi ∨ o + vs.length ≤ lo ∨ hi ≤ o := hth
        rcases g7.1 (L.off + o + 0 + j) (by omega) hc.1 hc.2 with hx | ⟨hx, hy⟩
        · simp at g5; omega
        · omega
    · cases h
  · cases h
noncomputable def storeC (S : Hp) (b : Ps) (o n : Nat) (c : List AV) : Option Hp := Bool.rec none (putC S b o c) (Nat.beq (llen c) n)
noncomputable def storeA (E : Env) (S : Hp) (t : Nat) (a v : AV) : Option Hp :=
  Option.rec none (fun p => Option.rec none (fun n => Prod.rec (fun b o => storeC S b o n (cellsA v)) p) (sizeA E t)) (ptrOf a)
noncomputable def storeA0 (E : Env) (S : Hp) (t : Nat) (a v : AV) : Option Hp :=
  match a, sizeA E t with
  | .ptr b o, some n => Bool.rec none (putC S b o (cellsA v)) (Nat.beq (cellsA v).length n)
  | _, _ => none
theorem storeA_eq (E : Env) (S : Hp) (t : Nat) (a v : AV) : storeA E S t a v = storeA0 E S t a v := by
  unfold storeA storeA0
  cases a <;> first
    | rfl
    | (cases sizeA E t with
       | none => rfl
       | some n =>
         rename_i b o
         show storeC S b o n (cellsA v) = _
         unfold storeC
         rw [llen_eq])
include hE in
theorem storeA_ok {S S' : Hp} {t : Nat} {a v : AV} (h : storeA E S t a v = some S') {a' v' : Value} (ha : VR γ a a') (hv : VR γ v v') {ng : Nat} : OutU E.P γ ng S (Instr.storeAt t a' v') S' := by
  rw [storeA_eq] at h; unfold storeA0 at h
  split at h
  · rename_i b o n hs
    obtain ⟨hn, h2⟩ := rec_some h
    have hn' := Nat.eq_of_beq_eq_true hn
    cases ha with
    | @ptr _ L _ hL =>
      intro w hH
      have hc := cells_ok hv
      obtain ⟨γ', w', hrun, hr⟩ := putC_ok (P := E.P) (ng := ng) h2 hL hc w hH
      refine ⟨γ', w', ?_, hr⟩
      have e : v'.cells.size = n := by rw [← Array.length_toList, hc.length]; exact hn'
      simp only [Instr.storeAt, Instr.sureAddr, Go.storeVar, Sem.run_bind, Sem.run_pure, Result.andThen_ok, run_size hE hs, e, ne_eq, not_true_eq_false, if_false]
      exact hrun
  · cases h
end
end Go.AM
