import Derived.Test.YtemimkkjkggcoaaGreatDoorGA19
/- The relation between the abstract machine's frames and the model's; the steps within a frame. -/
namespace Go.AM

inductive IR (γ : Gm) : AI → Item → Prop where
  | code (c : Code) : IR γ (.code c) (.code c)
  | blk (id : Nat) : IR γ (.blk id) (.inBlock id)
  | lop (c : Code) : IR γ (.lop c) (.inLoop c)
  | scp (c : Code) : IR γ (.scp c) (.inScope c)
  | reg {ops : Array Oper} {i : Nat} {rest : List Oper} (h : ops.toList.drop i = rest) : IR γ (.reg ops i rest) (.inRegion ops (List.range' i rest.length))
  | inRF {l : Ps} {L : Loc} (h : γ l = some L) : IR γ (.inRF l) (.inRangeFunc L.blk)
  | endRF {l : Ps} {L : Loc} (h : γ l = some L) : IR γ (.endRF l) (.endRangeFunc L.blk)
  | beg : IR γ .beg .beginRound
inductive IsR (γ : Gm) : List AI → List Item → Prop where
  | nil : IsR γ [] []
  | cons {x : AI} {y : Item} {l : List AI} {l' : List Item} (h : IR γ x y) (t : IsR γ l l') : IsR γ (x :: l) (y :: l')
inductive DsR (γ : Gm) : List AD → List Deferred → Prop where
  | nil : DsR γ [] []
  | cons {x : AD} {y : Deferred} {l : List AD} {l' : List Deferred} (h : DR γ x y) (t : DsR γ l l') : DsR γ (x :: l) (y :: l')
inductive MR (γ : Gm) : AMd → FrameMode → Prop where
  | run : MR γ .run .run
  | ret : MR γ .ret .returning
  | pan {v : AV} {v' : Value} (r : Bool) (h : VR γ v v') : MR γ (.pan v r) (.panicking [{ v := v', recovered := r }])
inductive RdR (γ : Gm) : Option Ps → Option Nat → Prop where
  | none : RdR γ none none
  | some {l : Ps} {L : Loc} (h : γ l = some L) : RdR γ (some l) (some L.blk)

structure FR (γ : Gm) (E : Env) (f : AF) (fr : Frame) : Prop where
  fn : fr.fn = f.fn
  nt : fr.tmps.size = f.nt
  tm : f.lost = false → TR γ f.tm fr.tmps
  todo : f.md = .run → IsR γ f.todo fr.todo
  dfs : DsR γ f.dfs fr.defers
  md : MR γ f.md fr.mode
  kind : fr.kind = if f.dk then .deferred else .normal
  rd : RdR γ f.rd fr.roundOf
  fi : ∃ i, T.get (Ps.of f.fn) E.funcs = some (some i)
inductive CsR (γ : Gm) (E : Env) : List AF → List Frame → Prop where
  | nil : CsR γ E [] []
  | cons {x : AF} {y : Frame} {l : List AF} {l' : List Frame} (h : FR γ E x y) (t : CsR γ E l l') : CsR γ E (x :: l) (y :: l')

section mono
variable {γ γ' : Gm} (hg : Gm.le γ γ')
include hg
theorem IR.mono {x : AI} {y : Item} (h : IR γ x y) : IR γ' x y := by
  cases h with
  | code c => exact .code c
  | blk id => exact .blk id
  | lop c => exact .lop c
  | scp c => exact .scp c
  | reg h => exact .reg h
  | inRF h => exact .inRF (hg _ _ h)
  | endRF h => exact .endRF (hg _ _ h)
  | beg => exact .beg
theorem IsR.mono {x : List AI} {y : List Item} (h : IsR γ x y) : IsR γ' x y := by
  induction h with
  | nil => exact .nil
  | cons h _ ih => exact .cons (h.mono hg) ih
theorem DsR.mono {x : List AD} {y : List Deferred} (h : DsR γ x y) : DsR γ' x y := by
  induction h with
  | nil => exact .nil
  | cons h _ ih => exact .cons (h.mono hg) ih
theorem MR.mono {x : AMd} {y : FrameMode} (h : MR γ x y) : MR γ' x y := by
  cases h with
  | run => exact .run
  | ret => exact .ret
  | pan r h => exact .pan r (h.mono hg)
theorem RdR.mono {x : Option Ps} {y : Option Nat} (h : RdR γ x y) : RdR γ' x y := by
  cases h with
  | none => exact .none
  | some h => exact .some (hg _ _ h)
theorem FR.mono {E : Env} {f : AF} {fr : Frame} (h : FR γ E f fr) : FR γ' E f fr :=
  ⟨h.fn, h.nt, fun e => (h.tm e).mono hg, fun e => (h.todo e).mono hg, h.dfs.mono hg, h.md.mono hg, h.kind, h.rd.mono hg, h.fi⟩
theorem CsR.mono {E : Env} {x : List AF} {y : List Frame} (h : CsR γ E x y) : CsR γ' E x y := by
  induction h with
  | nil => exact .nil
  | cons h _ ih => exact .cons (h.mono hg) ih
end mono

/-- the frame at the bottom: its function and its loop -/
def lastF : Frame → List Frame → Nat × Option Nat
  | fr, [] => (fr.fn, fr.roundOf)
  | _, c :: cs => lastF c cs
/-- the machine goes on -/
def Goes (E : Env) (γ : Gm) (S : Hp) (fr : Frame) (frs : List Frame) (w : World) (f' : AF) (cs' : List AF) (S' : Hp) : Prop :=
  ∀ bot, ∃ γ' fr' frs' w', Steps E.P (lone fr (frs ++ bot) w) (lone fr' (frs' ++ bot) w') ∧ FR γ' E f' fr' ∧ CsR γ' E cs' frs' ∧ HR γ' E.ng S' w' ∧ Pres S γ w S' γ' w' ∧ lastF fr' frs' = lastF fr frs

section
variable {E : Env} {γ : Gm} {S : Hp} {fr : Frame} {frs : List Frame} {w : World}
theorem lastF_eq {fr fr' : Frame} (h1 : fr'.fn = fr.fn) (h2 : fr'.roundOf = fr.roundOf) (frs : List Frame) : lastF fr' frs = lastF fr frs := by
  cases frs with
  | nil => simp [lastF, h1, h2]
  | cons c cs => rfl
theorem RdR.eq {γ γ' : Gm} (hg : Gm.le γ γ') {r : Option Ps} {a b : Option Nat} (h : RdR γ r a) (k : RdR γ' r b) : b = a := by
  cases h with
  | none => cases k; rfl
  | some h => cases k with | some k => rw [hg _ _ h] at k; cases k; rfl
/-- the frame itself goes on -/
theorem Goes.here {f f' : AF} {cs : List AF} {S' : Hp} (hf : FR γ E f fr) (hc : CsR γ E cs frs) (hfn : f'.fn = f.fn) (hrd : f'.rd = f.rd)
    (h : ∀ cs, ∃ γ' fr' w', Steps E.P (lone fr cs w) (lone fr' cs w') ∧ FR γ' E f' fr' ∧ HR γ' E.ng S' w' ∧ Pres S γ w S' γ' w') : Goes E γ S fr frs w f' cs S' := by
  intro bot
  obtain ⟨γ', fr', w', h1, h2, h3, h4⟩ := h (frs ++ bot)
  refine ⟨γ', fr', frs, w', h1, h2, hc.mono h4.ext, h3, h4, lastF_eq ?_ ?_ frs⟩
  · rw [h2.fn, hf.fn, hfn]
  · have := h2.rd
    rw [hrd] at this
    exact RdR.eq h4.ext hf.rd this
/-- the same frame with something else to do -/
theorem FR.to {f : AF} (h : FR γ E f fr) {t : List AI} {t' : List Item} (ht : IsR γ t t') : FR γ E { f with todo := t } { fr with todo := t' } :=
  ⟨h.fn, h.nt, h.tm, fun _ => ht, h.dfs, h.md, h.kind, h.rd, h.fi⟩
theorem FR.mode {f : AF} (h : FR γ E f fr) (hm : f.md = .run) : fr.mode = .run := by
  have := h.md
  rw [hm] at this
  generalize fr.mode = m at this
  cases this; rfl
theorem exitA_ok {id : Nat} {l : List AI} {l' : List Item} (h : IsR γ l l') : (∀ k, exitA id l = some k → ∃ k', exitTo id l' = some k' ∧ IsR γ k k') ∧ (exitA id l = none → exitTo id l' = none) := by
  induction h with
  | nil => exact ⟨fun k e => (by cases e), fun _ => rfl⟩
  | @cons x y l l' hx t ih =>
    cases hx with
    | blk j =>
      have e : exitA id (.blk j :: l) = Bool.rec (exitA id l) (some l) (Nat.beq j id) := rfl
      rw [e]
      have e2 : exitTo id (.inBlock j :: l') = if j == id then some l' else exitTo id l' := rfl
      rw [e2]
      rw [nat_beq_decide]
      by_cases hj : j = id
      · simp only [hj, decide_true, beq_self_eq_true, if_true]
        exact ⟨fun k e => (by cases e; exact ⟨l', rfl, t⟩), fun e => (by cases e)⟩
      · have : (j == id) = false := by simpa using hj
        simp only [hj, decide_false, this, Bool.false_eq_true, if_false]
        exact ih
    | code c => exact ih
    | lop c => exact ih
    | scp c => exact ih
    | reg h => exact ih
    | inRF h => exact ih
    | endRF h => exact ih
    | beg => exact ih
def setD (d : Option Nat) (v : Value) (t : Array Value) : Array Value := match d with | some d => t.setIfInBounds d v | none => t
theorem putD_ok {nt : Nat} {d : Option Nat} {v : AV} {tm tm' : Tm} (h : putD nt d v tm = some tm') {tmps : Array Value} (hs : tmps.size = nt) (ht : TR γ tm tmps) {v' : Value} (hv : VR γ v v') :
    TR γ tm' (setD d v' tmps) := by
  cases d with
  | none => cases h; exact ht
  | some d =>
    obtain ⟨h1, h2⟩ := rec_some (b := Nat.blt d nt) h
    cases h2
    rw [nat_blt_decide] at h1
    exact ht.set (by rw [hs]; exact of_decide_eq_true h1) hv
theorem range'_cons (i : Nat) (o : Oper) (rest : List Oper) : List.range' i (o :: rest).length = i :: List.range' (i + 1) rest.length := by
  rw [List.length_cons, List.range'_succ]
theorem drop_cons {ops : Array Oper} {i : Nat} {o : Oper} {rest : List Oper} (h : ops.toList.drop i = o :: rest) : ops[i]? = some o ∧ ops.toList.drop (i + 1) = rest := by
  constructor
  · have : (ops.toList.drop i)[0]? = some o := by rw [h]; rfl
    rw [List.getElem?_drop] at this
    simpa using this
  · have : (ops.toList.drop i).drop 1 = rest := by rw [h]; rfl
    rw [List.drop_drop] at this
    exact this
/-- a value comes back -/
theorem finishA_ok {f f' : AF} {v : AV} (h : finishA f v = some f') (hf : FR γ E f fr) (hm : f.md = .run) (hl : f.lost = false) {v' : Value} (hv : VR γ v v') : FR γ E f' (fr.finish v') := by
  obtain ⟨fn, nt, tm, todo, dfs, md, lost, dk, rd⟩ := f
  simp only at hm hl
  subst hm hl
  rw [finishA_eq] at h; unfold finishA0 at h
  simp only at h
  have hto := hf.todo rfl
  simp only at hto
  split at h
  · rename_i ops i o rest k
    split at h
    · rename_i tm' hp
      cases h
      generalize hft : fr.todo = ft at hto
      cases hto with
      | cons hx ht =>
        cases hx with
        | reg hd =>
          obtain ⟨ho, hd2⟩ := drop_cons hd
          rw [range'_cons] at hft
          have h2 := putD_ok hp hf.nt (hf.tm rfl) hv
          refine ⟨?_, ?_, fun _ => ?_, fun _ => ?_, ?_, ?_, ?_, ?_, hf.fi⟩
          · simp only [Frame.finish, hft]; exact hf.fn
          · simp only [Frame.finish, hft, ho, Option.bind_some]
            have := hf.nt
            cases o.dst <;> simp [this]
          · simp only [Frame.finish, hft, ho, Option.bind_some]
            show TR γ tm' (setD o.dst v' fr.tmps)
            exact h2
          · simp only [Frame.finish, hft]; exact .cons (.reg hd2) ht
          · simp only [Frame.finish, hft]; exact hf.dfs
          · simp only [Frame.finish, hft]; exact hf.md
          · simp only [Frame.finish, hft]; exact hf.kind
          · simp only [Frame.finish, hft]; exact hf.rd
    · cases h
  · rename_i l k
    cases h
    generalize hft : fr.todo = ft at hto
    cases hto with
    | cons hx ht =>
      cases hx with
      | inRF hL =>
        refine ⟨?_, ?_, fun _ => ?_, fun _ => ?_, ?_, ?_, ?_, ?_, hf.fi⟩
        · simp only [Frame.finish, hft]; exact hf.fn
        · simp only [Frame.finish, hft]; exact hf.nt
        · simp only [Frame.finish, hft]; exact hf.tm rfl
        · simp only [Frame.finish, hft]; exact .cons (.endRF hL) ht
        · simp only [Frame.finish, hft]; exact hf.dfs
        · simp only [Frame.finish, hft]; exact hf.md
        · simp only [Frame.finish, hft]; exact hf.kind
        · simp only [Frame.finish, hft]; exact hf.rd
  · cases h
end
end Go.AM
