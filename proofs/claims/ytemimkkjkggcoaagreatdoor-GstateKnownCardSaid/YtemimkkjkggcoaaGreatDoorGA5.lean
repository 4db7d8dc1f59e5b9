import Derived.Test.YtemimkkjkggcoaaGreatDoorGA4
import Derived.Laws.StructEq
/- The environment; constants and operands; parts of values; equality. -/
namespace Go.AM

/-- what is asked of a function with a body -/
structure FI where
  code : Code
  nt : Nat
  res : List ResultVar
/-- the library's functions without a body that the machine knows -/
inductive Ext where
  | sqrt
def Ext.sem : Ext → Array Value → Sem Value
  | .sqrt => Extern.MathSqrt.sqrt
structure Env where
  P : Program
  types : T TypeInfo
  funcs : T (Option FI)
  ext : T (Option Ext)
  ng : Nat

structure Env.Ok (E : Env) : Prop where
  types : ∀ t i, T.get (Ps.of t) E.types = some i → E.P.info? t = some i
  funcs : ∀ f i, T.get (Ps.of f) E.funcs = some (some i) → ∃ fn, E.P.funcs[f]? = some fn ∧ fn.body = some i.code ∧ fn.ntmps = i.nt ∧ fn.results.toList = i.res ∧ (fn.name == "runtime.NumGoroutine") = false
  ext : ∀ f x, T.get (Ps.of f) E.ext = some (some x) → ∃ fn, E.P.funcs[f]? = some fn ∧ fn.body = none ∧ (fn.name == "runtime.NumGoroutine") = false ∧ Extern.findNext fn = none ∧ Extern.find fn = some x.sem

noncomputable def info (E : Env) (t : Nat) : Option TypeInfo := T.get (Ps.of t) E.types
noncomputable def und (E : Env) (t : Nat) : Option TypeDesc :=
  match info E t with
  | some i => (match i.desc with
    | .named _ u => (match info E u with | some j => some j.desc | none => none)
    | d => some d)
  | none => none
noncomputable def sizeA (E : Env) (t : Nat) : Option Nat := match info E t with | some i => some i.size | none => none
noncomputable def isAggA (E : Env) (t : Nat) : Option Bool :=
  match und E t with
  | some (.struct _) | some (.array _ _) => some true
  | some _ => some false
  | none => none

section
variable {E : Env} (hE : E.Ok)
include hE
theorem info_ok {t : Nat} {i : TypeInfo} (h : info E t = some i) : E.P.info? t = some i := hE.types t i h
theorem und_ok {t : Nat} {d : TypeDesc} (h : und E t = some d) : E.P.underlying t = some d := by
  unfold und at h
  cases hi : info E t with
  | none => rw [hi] at h; cases h
  | some i =>
    rw [hi] at h
    have h1 := info_ok hE hi
    unfold Program.underlying
    rw [h1]
    cases i with
    | mk desc str size bytes hp al fal zero cmp ms =>
      cases desc <;> first
        | (simp at h ⊢; exact h)
        | (rename_i nm u
           simp at h ⊢
           cases hu : info E u with
           | none => rw [hu] at h; cases h
           | some j => rw [hu] at h; simp at h; exact ⟨j, info_ok hE hu, h⟩)
theorem run_und {t : Nat} {d : TypeDesc} (h : und E t = some d) (w : World) : (Go.underlying t).run E.P w = .ok d w := run_underlying (und_ok hE h) w
theorem run_info {t : Nat} {i : TypeInfo} (h : info E t = some i) (w : World) : (Go.typeInfo t).run E.P w = .ok i w := by
  simp [Go.typeInfo, Sem.run_bind, Go.program, Sem.run, info_ok hE h]
theorem run_size {t n : Nat} (h : sizeA E t = some n) (w : World) : (Go.sizeOf t).run E.P w = .ok n w := by
  unfold sizeA at h
  cases hi : info E t with
  | none => rw [hi] at h; cases h
  | some i =>
    rw [hi] at h; cases h
    simp [Go.sizeOf, run_info hE hi]
theorem run_isAgg {t : Nat} {b : Bool} (h : isAggA E t = some b) (w : World) : (Go.isAgg t).run E.P w = .ok b w := by
  unfold isAggA at h
  cases hd : und E t with
  | none => rw [hd] at h; cases h
  | some d =>
    rw [hd] at h
    simp only [Go.isAgg, Sem.run_bind, run_und hE hd, Result.andThen_ok]
    cases d <;> (simp at h; subst h; rfl)
end

/-! constants -/
noncomputable def omap (f : Value → Option AV) (l : List Value) : Option (List AV) :=
  List.rec (some []) (fun x _ ih => Option.rec none (fun y => Option.rec none (fun t => some (y :: t)) ih) (f x)) l
noncomputable def ofV (n : Nat) : Value → Option AV :=
  Nat.rec (motive := fun _ => Value → Option AV) (fun _ => none)
    (fun _ ih v => match v with
      | .int k n => some (.int k n)
      | .bool b => some (.bool b)
      | .float k b => some (.flt k b)
      | .string s => some (.str (bytesOf s))
      | .pointer none => some .nilp
      | .slice none 0 0 => some .nils
      | .map none => some .nilm
      | .nilFunc => some .nilf
      | .nilIface => some .nili
      | .iface t v => Option.rec none (fun x => some (.ifc t x)) (ih v)
      | .agg cs => Option.rec none (fun l => some (.agg l)) (omap ih cs.toList)
      | .tuple cs => Option.rec none (fun l => some (.tup l)) (omap ih cs.toList)
      | _ => none) n
theorem omap_ok {γ : Gm} {f : Value → Option AV} (hf : ∀ v x, f v = some x → VR γ x v) {l : List Value} {r : List AV} (h : omap f l = some r) : LR γ r l := by
  induction l generalizing r with
  | nil => cases h; exact .nil
  | cons v l ih =>
    have h' : (Option.rec none (fun y => Option.rec none (fun t => some (y :: t)) (omap f l)) (f v) : Option (List AV)) = some r := h
    cases h1 : f v with
    | none => rw [h1] at h'; cases h'
    | some y =>
      rw [h1] at h'
      cases h2 : omap f l with
      | none => rw [h2] at h'; cases h'
      | some t => rw [h2] at h'; cases h'; exact .cons (hf _ _ h1) (ih h2)
theorem ofV_ok {γ : Gm} (n : Nat) : ∀ (v : Value) (x : AV), ofV n v = some x → VR γ x v := by
  induction n with
  | zero => intro v x h; cases h
  | succ n ih =>
    intro v x h
    cases v with
    | int k m => cases h; exact .int _ _
    | bool b => cases h; exact .bool _
    | float k b => cases h; exact .flt _ _
    | complex k a b => cases h
    | string s => cases h; exact .str _
    | pointer a => cases a with
      | none => cases h; exact .nilp
      | some a => cases h
    | slice a l c => cases a with
      | some a => cases h
      | none => cases l with
        | succ l => cases h
        | zero => cases c with
          | succ c => cases h
          | zero => cases h; exact .nils
    | map r => cases r with
      | none => cases h; exact .nilm
      | some r => cases h
    | chan r => cases h
    | func fn a b => cases h
    | nilFunc => cases h; exact .nilf
    | nilIface => cases h; exact .nili
    | iface t v =>
      have h' : (Option.rec none (fun x => some (AV.ifc t x)) (ofV n v) : Option AV) = some x := h
      cases h1 : ofV n v with
      | none => rw [h1] at h'; cases h'
      | some y => rw [h1] at h'; cases h'; exact .ifc _ (ih _ _ h1)
    | agg cs =>
      have h' : (Option.rec none (fun l => some (AV.agg l)) (omap (ofV n) cs.toList) : Option AV) = some x := h
      cases h1 : omap (ofV n) cs.toList with
      | none => rw [h1] at h'; cases h'
      | some y => rw [h1] at h'; cases h'; exact .agg (omap_ok ih h1)
    | tuple cs =>
      have h' : (Option.rec none (fun l => some (AV.tup l)) (omap (ofV n) cs.toList) : Option AV) = some x := h
      cases h1 : omap (ofV n) cs.toList with
      | none => rw [h1] at h'; cases h'
      | some y => rw [h1] at h'; cases h'; exact .tup (omap_ok ih h1)

/-! operands -/
noncomputable def evC (v : Value) : Option AV := Option.rec none (fun x => some x) (ofV 6 v)
noncomputable def evG (g ng : Nat) : Option AV := Bool.rec none (some (.ptr (Ps.of g) 0)) (Nat.blt g ng)
noncomputable def evX (ng : Nat) (tm : Tm) (x : Operand) : Option AV :=
  Operand.rec (motive := fun _ => Nat → Tm → Option AV) (fun t _ tm => some (tget tm t)) (fun v _ _ => evC v) (fun g ng _ => evG g ng) (fun f _ _ => some (.fn f [] [])) x ng tm
theorem evC_eq (v : Value) : evC v = ofV 6 v := by unfold evC; cases ofV 6 v <;> rfl
def GlobR (γ : Gm) (ng : Nat) : Prop := ∀ g, g < ng → ∃ s, γ (Ps.of g) = some ⟨g, 0, s⟩
theorem evX_ok {γ : Gm} {ng : Nat} {tm : Tm} {fr : Frame} (ht : TR γ tm fr.tmps) (hg : GlobR γ ng) {x : Operand} {v : AV} (h : evX ng tm x = some v) : VR γ v (fr.eval x) := by
  cases x with
  | tmp t => cases h; exact ht t
  | const v' => exact ofV_ok 6 _ _ (by rw [← evC_eq]; exact h)
  | global g =>
    have h' : (Bool.rec none (some (AV.ptr (Ps.of g) 0)) (Nat.blt g ng) : Option AV) = some v := h
    rw [nat_blt_decide] at h'
    by_cases e : g < ng
    · simp only [e, decide_true] at h'; cases h'
      obtain ⟨s, hs⟩ := hg g e
      exact .ptr (L := ⟨g, 0, s⟩) 0 hs
    · simp only [e, decide_false] at h'; cases h'
  | func f => cases h; exact .fn f .nil .nil
noncomputable def evXs (ng : Nat) (tm : Tm) (l : List Operand) : Option (List AV) :=
  List.rec (some []) (fun x _ ih => Option.rec none (fun y => Option.rec none (fun t => some (y :: t)) ih) (evX ng tm x)) l
theorem evXs_ok {γ : Gm} {ng : Nat} {tm : Tm} {fr : Frame} (ht : TR γ tm fr.tmps) (hg : GlobR γ ng) {l : List Operand} {r : List AV} (h : evXs ng tm l = some r) : LR γ r (l.map fr.eval) := by
  induction l generalizing r with
  | nil => cases h; exact .nil
  | cons x l ih =>
    have h' : (Option.rec none (fun y => Option.rec none (fun t => some (y :: t)) (evXs ng tm l)) (evX ng tm x) : Option (List AV)) = some r := h
    cases h1 : evX ng tm x with
    | none => rw [h1] at h'; cases h'
    | some y =>
      rw [h1] at h'
      cases h2 : evXs ng tm l with
      | none => rw [h2] at h'; cases h'
      | some t => rw [h2] at h'; cases h'; exact .cons (evX_ok ht hg h1) (ih h2)

/-! cells and parts -/
noncomputable def cellsA (v : AV) : List AV := Option.rec [v] (fun l => l) (aggOf v)
theorem cells_ok {γ : Gm} {x : AV} {v : Value} (h : VR γ x v) : LR γ (cellsA x) v.cells.toList := by
  cases h with
  | agg h => exact h
  | int k n => exact .cons (.int k n) .nil
  | bool b => exact .cons (.bool b) .nil
  | flt k b => exact .cons (.flt k b) .nil
  | str s => exact .cons (.str s) .nil
  | nilp => exact .cons .nilp .nil
  | ptr o h => exact .cons (.ptr o h) .nil
  | nils => exact .cons .nils .nil
  | sl o l c h => exact .cons (.sl o l c h) .nil
  | su o l c z h hl hz he => exact .cons (.su o l c z h hl hz he) .nil
  | nilm => exact .cons .nilm .nil
  | mp h => exact .cons (.mp h) .nil
  | fn f h hc => exact .cons (.fn f h hc) .nil
  | yl h => exact .cons (.yl h) .nil
  | nilf => exact .cons .nilf .nil
  | ifc t h => exact .cons (.ifc t h) .nil
  | nili => exact .cons .nili .nil
  | tup h => exact .cons (.tup h) .nil
/-- none: nothing is known; some none: one cell; some n: n cells -/
noncomputable def shapeA (E : Env) (t : Nat) : Option (Option Nat) :=
  match isAggA E t, sizeA E t with
  | some true, some n => some (some n)
  | some false, _ => some none
  | _, _ => none
noncomputable def takeA (xs : List AV) (off n : Nat) : Option AV := Option.rec none (fun l => some (.agg l)) (ltakeF n off xs)
noncomputable def partA (E : Env) (t : Nat) (xs : List AV) (off : Nat) : Option AV :=
  Option.rec none (fun s => Option.rec (nthF xs off) (takeA xs off) s) (shapeA E t)
noncomputable def partA0 (E : Env) (t : Nat) (xs : List AV) (off : Nat) : Option AV :=
  match isAggA E t, sizeA E t with
  | some true, some n => (match ltake n (ldrop off xs) with | some l => some (.agg l) | none => none)
  | some false, _ => nth xs off
  | _, _ => none
theorem takeA_eq (xs : List AV) (off n : Nat) : takeA xs off n = (match ltake n (ldrop off xs) with | some l => some (.agg l) | none => none) := by
  unfold takeA; rw [ltakeF_eq]; cases ltake n (ldrop off xs) <;> rfl
theorem partA_eq (E : Env) (t : Nat) (xs : List AV) (off : Nat) : partA E t xs off = partA0 E t xs off := by
  unfold partA partA0 shapeA
  cases isAggA E t with
  | none => cases sizeA E t <;> rfl
  | some b => cases b with
    | false => rw [nthF_eq]
    | true => cases sizeA E t with
      | none => rfl
      | some n => exact takeA_eq xs off n
theorem part_ok {E : Env} (hE : E.Ok) {γ : Gm} {t off : Nat} {xs : List AV} {ys : List Value} (hx : LR γ xs ys) {r : AV} (h : partA E t xs off = some r) (w : World) :
    ∃ v, (Go.part t ⟨ys⟩ off).run E.P w = .ok v w ∧ VR γ r v := by
  rw [partA_eq] at h; unfold partA0 at h
  cases ha : isAggA E t with
  | none => rw [ha] at h; cases h
  | some b =>
    cases b with
    | true =>
      cases hs : sizeA E t with
      | none => rw [ha, hs] at h; cases h
      | some n =>
        rw [ha, hs] at h
        simp only at h
        cases hl : ltake n (ldrop off xs) with
        | none => rw [hl] at h; cases h
        | some l =>
          rw [hl] at h; cases h
          obtain ⟨e, hle⟩ := ltake_eq hl
          rw [ldrop_eq] at e hle
          refine ⟨.agg ⟨(ys.drop off).take n⟩, ?_, .agg (e ▸ (hx.drop off).take n)⟩
          simp only [Go.part, Sem.run_bind, run_isAgg hE ha, run_size hE hs, Result.andThen_ok, if_true]
          simp
    | false =>
      rw [ha] at h
      simp only at h
      rw [nth_eq] at h
      obtain ⟨v, hv, hr⟩ := hx.nth off h
      refine ⟨v, ?_, hr⟩
      simp only [Go.part, Sem.run_bind, run_isAgg hE ha, Result.andThen_ok]
      simp [hv]

end Go.AM
