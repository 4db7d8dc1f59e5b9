import Derived.Test.YtemimkkjkggcoaaGreatDoorGA41
import Derived.Below
import Derived.KernelRfl
/- The environment of a program; a call of a function. -/
namespace Go.AM

/-- every other element -/
noncomputable def pick {α : Type} (l : List α) : Bool → List α := List.rec (motive := fun _ => Bool → List α) (fun _ => []) (fun x _ ih b => Bool.rec (ih true) (x :: ih false) b) l
theorem pick_get {α : Type} : ∀ (l : List α) (n : Nat), (pick l true)[n]? = l[2 * n]? ∧ (pick l false)[n]? = l[2 * n + 1]?
  | [], n => by simp [pick]
  | x :: l, n => by
    obtain ⟨h1, h2⟩ := pick_get l n
    constructor
    · show (x :: pick l false)[n]? = _
      cases n with
      | zero => rfl
      | succ n => rw [List.getElem?_cons_succ, (pick_get l n).2]; rw [show 2 * (n + 1) = (2 * n + 1) + 1 from by omega, List.getElem?_cons_succ]
    · show (pick l true)[n]? = _
      rw [h1, List.getElem?_cons_succ]
noncomputable def ofL {α : Type} (f : Nat) : List α → T α := Nat.rec (motive := fun _ => List α → T α) (fun _ => .e) (fun _ ih l => List.rec .e (fun x t _ => .n (ih (pick t true)) (some x) (ih (pick t false))) l) f
theorem ofL_get {α : Type} : ∀ (f : Nat) (l : List α) (k : Ps) (x : α), T.get k (ofL f l) = some x → l[k.idx]? = some x
  | 0, l, k, x, h => by rw [show ofL 0 l = .e from rfl, T.get_e] at h; cases h
  | f + 1, [], k, x, h => by rw [show ofL (f + 1) ([] : List α) = .e from rfl, T.get_e] at h; cases h
  | f + 1, y :: t, k, x, h => by
    have h : T.get k (T.n (ofL f (pick t true)) (some y) (ofL f (pick t false))) = some x := h
    cases k with
    | h => exact h
    | o p =>
      have h : T.get p (ofL f (pick t true)) = some x := h
      have := ofL_get f _ p x h
      rw [(pick_get t p.idx).1] at this
      rw [Ps.idx_o, show p.idx + p.idx + 1 = (2 * p.idx) + 1 from by omega, List.getElem?_cons_succ]; exact this
    | i p =>
      have h : T.get p (ofL f (pick t false)) = some x := h
      have := ofL_get f _ p x h
      rw [(pick_get t p.idx).2] at this
      rw [Ps.idx_i, show p.idx + p.idx + 2 = (2 * p.idx + 1) + 1 from by omega, List.getElem?_cons_succ]; exact this
noncomputable def lmap {α β : Type} (f : α → β) (l : List α) : List β := List.rec [] (fun x _ ih => f x :: ih) l
theorem lmap_get {α β : Type} {f : α → β} : ∀ {l : List α} {n : Nat} {y : β}, (lmap f l)[n]? = some y → ∃ x, l[n]? = some x ∧ f x = y
  | [], n, y, h => by simp [lmap] at h
  | x :: l, n, y, h => by
    have h : (f x :: lmap f l)[n]? = some y := h
    cases n with
    | zero => simp at h; exact ⟨x, rfl, h⟩
    | succ n => rw [List.getElem?_cons_succ] at h; rw [List.getElem?_cons_succ]; exact lmap_get h
noncomputable def fiOf (fn : Func) : Option FI := match fn.body with | none => none | some c => Bool.rec (some ⟨c, fn.ntmps, fn.results.toList⟩) none (fn.name == "runtime.NumGoroutine")
noncomputable def extOf (fn : Func) : Option Ext :=
  match fn.body with
  | some _ => none
  | none => Bool.rec none (Bool.rec none (some .sqrt) (fn.name == "math.sqrt")) (fn.origin == "")
theorem sqrt_next : Extern.allNextRows.lookup "math.sqrt" = none := by kernel_rfl
theorem none_next : Extern.allNextRows.lookup "" = none := by kernel_rfl
theorem sqrt_gen : Extern.allGenericRows.lookup "math.sqrt" = none := by kernel_rfl
theorem sqrt_typed : Extern.allTypedRows.lookup "math.sqrt" = none := by kernel_rfl
theorem sqrt_row : Extern.allRows.lookup "math.sqrt" = some Extern.MathSqrt.sqrt := by kernel_rfl
theorem extOf_ok {fn : Func} {x : Ext} (h : extOf fn = some x) : fn.body = none ∧ (fn.name == "runtime.NumGoroutine") = false ∧ Extern.findNext fn = none ∧ Extern.find fn = some x.sem := by
  unfold extOf at h
  split at h
  · cases h
  · rename_i hb
    obtain ⟨h1, h2⟩ := rec_some h
    obtain ⟨h3, h4⟩ := rec_some h2
    cases h4
    have e1 : fn.origin = "" := eq_of_beq h1
    have e2 : fn.name = "math.sqrt" := eq_of_beq h3
    refine ⟨hb, by rw [e2]; decide, ?_, ?_⟩
    · simp [Extern.findNext, e1, e2, sqrt_next, none_next]
    · simp [Extern.find, e2, sqrt_gen, sqrt_typed, sqrt_row, Ext.sem]
noncomputable def mkEnv (P : Program) : Env := ⟨P, ofL 40 P.types.toList, ofL 40 (lmap fiOf P.funcs.toList), ofL 40 (lmap extOf P.funcs.toList), P.globals.size⟩
theorem mkEnv_ok (P : Program) : (mkEnv P).Ok := by
  refine ⟨fun t i h => ?_, fun f i h => ?_, fun f x h => ?_⟩
  · have := ofL_get 40 _ _ _ h
    rw [Ps.idx_of, Array.getElem?_toList] at this
    show P.info? t = some i
    unfold Tables.info?
    rw [if_pos (Array.getElem?_eq_some_iff.1 this).1]
    exact this
  · have := ofL_get 40 _ _ _ h
    rw [Ps.idx_of] at this
    obtain ⟨fn, h1, h2⟩ := lmap_get this
    rw [Array.getElem?_toList] at h1
    refine ⟨fn, h1, ?_⟩
    unfold fiOf at h2
    split at h2
    · cases h2
    · rename_i c hc
      cases hn : (fn.name == "runtime.NumGoroutine") with
      | true => rw [hn] at h2; cases h2
      | false => rw [hn] at h2; cases h2; exact ⟨hc, rfl, rfl, rfl⟩
  · have := ofL_get 40 _ _ _ h
    rw [Ps.idx_of] at this
    obtain ⟨fn, h1, h2⟩ := lmap_get this
    rw [Array.getElem?_toList] at h1
    exact ⟨fn, h1, extOf_ok h2⟩

noncomputable def runTop (E : Env) (N n K : Nat) (f : Nat) (S : Hp) : SR := match enterA E f [] false with | some f0 => runA (drawF N n) E K f0 [] S | none => .bad
theorem runTop_calls {E : Env} (hE : E.Ok) (hmix : E.P.follows .mixedOrders = true) {N n K f : Nat} {S S' : Hp} {v : AV} {γ : Gm} {w : World} (h : runTop E N n K f S = .fin v S') (hH : HR γ E.ng S w) :
    Calls E.P f #[] w fun e w' => ∃ v' γ', e = .returned v' ∧ VR γ' v v' ∧ HR γ' E.ng S' w' ∧ Pres S γ w S' γ' w' := by
  unfold runTop at h
  split at h
  · rename_i f0 hf0
    have hf := enterA_ok hE hf0 (γ := γ) .nil
    have hr := runA_ok hE (drawF_ok hE hmix N n) K hf .nil hH
    rw [h] at hr
    intro cs
    obtain ⟨γ', v', fr', w', fn, g1, g2, g3, g4, g5, g6, g7, g8, g9, g10⟩ := hr.1 rfl cs
    exact ⟨.returned v', w', fr', ⟨v', γ', rfl, g8, g9, g10⟩, g1, g5, g2, g3, g4, fn, g6, g7⟩
  · cases h
/-- the answer is true, and nothing that lay there has been touched -/
noncomputable def isTrue (r : SR) : Bool := match r with | .fin (.bool b) _ => b | _ => false
theorem runTop_true {E : Env} (hE : E.Ok) (hmix : E.P.follows .mixedOrders = true) {N n K f : Nat} {S : Hp} {γ : Gm} {w : World} (h : isTrue (runTop E N n K f S) = true) (hH : HR γ E.ng S w) (hfl : S.nx.idx ≤ S.fl) :
    Calls E.P f #[] w fun e w' => e = .returned (.bool true) ∧ RowKit.Below w.heap.size w w' := by
  unfold isTrue at h
  split at h
  · rename_i b S' hr
    subst h
    refine (runTop_calls hE hmix hr hH).mono fun e w' ⟨v', γ', h1, h2, h3, h4⟩ => ?_
    cases h2
    refine ⟨h1, ?_⟩
    have h5 := h4.os
    injection h5 with h6 h7
    refine ⟨h6, h7, h4.out, h4.size, fun r hr => h4.keep r hr (fun a o L ha hf => ?_)⟩
    have := hH.lt ha
    omega
  · cases h
end Go.AM
