import Derived.Test.YtemimkkjkggcoaaGreatDoorGA27
import Derived.Orders
/- An operation looks only at its operands. -/
namespace Go.AM

theorem evXs_congr {ng : Nat} {tm tm' : Tm} : ∀ {l : List Operand}, (∀ x ∈ l, evX ng tm x = evX ng tm' x) → evXs ng tm l = evXs ng tm' l
  | [], _ => rfl
  | x :: l, h => by
    show (Option.rec none (fun y => Option.rec none (fun t => some (y :: t)) (evXs ng tm l)) (evX ng tm x) : Option (List AV)) = _
    rw [h x (by simp), evXs_congr (l := l) (fun y hy => h y (by simp [hy]))]
    rfl
theorem evPs_congr {ng : Nat} {tm tm' : Tm} : ∀ {l : List (Nat × Operand)}, (∀ x ∈ l.map (·.2), evX ng tm x = evX ng tm' x) → evPs ng tm l = evPs ng tm' l
  | [], _ => rfl
  | x :: l, h => by
    show (Option.rec none (fun y => Option.rec none (fun t => some ((x.1, y) :: t)) (evPs ng tm l)) (evX ng tm x.2) : Option (List (Nat × AV))) = _
    rw [h x.2 (by simp), evPs_congr (l := l) (fun y hy => h y (by simp at hy ⊢; exact .inr hy))]
    rfl
theorem evO_congr {ng : Nat} {tm tm' : Tm} {o : Option Operand} (h : ∀ x ∈ o, evX ng tm x = evX ng tm' x) : evO ng tm o = evO ng tm' o := by
  cases o with
  | none => rfl
  | some x => unfold evO; simp only [h x rfl]
theorem evOp_congr {E : Env} {tm tm' : Tm} {S : Hp} {ty : Nat} {op : Op} (h : ∀ x ∈ op.operands, evX E.ng tm x = evX E.ng tm' x) : evOp op E tm S ty = evOp op E tm' S ty := by
  cases op <;> simp only [Op.operands] at h <;> first
    | rfl
    | (simp only [evOp, oMove, oPick, oBox, oLoad, oStore, oNil, oBin, oUn, oConv, oIfc, oMakeS, oFaddr, oField, oIaddr, oIndex, oLook, oMapU, oExt, oTas, oPanic] <;> (simp_all; done))
    | skip
  case build t ps =>
    have h1 : evPs E.ng tm ps.toList = evPs E.ng tm' ps.toList := evPs_congr (fun x hx => h x (by simpa using hx))
    simp only [evOp, oBuild, h1]
  case buildSlice t n ps =>
    have h1 : evPs E.ng tm ps.toList = evPs E.ng tm' ps.toList := evPs_congr (fun x hx => h x (by simpa using hx))
    simp only [evOp, oBuildS, h1]
  case makeFunc fn first cap =>
    have h1 : evXs E.ng tm first.toList = evXs E.ng tm' first.toList := evXs_congr (fun x hx => h x (by simp at hx ⊢; exact .inl hx))
    have h2 : evXs E.ng tm cap.toList = evXs E.ng tm' cap.toList := evXs_congr (fun x hx => h x (by simp at hx ⊢; exact .inr hx))
    simp only [evOp, oFunc, h1, h2]
  case slice t x lo hi mx =>
    have h1 := h x (by simp)
    have h2 : evO E.ng tm lo = evO E.ng tm' lo := evO_congr (fun y hy => h y (by simp at hy; simp [hy]))
    have h3 : evO E.ng tm hi = evO E.ng tm' hi := evO_congr (fun y hy => h y (by simp at hy; simp [hy]))
    have h4 : evO E.ng tm mx = evO E.ng tm' mx := evO_congr (fun y hy => h y (by simp at hy; simp [hy]))
    simp only [evOp, oSlice, h1, h2, h3, h4]
  case call c =>
    have h1 : evXs E.ng tm c.args.toList = evXs E.ng tm' c.args.toList := evXs_congr (fun x hx => h x (by simp at hx; simp [Call.operands, hx]))
    simp only [evOp, oCall, h1]
    cases hc : c.callee with
    | value f => simp only [h f (by simp [Call.operands, hc])]
    | invoke r m => rfl
    | builtin b => rfl
  case defer c =>
    have h1 : evXs E.ng tm c.args.toList = evXs E.ng tm' c.args.toList := evXs_congr (fun x hx => h x (by simp at hx; simp [Call.operands, hx]))
    simp only [evOp, oDefer, h1]
    cases hc : c.callee with
    | value f => simp only [h f (by simp [Call.operands, hc])]
    | invoke r m => rfl
    | builtin b => rfl
end Go.AM
