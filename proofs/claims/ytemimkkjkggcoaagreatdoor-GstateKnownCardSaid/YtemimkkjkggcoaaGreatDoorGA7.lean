import Derived.Test.YtemimkkjkggcoaaGreatDoorGA6
/- The operations that leave the world alone. -/
namespace Go.AM

theorem Gives.mk {P : Program} {γ : Gm} {s : Sem Value} {x : AV} {v : Value} (h : ∀ w, s.run P w = .ok v w) (hv : VR γ x v) : Gives P γ s x := fun w => ⟨v, h w, hv⟩

/-! arithmetic -/
noncomputable def sameK (k l : IntKind) (r : AV) : Option AV := Bool.rec none (some r) (Nat.beq (kno k) (kno l))
noncomputable def pow2 (n : Int) (k : IntKind) : Int := Int.ofNat (Nat.pow 2 (Nat.min n.toNat k.bits))
noncomputable def intBin (op : BinOp) (k : IntKind) (m : Int) (l : IntKind) (n : Int) : Option AV :=
  BinOp.rec (motive := fun _ => IntKind → Int → IntKind → Int → Option AV)
    (fun k m l n => sameK k l (.int k (wr k (Int.add m n))))
    (fun k m l n => sameK k l (.int k (wr k (Int.sub m n))))
    (fun k m l n => sameK k l (.int k (wr k (Int.mul m n))))
    (fun k m l n => Bool.rec (sameK k l (.int k (wr k (Int.tdiv m n)))) none (ieq n 0))
    (fun k m l n => Bool.rec (sameK k l (.int k (Int.tmod m n))) none (ieq n 0))
    (fun k m l n => sameK k l (.int k (k.wrap ((BitVec.ofInt k.bits m &&& BitVec.ofInt k.bits n).toNat))))
    (fun k m l n => sameK k l (.int k (k.wrap ((BitVec.ofInt k.bits m ||| BitVec.ofInt k.bits n).toNat))))
    (fun k m l n => sameK k l (.int k (k.wrap ((BitVec.ofInt k.bits m ^^^ BitVec.ofInt k.bits n).toNat))))
    (fun k m _ n => Bool.rec (some (.int k (wr k (Int.mul m (pow2 n k))))) none (ilt n 0))
    (fun k m _ n => Bool.rec (some (.int k (Int.fdiv m (pow2 n k)))) none (ilt n 0))
    (fun k m l n => sameK k l (.int k (k.wrap ((BitVec.ofInt k.bits m &&& ~~~(BitVec.ofInt k.bits n)).toNat))))
    (fun k m l n => sameK k l (.bool (ieq m n)))
    (fun k m l n => sameK k l (.bool (Bool.not (ieq m n))))
    (fun k m l n => sameK k l (.bool (ilt m n)))
    (fun k m l n => sameK k l (.bool (ile m n)))
    (fun k m l n => sameK k l (.bool (ilt n m)))
    (fun k m l n => sameK k l (.bool (ile n m)))
    op k m l n
theorem sameK_ok {k l : IntKind} {r x : AV} (h : sameK k l r = some x) : k = l ∧ x = r := by
  unfold sameK at h
  cases hk : Nat.beq (kno k) (kno l) with
  | false => rw [hk] at h; cases h
  | true => rw [hk] at h; cases h; exact ⟨kno_inj hk, rfl⟩
theorem pow2_eq (n : Int) (k : IntKind) : pow2 n k = 2 ^ (min n.toNat k.bits) := by
  unfold pow2
  show Int.ofNat (2 ^ (min n.toNat k.bits)) = _
  simp
theorem rec_none {α : Type} {o : Option α} {b : Bool} {x : α} (h : (Bool.rec o none b : Option α) = some x) : b = false ∧ o = some x := by
  cases b with
  | false => exact ⟨rfl, h⟩
  | true => cases h
theorem rec_some {α : Type} {o : Option α} {b : Bool} {x : α} (h : (Bool.rec none o b : Option α) = some x) : b = true ∧ o = some x := by
  cases b with
  | true => exact ⟨rfl, h⟩
  | false => cases h
theorem intBin_ok {P : Program} {op : BinOp} {k l : IntKind} {m n : Int} {x : AV} (h : intBin op k m l n = some x) (t : TypeId) (γ : Gm) : Gives P γ (binOp op t (.int k m) (.int l n)) x := by
  cases op with
  | add =>
    obtain ⟨rfl, rfl⟩ := sameK_ok h
    exact .mk (v := .int k (k.wrap (m + n))) (fun w => by simp [binOp, Op.intArith]) (by rw [wr_eq]; exact .int k _)
  | sub =>
    obtain ⟨rfl, rfl⟩ := sameK_ok h
    exact .mk (v := .int k (k.wrap (m - n))) (fun w => by simp [binOp, Op.intArith]) (by rw [wr_eq]; exact .int k _)
  | mul =>
    obtain ⟨rfl, rfl⟩ := sameK_ok h
    exact .mk (v := .int k (k.wrap (m * n))) (fun w => by simp [binOp, Op.intArith]) (by rw [wr_eq]; exact .int k _)
  | quo =>
    obtain ⟨hz, h⟩ := rec_none h
    rw [ieq_eq] at hz
    have hz' : ¬ n = 0 := fun e => by rw [e] at hz; simp at hz
    obtain ⟨rfl, rfl⟩ := sameK_ok h
    exact .mk (v := .int k (k.wrap (m.tdiv n))) (fun w => by simp [binOp, Op.intDiv, hz']) (by rw [wr_eq]; exact .int k _)
  | rem =>
    obtain ⟨hz, h⟩ := rec_none h
    rw [ieq_eq] at hz
    have hz' : ¬ n = 0 := fun e => by rw [e] at hz; simp at hz
    obtain ⟨rfl, rfl⟩ := sameK_ok h
    exact .mk (v := .int k (m.tmod n)) (fun w => by simp [binOp, Op.intDiv, hz']) (.int k _)
  | shl =>
    obtain ⟨hz, h⟩ := rec_none h
    cases h
    rw [ilt_eq] at hz
    have hz' : ¬ n < 0 := of_decide_eq_false hz
    exact .mk (v := .int k (k.wrap (m * 2 ^ (min n.toNat k.bits)))) (fun w => by simp [binOp, Op.shift, hz']) (by rw [wr_eq, pow2_eq]; exact .int k _)
  | shr =>
    obtain ⟨hz, h⟩ := rec_none h
    cases h
    rw [ilt_eq] at hz
    have hz' : ¬ n < 0 := of_decide_eq_false hz
    exact .mk (v := .int k (m.fdiv (2 ^ (min n.toNat k.bits)))) (fun w => by simp [binOp, Op.shift, hz']) (by rw [pow2_eq]; exact .int k _)
  | and => obtain ⟨rfl, rfl⟩ := sameK_ok h; exact .mk (v := .int k _) (fun w => by simp [binOp, Op.intBits]) (.int k _)
  | or => obtain ⟨rfl, rfl⟩ := sameK_ok h; exact .mk (v := .int k _) (fun w => by simp [binOp, Op.intBits]) (.int k _)
  | xor => obtain ⟨rfl, rfl⟩ := sameK_ok h; exact .mk (v := .int k _) (fun w => by simp [binOp, Op.intBits]) (.int k _)
  | andNot => obtain ⟨rfl, rfl⟩ := sameK_ok h; exact .mk (v := .int k _) (fun w => by simp [binOp, Op.intBits]) (.int k _)
  | eql => obtain ⟨rfl, rfl⟩ := sameK_ok h; exact .mk (v := .bool (m == n)) (fun w => by simp [binOp, Op.intCmp]) (by rw [ieq_eq]; exact .bool _)
  | neq => obtain ⟨rfl, rfl⟩ := sameK_ok h; exact .mk (v := .bool (m != n)) (fun w => by simp [binOp, Op.intCmp]) (by rw [ieq_eq]; exact .bool _)
  | lss => obtain ⟨rfl, rfl⟩ := sameK_ok h; exact .mk (v := .bool (m < n)) (fun w => by simp [binOp, Op.intCmp]) (by rw [ilt_eq]; exact .bool _)
  | leq => obtain ⟨rfl, rfl⟩ := sameK_ok h; exact .mk (v := .bool (m ≤ n)) (fun w => by simp [binOp, Op.intCmp]) (by rw [ile_eq]; exact .bool _)
  | gtr => obtain ⟨rfl, rfl⟩ := sameK_ok h; exact .mk (v := .bool (m > n)) (fun w => by simp [binOp, Op.intCmp]) (by rw [ilt_eq]; exact .bool _)
  | geq => obtain ⟨rfl, rfl⟩ := sameK_ok h; exact .mk (v := .bool (m ≥ n)) (fun w => by simp [binOp, Op.intCmp]) (by rw [ile_eq]; exact .bool _)

/-! strings -/
noncomputable def strBin (op : BinOp) (a b : List Nat) : Option AV :=
  match op with
  | .add => Bool.rec none (some (.str (lapp a b))) (Nat.ble (Nat.add (llen a) (llen b)) 4611686018427387904)
  | .eql => some (.bool (seq a b))
  | .neq => some (.bool (Bool.not (seq a b)))
  | .lss => some (.bool (slt a b))
  | .leq => some (.bool (Bool.or (slt a b) (seq a b)))
  | .gtr => some (.bool (Bool.not (Bool.or (slt a b) (seq a b))))
  | .geq => some (.bool (Bool.not (slt a b)))
  | _ => none
theorem slt_bytes (a b : ByteArray) : Op.bytesLess a.toList b.toList = slt (bytesOf a) (bytesOf b) := by
  rw [ByteArray.toList_eq, ByteArray.toList_eq]; exact (slt_eq _ _).symm
theorem strBin_ok {P : Program} {op : BinOp} {a b : ByteArray} {x : AV} (h : strBin op (bytesOf a) (bytesOf b) = some x) (t : TypeId) (γ : Gm) : Gives P γ (binOp op t (.string a) (.string b)) x := by
  cases op with
  | add =>
    obtain ⟨hb, h⟩ := rec_some h
    cases h
    have hl := Nat.le_of_ble_eq_true hb
    rw [llen_eq, llen_eq] at hl
    have hl' : (bytesOf a).length + (bytesOf b).length ≤ 4611686018427387904 := hl
    rw [bytesOf_length, bytesOf_length] at hl'
    have hn : ¬ (((a.size + b.size : Nat) : Int) > IntKind.i64.max) := by
      have e : IntKind.i64.max = 9223372036854775807 := by decide
      rw [e]; omega
    exact .mk (v := .string (a ++ b)) (fun w => by simp only [binOp, Op.stringOp, if_neg hn]; rfl) (by rw [lapp_eq, show List.append (bytesOf a) (bytesOf b) = bytesOf (a ++ b) from (bytesOf_append a b).symm]; exact .str _)
  | eql => cases h; exact .mk (v := .bool (a.toList == b.toList)) (fun w => rfl) (by rw [bytes_toList_beq]; exact .bool _)
  | neq => cases h; exact .mk (v := .bool (!(a.toList == b.toList))) (fun w => rfl) (by rw [bytes_toList_beq]; exact .bool _)
  | lss => cases h; exact .mk (v := .bool (Op.bytesLess a.toList b.toList)) (fun w => rfl) (by rw [slt_bytes]; exact .bool _)
  | leq => cases h; exact .mk (v := .bool (Op.bytesLess a.toList b.toList || (a.toList == b.toList))) (fun w => rfl) (by rw [slt_bytes, bytes_toList_beq]; exact .bool _)
  | gtr => cases h; exact .mk (v := .bool (!(Op.bytesLess a.toList b.toList || (a.toList == b.toList)))) (fun w => rfl) (by rw [slt_bytes, bytes_toList_beq]; exact .bool _)
  | geq => cases h; exact .mk (v := .bool (!(Op.bytesLess a.toList b.toList))) (fun w => rfl) (by rw [slt_bytes]; exact .bool _)
  | sub => cases h
  | mul => cases h
  | quo => cases h
  | rem => cases h
  | and => cases h
  | or => cases h
  | xor => cases h
  | shl => cases h
  | shr => cases h
  | andNot => cases h

/-! floats -/
noncomputable def fres (k : FloatKind) (r : Option Nat) : Option AV := match r with | some b => some (.flt k b) | none => none
noncomputable def kfl (k l : FloatKind) : Bool := FloatKind.rec (FloatKind.rec true false l) (FloatKind.rec false true l) k
theorem kfl_eq {k l : FloatKind} (h : kfl k l = true) : k = l := by cases k <;> cases l <;> first | rfl | cases h
noncomputable def fltBin (op : BinOp) (k : FloatKind) (x y : Nat) : Option AV :=
  match op with
  | .add => fres k (k.format.add x y)
  | .sub => fres k (k.format.sub x y)
  | .mul => fres k (k.format.mul x y)
  | .quo => fres k (k.format.div x y)
  | .eql => some (.bool (k.format.order x y == some .eq))
  | .neq => some (.bool (k.format.order x y != some .eq))
  | .lss => some (.bool (k.format.order x y == some .lt))
  | .leq => some (.bool (k.format.order x y == some .lt || k.format.order x y == some .eq))
  | .gtr => some (.bool (k.format.order x y == some .gt))
  | .geq => some (.bool (k.format.order x y == some .gt || k.format.order x y == some .eq))
  | _ => none
theorem fltBin_ok {P : Program} {op : BinOp} {k : FloatKind} {a b : Nat} {x : AV} (h : fltBin op k a b = some x) (t : TypeId) (γ : Gm) : Gives P γ (binOp op t (.float k a) (.float k b)) x := by
  cases op with
  | add =>
    have h' : fres k (k.format.add a b) = some x := h
    cases hr : k.format.add a b with
    | none => rw [hr] at h'; cases h'
    | some r => rw [hr] at h'; cases h'; exact .mk (fun w => by simp [binOp, Op.floatArith, hr]) (.flt k r)
  | sub =>
    have h' : fres k (k.format.sub a b) = some x := h
    cases hr : k.format.sub a b with
    | none => rw [hr] at h'; cases h'
    | some r => rw [hr] at h'; cases h'; exact .mk (fun w => by simp [binOp, Op.floatArith, hr]) (.flt k r)
  | mul =>
    have h' : fres k (k.format.mul a b) = some x := h
    cases hr : k.format.mul a b with
    | none => rw [hr] at h'; cases h'
    | some r => rw [hr] at h'; cases h'; exact .mk (fun w => by simp [binOp, Op.floatArith, hr]) (.flt k r)
  | quo =>
    have h' : fres k (k.format.div a b) = some x := h
    cases hr : k.format.div a b with
    | none => rw [hr] at h'; cases h'
    | some r => rw [hr] at h'; cases h'; exact .mk (fun w => by simp [binOp, Op.floatArith, hr]) (.flt k r)
  | eql => cases h; exact .mk (fun w => by simp [binOp, Op.floatCmp]) (.bool _)
  | neq => cases h; exact .mk (fun w => by simp [binOp, Op.floatCmp]) (.bool _)
  | lss => cases h; exact .mk (fun w => by simp [binOp, Op.floatCmp]) (.bool _)
  | leq => cases h; exact .mk (fun w => by simp [binOp, Op.floatCmp]) (.bool _)
  | gtr => cases h; exact .mk (fun w => by simp [binOp, Op.floatCmp]) (.bool _)
  | geq => cases h; exact .mk (fun w => by simp [binOp, Op.floatCmp]) (.bool _)
  | rem => cases h
  | and => cases h
  | or => cases h
  | xor => cases h
  | shl => cases h
  | shr => cases h
  | andNot => cases h
end Go.AM
