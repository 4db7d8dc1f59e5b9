import Derived.Test.YtemimkkjkggcoaaGreatDoorGA30
/- The pass through a drawn region in the order of the text. -/
namespace Go.AM

noncomputable def beqL (f : AV → AV → Bool) (l : List AV) : List AV → Bool :=
  List.rec (motive := fun _ => List AV → Bool) (fun r => match r with | [] => true | _ => false) (fun x _ ih r => match r with | y :: r => Bool.rec false (ih r) (f x y) | [] => false) l
noncomputable def eqA (n : Nat) : AV → AV → Bool :=
  Nat.rec (motive := fun _ => AV → AV → Bool) (fun _ _ => false) (fun _ ih x y => match x with
    | .int k a => (match y with | .int l b => Bool.rec false (ieq a b) (Nat.beq (kno k) (kno l)) | _ => false)
    | .bool a => (match y with | .bool b => Bool.rec (Bool.rec true false b) b a | _ => false)
    | .str a => (match y with | .str b => seq a b | _ => false)
    | .nilp => (match y with | .nilp => true | _ => false)
    | .ptr a i => (match y with | .ptr b j => Bool.rec false (Nat.beq i j) (Ps.beq a b) | _ => false)
    | .nils => (match y with | .nils => true | _ => false)
    | .sl a i l c => (match y with | .sl b j m d => Bool.rec false (Bool.rec false (Bool.rec false (Nat.beq c d) (Nat.beq l m)) (Nat.beq i j)) (Ps.beq a b) | _ => false)
    | .su a i l c => (match y with | .su b j m d => Bool.rec false (Bool.rec false (Bool.rec false (Nat.beq c d) (Nat.beq l m)) (Nat.beq i j)) (Ps.beq a b) | _ => false)
    | .nilm => (match y with | .nilm => true | _ => false)
    | .mp a => (match y with | .mp b => Ps.beq a b | _ => false)
    | .nilf => (match y with | .nilf => true | _ => false)
    | .nili => (match y with | .nili => true | _ => false)
    | .ifc t v => (match y with | .ifc u w => Bool.rec false (ih v w) (Nat.beq t u) | _ => false)
    | .fn f a c => (match y with | .fn g b d => Bool.rec false (Bool.rec false (beqL ih c d) (beqL ih a b)) (Nat.beq f g) | _ => false)
    | .agg l => (match y with | .agg r => beqL ih l r | _ => false)
    | .tup l => (match y with | .tup r => beqL ih l r | _ => false)
    | _ => false) n
theorem recf {b c : Bool} (h : (Bool.rec false c b : Bool) = true) : b = true ∧ c = true := by cases b with
  | false => cases h
  | true => exact ⟨rfl, h⟩
theorem beqL_ok {f : AV → AV → Bool} (hf : ∀ x y, f x y = true → x = y) : ∀ {l r : List AV}, beqL f l r = true → l = r
  | [], [], _ => rfl
  | [], _ :: _, h => by cases h
  | _ :: _, [], h => by cases h
  | x :: l, y :: r, h => by
    obtain ⟨h1, h2⟩ := recf (b := f x y) h
    rw [hf _ _ h1, beqL_ok hf h2]
theorem beqn {a b : Nat} (h : Nat.beq a b = true) : a = b := Nat.eq_of_beq_eq_true h
theorem eqA_ok (n : Nat) : ∀ x y, eqA n x y = true → x = y := by
  induction n with
  | zero => intro x y h; cases h
  | succ n ih =>
    intro x y h
    cases x <;> cases y <;> first | (cases h; done) | skip
    case int k a l b => obtain ⟨h1, h2⟩ := recf (b := Nat.beq (kno k) (kno l)) h; rw [ieq_eq] at h2; rw [kno_inj h1, eq_of_beq h2]
    case bool a b => cases a <;> cases b <;> first | rfl | cases h
    case str a b => rw [seq_iff.1 h]
    case nilp => rfl
    case ptr a i b j => obtain ⟨h1, h2⟩ := recf (b := Ps.beq a b) h; rw [Ps.beq_eq.1 h1, beqn h2]
    case nils => rfl
    case sl a i l c b j m d =>
      obtain ⟨h1, h2⟩ := recf (b := Ps.beq a b) h; obtain ⟨h3, h4⟩ := recf h2; obtain ⟨h5, h6⟩ := recf h4
      rw [Ps.beq_eq.1 h1, beqn h3, beqn h5, beqn h6]
    case su a i l c b j m d =>
      obtain ⟨h1, h2⟩ := recf (b := Ps.beq a b) h; obtain ⟨h3, h4⟩ := recf h2; obtain ⟨h5, h6⟩ := recf h4
      rw [Ps.beq_eq.1 h1, beqn h3, beqn h5, beqn h6]
    case nilm => rfl
    case mp a b => rw [Ps.beq_eq.1 h]
    case nilf => rfl
    case nili => rfl
    case ifc t v u w => obtain ⟨h1, h2⟩ := recf (b := Nat.beq t u) h; rw [beqn h1, ih _ _ h2]
    case fn f a c g b d =>
      obtain ⟨h1, h2⟩ := recf (b := Nat.beq f g) h; obtain ⟨h3, h4⟩ := recf h2
      rw [beqn h1, beqL_ok ih h3, beqL_ok ih h4]
    case agg l r => rw [beqL_ok ih h]
    case tup l r => rw [beqL_ok ih h]

/-- operations that only look -/
noncomputable def cK (c : Call) : Nat := match c.callee with | .builtin .len => 1 | .builtin .max => 3 | .builtin .min => 3 | _ => 2
noncomputable def kindOf (o : Op) : Nat :=
  Op.rec (motive := fun _ => Nat) (fun _ => 3) (fun _ => 3) (fun _ _ _ => 3) (fun _ => 0) (fun _ _ => 0) (fun _ _ => 3) (fun _ _ _ => 0) (fun _ _ _ _ => 2) (fun _ _ => 1) (fun _ _ _ => 2) (fun _ => 2) (fun _ => 2) (fun _ => 3) (fun _ _ _ _ _ => 3) (fun _ _ _ => 3) (fun _ _ _ => 1) (fun _ _ => 2) (fun _ _ => 3) (fun _ _ _ => 3) (fun _ _ => 0) (fun _ _ => 2) (fun _ _ _ => 0) (fun _ _ _ _ _ => 1) (fun _ _ _ => 3) (fun _ _ _ => 3) (fun _ _ _ => 3) (fun _ _ _ => 3) (fun _ _ _ _ => 1) (fun _ _ _ _ => 2) (fun _ _ _ => 2) (fun _ _ _ _ => 2) (fun _ _ => 2) (fun _ _ => 2) (fun _ => 2) (fun _ _ _ _ => 3) (fun _ _ => 3) cK (fun _ => 2) (fun _ => 2) (fun _ => 3) (fun _ _ => 2) (fun _ _ _ => 2) (fun _ _ => 2) o
theorem kind_le (op : Op) : kindOf op ≤ 3 := by
  cases op <;> first | (simp [kindOf]; done) | skip
  rename_i c
  show cK c ≤ 3
  unfold cK
  split <;> omega
theorem ro_ok {op : Op} (hk : kindOf op = 1 ∨ kindOf op = 3) {E : Env} {tm : Tm} {S S' : Hp} {ty : Nat} {x : AV} (h : evOp op E tm S ty = some (.v x S')) : S' = S := by
  cases op <;> first | (rcases hk with hk | hk <;> cases hk; done) | skip
  case call c =>
    cases hc : c.callee with
    | value f => simp [kindOf, cK, hc] at hk
    | invoke a b => simp [kindOf, cK, hc] at hk
    | builtin b =>
      cases b <;> first | (simp [kindOf, cK, hc] at hk; done) | skip
      all_goals
        obtain ⟨args, h1, h2⟩ := recb_ok (o := evXs E.ng tm c.args.toList) h
        simp only [hc, builtA] at h2
        split at h2
        · obtain ⟨z, _, h4⟩ := vS_ok h2; cases h4; rfl
        · cases h2
  case move => obtain ⟨z, _, h4⟩ := vS_ok h; cases h4; rfl
  case assign => obtain ⟨z, _, h4⟩ := vS_ok h; cases h4; rfl
  case pick c a b =>
    obtain ⟨a, _, h2⟩ := b1_ok h
    split at h2
    · obtain ⟨z, _, h4⟩ := vS_ok h2; cases h4; rfl
    · obtain ⟨z, _, h4⟩ := vS_ok h2; cases h4; rfl
    · cases h2
  case build => obtain ⟨a, _, h2⟩ := recb_ok h; obtain ⟨z, _, h4⟩ := vS_ok h2; cases h4; rfl
  case panic =>
    obtain ⟨a, _, h2⟩ := b1_ok h
    split at h2 <;> cases h2
  case load t a => obtain ⟨a, _, h2⟩ := b1_ok h; obtain ⟨z, _, h4⟩ := vS_ok h2; cases h4; rfl
  case nilCheck a => obtain ⟨a, _, h2⟩ := b1_ok h; obtain ⟨_, h3⟩ := rec_some h2; cases h3; rfl
  case binOp => obtain ⟨a, _, h2⟩ := b1_ok h; obtain ⟨b, _, h2⟩ := b1_ok h2; obtain ⟨z, _, h4⟩ := vS_ok h2; cases h4; rfl
  case unOp => obtain ⟨a, _, h2⟩ := b1_ok h; obtain ⟨z, _, h4⟩ := vS_ok h2; cases h4; rfl
  case convert => obtain ⟨a, _, h2⟩ := b1_ok h; obtain ⟨z, _, h4⟩ := vS_ok h2; cases h4; rfl
  case makeInterface => obtain ⟨a, _, h2⟩ := b1_ok h; obtain ⟨z, _, h4⟩ := vS_ok h2; cases h4; rfl
  case makeFunc fn first cap =>
    simp only [evOp, oFunc] at h
    cases fn <;> first | (cases h; done) | skip
    obtain ⟨a, _, h2⟩ := recb_ok h; obtain ⟨b, _, h2⟩ := recb_ok h2; cases h2; rfl
  case slice =>
    obtain ⟨a, _, h2⟩ := b1_ok h
    split at h2
    · obtain ⟨z, _, h4⟩ := vS_ok h2; cases h4; rfl
    · cases h2
  case fieldAddr => obtain ⟨a, _, h2⟩ := b1_ok h; obtain ⟨z, _, h4⟩ := vS_ok h2; cases h4; rfl
  case field => obtain ⟨a, _, h2⟩ := b1_ok h; obtain ⟨z, _, h4⟩ := vS_ok h2; cases h4; rfl
  case indexAddr => obtain ⟨a, _, h2⟩ := b1_ok h; obtain ⟨b, _, h2⟩ := b1_ok h2; obtain ⟨z, _, h4⟩ := vS_ok h2; cases h4; rfl
  case index => obtain ⟨a, _, h2⟩ := b1_ok h; obtain ⟨b, _, h2⟩ := b1_ok h2; obtain ⟨z, _, h4⟩ := vS_ok h2; cases h4; rfl
  case lookup => obtain ⟨a, _, h2⟩ := b1_ok h; obtain ⟨b, _, h2⟩ := b1_ok h2; obtain ⟨z, _, h4⟩ := vS_ok h2; cases h4; rfl
  case typeAssert => obtain ⟨a, _, h2⟩ := b1_ok h; obtain ⟨z, _, h4⟩ := vS_ok h2; cases h4; rfl
  case extract =>
    obtain ⟨a, _, h2⟩ := b1_ok h
    split at h2
    · obtain ⟨z, _, h4⟩ := vS_ok h2; cases h4; rfl
    · cases h2
end Go.AM
