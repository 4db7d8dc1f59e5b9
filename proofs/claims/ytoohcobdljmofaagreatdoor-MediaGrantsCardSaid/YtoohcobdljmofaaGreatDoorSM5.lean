/-
  A machine over abstract values, sound for the model's machine: part 5 (A30, A31, A32, A33, A34, A35, A36, A37). Conditions: none of the program's; it is shown for every program.
-/
import Derived.Test.YtoohcobdljmofaaGreatDoorSM4
/-! A30: The slots of a drawn region: who writes and who looks. -/
namespace Go.AM

noncomputable def allI {α : Type} (p : Nat → α → Bool) (l : List α) : Nat → Bool := List.rec (motive := fun _ => Nat → Bool) (fun _ => true) (fun x _ ih i => Bool.rec false (ih (Nat.succ i)) (p i x)) l
theorem allI_ok {α : Type} {p : Nat → α → Bool} : ∀ {l : List α} {k : Nat}, allI p l k = true → ∀ i x, l[i]? = some x → p (k + i) x = true
  | [], k, h, i, x, e => by simp at e
  | y :: l, k, h, i, x, e => by
    have h' : (Bool.rec false (allI p l (k + 1)) (p k y) : Bool) = true := h
    cases hp : p k y with
    | false => rw [hp] at h'; cases h'
    | true =>
      rw [hp] at h'
      cases i with
      | zero => simp at e; subst e; exact hp
      | succ i => have := allI_ok (l := l) h' i x (by simpa using e); rw [show k + (i + 1) = k + 1 + i from by omega]; exact this
noncomputable def memN (x : Nat) (l : List Nat) : Bool := List.rec false (fun y _ ih => Bool.rec ih true (Nat.beq x y)) l
theorem memN_ok {x : Nat} : ∀ {l : List Nat}, x ∈ l → memN x l = true
  | y :: l, h => by
    show (Bool.rec (memN x l) true (Nat.beq x y) : Bool) = true
    cases hb : Nat.beq x y with
    | true => rfl
    | false =>
      rcases List.mem_cons.1 h with rfl | h
      · rw [Nat.beq_refl] at hb; cases hb
      · exact memN_ok h
noncomputable def dstIs (d : Nat) (o : Option Nat) : Bool := Option.rec false (fun e => Nat.beq d e) o
/-- operation i beside operation j with the slot d -/
noncomputable def pairOk (i mi : Nat) (li : List Nat) (di : Option Nat) (j mj : Nat) (oj : Option Nat) : Bool :=
  Option.rec true (fun d => Bool.rec (Bool.rec (Bool.rec true (Bool.rec (tb mj i) true (tb mi j)) (memN d li)) false (dstIs d di)) true (Nat.beq i j)) oj
noncomputable def rowsI (ops : Array Oper) : List Oper → List Nat → List (Nat × List Nat × Option Nat) :=
  fun l => List.rec (motive := fun _ => List Nat → List (Nat × List Nat × Option Nat)) (fun _ => []) (fun o _ ih ms => match ms with | m :: ms => (m, o.looksAt ops, o.dst) :: ih ms | [] => []) l
noncomputable def slots (ops : Array Oper) (ms : List Nat) : Bool :=
  allI (fun i x => allI (fun j y => pairOk i x.1 x.2.1 x.2.2 j y.1 y.2.2) (rowsI ops ops.toList ms) 0) (rowsI ops ops.toList ms) 0
theorem rowsI_get {ops : Array Oper} : ∀ {l : List Oper} {ms : List Nat} {i : Nat} {o : Oper} {m : Nat}, l[i]? = some o → ms[i]? = some m → (rowsI ops l ms)[i]? = some (m, o.looksAt ops, o.dst)
  | [], ms, i, o, m, h, _ => by simp at h
  | o' :: l, [], i, o, m, _, h => by simp at h
  | o' :: l, m' :: ms, i, o, m, h1, h2 => by
    show ((m', o'.looksAt ops, o'.dst) :: rowsI ops l ms)[i]? = _
    cases i with
    | zero => simp at h1 h2; subst h1 h2; rfl
    | succ i => simp at h1 h2 ⊢; exact rowsI_get h1 h2
structure SlotsOk (ops : Array Oper) (ms : List Nat) : Prop where
  apart : ∀ (i j : Nat) (oi oj : Oper) (mi mj d : Nat), ops[i]? = some oi → ops[j]? = some oj → ms[i]? = some mi → ms[j]? = some mj → i ≠ j → oj.dst = some d → oi.dst ≠ some d ∧ (d ∈ oi.looksAt ops → tb mi j = true ∨ tb mj i = true)
theorem slots_ok {ops : Array Oper} {ms : List Nat} (h : slots ops ms = true) : SlotsOk ops ms := by
  refine ⟨fun i j oi oj mi mj d hi hj hmi hmj hne hd => ?_⟩
  have ri := rowsI_get (ops := ops) (l := ops.toList) (by rw [Array.getElem?_toList]; exact hi) hmi
  have rj := rowsI_get (ops := ops) (l := ops.toList) (by rw [Array.getElem?_toList]; exact hj) hmj
  have h1 := allI_ok (allI_ok h i _ ri) j _ rj
  simp only [Nat.zero_add] at h1
  rw [hd] at h1
  have h2 : (Bool.rec (Bool.rec (Bool.rec true (Bool.rec (tb mj i) true (tb mi j)) (memN d (oi.looksAt ops))) false (dstIs d oi.dst)) true (Nat.beq i j) : Bool) = true := h1
  have hb : Nat.beq i j = false := by rw [nat_beq_decide]; simp [hne]
  rw [hb] at h2
  constructor
  · intro e
    rw [e] at h2
    have : dstIs d (some d) = true := Nat.beq_refl d
    rw [this] at h2; cases h2
  · intro hm
    cases hd2 : dstIs d oi.dst with
    | true => rw [hd2] at h2; cases h2
    | false =>
      rw [hd2, memN_ok hm] at h2
      cases h3 : tb mi j with
      | true => exact .inl rfl
      | false => rw [h3] at h2; exact .inr h2
end Go.AM

/-! A31: The pass through a drawn region in the order of the text. -/
namespace Go.AM

noncomputable def beqL (f : AV → AV → Bool) (l : List AV) : List AV → Bool :=
  List.rec (motive := fun _ => List AV → Bool) (fun r => match r with | [] => true | _ => false) (fun x _ ih r => match r with | y :: r => Bool.rec false (ih r) (f x y) | [] => false) l
noncomputable def eqA (n : Nat) : AV → AV → Bool :=
  Nat.rec (motive := fun _ => AV → AV → Bool) (fun _ _ => false) (fun _ ih x y => match x with
    | .int k a => (match y with | .int l b => Bool.rec false (ieq a b) (Nat.beq (kno k) (kno l)) | _ => false)
    | .bool a => (match y with | .bool b => Bool.rec (Bool.rec true false b) b a | _ => false)
    | .str a => (match y with | .str b => seq a b | _ => false)
    | .nilp => (match y with | .nilp => true | _ => false)
    | .ptr a i => (match y with | .ptr b j => Bool.rec false (Nat.beq i j) (Ps.beq a b) | _ => false)
    | .nils => (match y with | .nils => true | _ => false)
    | .sl a i l c => (match y with | .sl b j m d => Bool.rec false (Bool.rec false (Bool.rec false (Nat.beq c d) (Nat.beq l m)) (Nat.beq i j)) (Ps.beq a b) | _ => false)
    | .su a i l c => (match y with | .su b j m d => Bool.rec false (Bool.rec false (Bool.rec false (Nat.beq c d) (Nat.beq l m)) (Nat.beq i j)) (Ps.beq a b) | _ => false)
    | .nilm => (match y with | .nilm => true | _ => false)
    | .mp a => (match y with | .mp b => Ps.beq a b | _ => false)
    | .nilf => (match y with | .nilf => true | _ => false)
    | .nili => (match y with | .nili => true | _ => false)
    | .ifc t v => (match y with | .ifc u w => Bool.rec false (ih v w) (Nat.beq t u) | _ => false)
    | .fn f a c => (match y with | .fn g b d => Bool.rec false (Bool.rec false (beqL ih c d) (beqL ih a b)) (Nat.beq f g) | _ => false)
    | .agg l => (match y with | .agg r => beqL ih l r | _ => false)
    | .tup l => (match y with | .tup r => beqL ih l r | _ => false)
    | _ => false) n
theorem recf {b c : Bool} (h : (Bool.rec false c b : Bool) = true) : b = true ∧ c = true := by cases b with
  | false => cases h
  | true => exact ⟨rfl, h⟩
theorem beqL_ok {f : AV → AV → Bool} (hf : ∀ x y, f x y = true → x = y) : ∀ {l r : List AV}, beqL f l r = true → l = r
  | [], [], _ => rfl
  | [], _ :: _, h => by cases h
  | _ :: _, [], h => by cases h
  | x :: l, y :: r, h => by
    obtain ⟨h1, h2⟩ := recf (b := f x y) h
    rw [hf _ _ h1, beqL_ok hf h2]
theorem beqn {a b : Nat} (h : Nat.beq a b = true) : a = b := Nat.eq_of_beq_eq_true h
theorem eqA_ok (n : Nat) : ∀ x y, eqA n x y = true → x = y := by
  induction n with
  | zero => intro x y h; cases h
  | succ n ih =>
    intro x y h
    cases x <;> cases y <;> first | (cases h; done) | skip
    case int k a l b => obtain ⟨h1, h2⟩ := recf (b := Nat.beq (kno k) (kno l)) h; rw [ieq_eq] at h2; rw [kno_inj h1, eq_of_beq h2]
    case bool a b => cases a <;> cases b <;> first | rfl | cases h
    case str a b => rw [seq_iff.1 h]
    case nilp => rfl
    case ptr a i b j => obtain ⟨h1, h2⟩ := recf (b := Ps.beq a b) h; rw [Ps.beq_eq.1 h1, beqn h2]
    case nils => rfl
    case sl a i l c b j m d =>
      obtain ⟨h1, h2⟩ := recf (b := Ps.beq a b) h; obtain ⟨h3, h4⟩ := recf h2; obtain ⟨h5, h6⟩ := recf h4
      rw [Ps.beq_eq.1 h1, beqn h3, beqn h5, beqn h6]
    case su a i l c b j m d =>
      obtain ⟨h1, h2⟩ := recf (b := Ps.beq a b) h; obtain ⟨h3, h4⟩ := recf h2; obtain ⟨h5, h6⟩ := recf h4
      rw [Ps.beq_eq.1 h1, beqn h3, beqn h5, beqn h6]
    case nilm => rfl
    case mp a b => rw [Ps.beq_eq.1 h]
    case nilf => rfl
    case nili => rfl
    case ifc t v u w => obtain ⟨h1, h2⟩ := recf (b := Nat.beq t u) h; rw [beqn h1, ih _ _ h2]
    case fn f a c g b d =>
      obtain ⟨h1, h2⟩ := recf (b := Nat.beq f g) h; obtain ⟨h3, h4⟩ := recf h2
      rw [beqn h1, beqL_ok ih h3, beqL_ok ih h4]
    case agg l r => rw [beqL_ok ih h]
    case tup l r => rw [beqL_ok ih h]

/-- operations that only look -/
noncomputable def cK (c : Call) : Nat := match c.callee with | .builtin .len => 1 | .builtin .max => 3 | .builtin .min => 3 | _ => 2
noncomputable def kindOf (o : Op) : Nat :=
  Op.rec (motive := fun _ => Nat) (fun _ => 3) (fun _ => 3) (fun _ _ _ => 3) (fun _ => 0) (fun _ _ => 0) (fun _ _ => 3) (fun _ _ _ => 0) (fun _ _ _ _ => 2) (fun _ _ => 1) (fun _ _ _ => 2) (fun _ => 2) (fun _ => 2) (fun _ => 3) (fun _ _ _ _ _ => 3) (fun _ _ _ => 3) (fun _ _ _ => 1) (fun _ _ => 2) (fun _ _ => 3) (fun _ _ _ => 3) (fun _ _ => 0) (fun _ _ => 2) (fun _ _ _ => 0) (fun _ _ _ _ _ => 1) (fun _ _ _ => 3) (fun _ _ _ => 3) (fun _ _ _ => 3) (fun _ _ _ => 3) (fun _ _ _ _ => 1) (fun _ _ _ _ => 2) (fun _ _ _ => 2) (fun _ _ _ _ => 2) (fun _ _ => 2) (fun _ _ => 2) (fun _ => 2) (fun _ _ _ _ => 3) (fun _ _ => 3) cK (fun _ => 2) (fun _ => 2) (fun _ => 3) (fun _ _ => 2) (fun _ _ _ => 2) (fun _ _ => 2) o
theorem kind_le (op : Op) : kindOf op ≤ 3 := by
  cases op <;> first | (simp [kindOf]; done) | skip
  rename_i c
  show cK c ≤ 3
  unfold cK
  split <;> omega
theorem ro_ok {op : Op} (hk : kindOf op = 1 ∨ kindOf op = 3) {E : Env} {tm : Tm} {S S' : Hp} {ty : Nat} {x : AV} (h : evOp op E tm S ty = some (.v x S')) : S' = S := by
  cases op <;> first | (rcases hk with hk | hk <;> cases hk; done) | skip
  case call c =>
    cases hc : c.callee with
    | value f => simp [kindOf, cK, hc] at hk
    | invoke a b => simp [kindOf, cK, hc] at hk
    | builtin b =>
      cases b <;> first | (simp [kindOf, cK, hc] at hk; done) | skip
      all_goals
        obtain ⟨args, h1, h2⟩ := recb_ok (o := evXs E.ng tm c.args.toList) h
        simp only [hc, builtA] at h2
        split at h2
        · obtain ⟨z, _, h4⟩ := vS_ok h2; cases h4; rfl
        · cases h2
  case move => obtain ⟨z, _, h4⟩ := vS_ok h; cases h4; rfl
  case assign => obtain ⟨z, _, h4⟩ := vS_ok h; cases h4; rfl
  case pick c a b =>
    obtain ⟨a, _, h2⟩ := b1_ok h
    split at h2
    · obtain ⟨z, _, h4⟩ := vS_ok h2; cases h4; rfl
    · obtain ⟨z, _, h4⟩ := vS_ok h2; cases h4; rfl
    · cases h2
  case build => obtain ⟨a, _, h2⟩ := recb_ok h; obtain ⟨z, _, h4⟩ := vS_ok h2; cases h4; rfl
  case panic =>
    obtain ⟨a, _, h2⟩ := b1_ok h
    split at h2 <;> cases h2
  case load t a => obtain ⟨a, _, h2⟩ := b1_ok h; obtain ⟨z, _, h4⟩ := vS_ok h2; cases h4; rfl
  case nilCheck a => obtain ⟨a, _, h2⟩ := b1_ok h; obtain ⟨_, h3⟩ := rec_some h2; cases h3; rfl
  case binOp => obtain ⟨a, _, h2⟩ := b1_ok h; obtain ⟨b, _, h2⟩ := b1_ok h2; obtain ⟨z, _, h4⟩ := vS_ok h2; cases h4; rfl
  case unOp => obtain ⟨a, _, h2⟩ := b1_ok h; obtain ⟨z, _, h4⟩ := vS_ok h2; cases h4; rfl
  case convert => obtain ⟨a, _, h2⟩ := b1_ok h; obtain ⟨z, _, h4⟩ := vS_ok h2; cases h4; rfl
  case makeInterface => obtain ⟨a, _, h2⟩ := b1_ok h; obtain ⟨z, _, h4⟩ := vS_ok h2; cases h4; rfl
  case makeFunc fn first cap =>
    simp only [evOp, oFunc] at h
    cases fn <;> first | (cases h; done) | skip
    obtain ⟨a, _, h2⟩ := recb_ok h; obtain ⟨b, _, h2⟩ := recb_ok h2; cases h2; rfl
  case slice =>
    obtain ⟨a, _, h2⟩ := b1_ok h
    split at h2
    · obtain ⟨z, _, h4⟩ := vS_ok h2; cases h4; rfl
    · cases h2
  case fieldAddr => obtain ⟨a, _, h2⟩ := b1_ok h; obtain ⟨z, _, h4⟩ := vS_ok h2; cases h4; rfl
  case field => obtain ⟨a, _, h2⟩ := b1_ok h; obtain ⟨z, _, h4⟩ := vS_ok h2; cases h4; rfl
  case indexAddr => obtain ⟨a, _, h2⟩ := b1_ok h; obtain ⟨b, _, h2⟩ := b1_ok h2; obtain ⟨z, _, h4⟩ := vS_ok h2; cases h4; rfl
  case index => obtain ⟨a, _, h2⟩ := b1_ok h; obtain ⟨b, _, h2⟩ := b1_ok h2; obtain ⟨z, _, h4⟩ := vS_ok h2; cases h4; rfl
  case lookup => obtain ⟨a, _, h2⟩ := b1_ok h; obtain ⟨b, _, h2⟩ := b1_ok h2; obtain ⟨z, _, h4⟩ := vS_ok h2; cases h4; rfl
  case typeAssert => obtain ⟨a, _, h2⟩ := b1_ok h; obtain ⟨z, _, h4⟩ := vS_ok h2; cases h4; rfl
  case extract =>
    obtain ⟨a, _, h2⟩ := b1_ok h
    split at h2
    · obtain ⟨z, _, h4⟩ := vS_ok h2; cases h4; rfl
    · cases h2
end Go.AM

/-! A32: The pass: what it has found out about each operation. -/
namespace Go.AM

/-- the keys in a value lie below k -/
noncomputable def kbA (k : Nat) (v : AV) : Bool :=
  AV.rec (motive_1 := fun _ => Bool) (motive_2 := fun _ => Bool) (fun _ _ => true) (fun _ => true) (fun _ _ => true) (fun _ => true) true (fun b _ => Nat.blt b.idx k) true (fun b _ _ _ => Nat.blt b.idx k) (fun b _ _ _ => Nat.blt b.idx k) true
    (fun b => Nat.blt b.idx k) (fun _ _ _ x y => Bool.rec false y x) (fun b => Nat.blt b.idx k) true (fun _ _ x => x) true (fun _ x => x) (fun _ x => x) true (fun _ _ x y => Bool.rec false y x) v
/-- a call, or a round of a loop over a function, to its end -/
abbrev CallF := RO → Hp → SR
structure QE where
  i : Nat
  m : Nat
  o : Oper
  tm : Tm
  v : AV
structure PSt where
  tm : Tm
  B : T AO
  A : Nat
  Ef : Nat
  news : List (Nat × Ps × AO)
  levels : List (Nat × T AO)
  qs : List QE
  K : Ps
  pan : Option (Nat × AV × T AO)

noncomputable def addN (f : Nat → Bool) (B : T AO) (l : List (Nat × Ps × AO)) : T AO :=
  List.rec B (fun x _ ih => Bool.rec ih (T.set x.2.1 x.2.2 ih) (f x.1)) l
noncomputable def vis (m A : Nat) : Nat → Bool := fun p => Bool.rec (tb m p) false (tb A p)
noncomputable def skp (pan : Option (Nat × AV × T AO)) (m : Nat) : Bool := match pan with | some (j, _, _) => tb m j | none => false

noncomputable def pPan (i m : Nat) (s : PSt) (v : AV) (hp : T AO) (K' : Ps) : Option PSt :=
  match s.pan with
  | some _ => none
  | none => Bool.rec none (Bool.rec none (some ⟨s.tm, s.B, s.A, s.Ef, s.news, s.levels, s.qs, K', some (i, v, hp)⟩) (Nat.ble s.K.idx K'.idx)) (subM s.Ef m)
noncomputable def pRo (nt i m : Nat) (o : Oper) (s : PSt) (r : Option RO) (H : T AO) : Option PSt :=
  match r with
  | some (.v x _) => Option.rec none (fun tm' => some ⟨tm', s.B, s.A, s.Ef, s.news, s.levels, s.qs, s.K, s.pan⟩) (putD nt o.dst x s.tm)
  | some (.pan v) => pPan i m s v H s.K
  | _ => none
noncomputable def pAl (nt i : Nat) (o : Oper) (s : PSt) (r : Option RO) : Option PSt :=
  match r with
  | some (.v x S') => (match T.get s.K S'.hp with
    | some ob => Bool.rec none (Option.rec none (fun tm' => some ⟨tm', s.B, s.A, s.Ef, (i, s.K, ob) :: s.news, s.levels, s.qs, Ps.succ s.K, s.pan⟩) (putD nt o.dst x s.tm)) (Ps.beq S'.nx (Ps.succ s.K))
    | none => none)
  | _ => none
noncomputable def pLk (nt i m : Nat) (o : Oper) (s : PSt) (r : Option RO) (H : T AO) : Option PSt :=
  match r with
  | some (.v x _) => Bool.rec none (Option.rec none (fun tm' => some ⟨tm', s.B, s.A, s.Ef, s.news, s.levels, ⟨i, m, o, s.tm, x⟩ :: s.qs, s.K, s.pan⟩) (putD nt o.dst x s.tm)) (kbA s.K.idx x)
  | some (.pan v) => pPan i m s v H s.K
  | _ => none
noncomputable def lvl (s : PSt) (i m : Nat) : Nat := Nat.lor (Nat.lor s.A m) (bit i)
noncomputable def pEf (nt i m : Nat) (o : Oper) (s : PSt) (x : AV) (S' : Hp) : Option PSt :=
  Bool.rec none (Option.rec none (fun tm' => some ⟨tm', S'.hp, lvl s i m, Nat.lor s.Ef (bit i), s.news, (lvl s i m, S'.hp) :: s.levels, s.qs, S'.nx, s.pan⟩) (putD nt o.dst x s.tm)) (Nat.ble s.K.idx S'.nx.idx)
noncomputable def pEff (CALL : CallF) (nt i m : Nat) (o : Oper) (s : PSt) (r : Option RO) (H : Hp) : Option PSt :=
  match r with
  | some (.v x S') => pEf nt i m o s x S'
  | some (.call f args) => (match CALL (.call f args) H with
    | .fin x S' => pEf nt i m o s x S'
    | .finP v S' => pPan i m s v S'.hp S'.nx
    | _ => none)
  | some (.yld l args) => (match CALL (.yld l args) H with
    | .fin x S' => pEf nt i m o s x S'
    | .finP v S' => pPan i m s v S'.hp S'.nx
    | _ => none)
  | some (.pan v) => pPan i m s v H.hp s.K
  | _ => none
noncomputable def pEff0 (CALL : CallF) (E : Env) (nt : Nat) (i m : Nat) (o : Oper) (s : PSt) (H : Hp) : Option PSt :=
  match s.pan with
  | some _ => none
  | none => Bool.rec none (pEff CALL nt i m o s (evOp o.op E s.tm H o.type) H) (subM s.Ef m)
noncomputable def pKd (CALL : CallF) (E : Env) (nt : Nat) (fl : Nat) (i : Nat) (o : Oper) (m : Nat) (s : PSt) (H : T AO) (k : Nat) : Option PSt :=
  Nat.rec (pAl nt i o s (evOp o.op E s.tm ⟨.e, s.K, 0⟩ o.type)) (fun k _ => Nat.rec (pLk nt i m o s (evOp o.op E s.tm ⟨H, s.K, s.K.idx⟩ o.type) H)
    (fun k _ => Nat.rec (pEff0 CALL E nt i m o s ⟨H, s.K, fl⟩) (fun _ _ => pRo nt i m o s (evOp o.op E s.tm ⟨.e, s.K, 0⟩ o.type) H) k) k) k
noncomputable def stepP (CALL : CallF) (E : Env) (nt : Nat) (ops : Array Oper) (fl : Nat) (i : Nat) (o : Oper) (m : Nat) (s : PSt) : Option PSt :=
  match skp s.pan m with
  | true => some s
  | false => (match wantA nt ops s.tm o with
    | none => none
    | some false => Option.rec none (fun tm' => some ⟨tm', s.B, s.A, s.Ef, s.news, s.levels, s.qs, s.K, s.pan⟩) (putD nt o.dst (.tup []) s.tm)
    | some true => pKd CALL E nt fl i o m s (addN (vis m s.A) s.B s.news) (kindOf o.op))
noncomputable def pass (CALL : CallF) (E : Env) (nt : Nat) (ops : Array Oper) (fl : Nat) (l : List Oper) : List Nat → Nat → PSt → Option PSt :=
  List.rec (motive := fun _ => List Nat → Nat → PSt → Option PSt) (fun _ _ s => some s) (fun o _ ih ms i s => match ms with
    | m :: ms => Option.rec none (ih ms (Nat.succ i)) (stepP CALL E nt ops fl i o m s)
    | [] => none) l

/-- what an operation has come to -/
inductive Oc where
  | skip
  | q (v : AV) (nw : Option AO)
  | qb (v : AV)
  | ef (v : AV)
  | pan (v : AV) (hp : T AO)
inductive OcR (CALL : CallF) (E : Env) (nt : Nat) (ops : Array Oper) (fl : Nat) (i : Nat) (o : Oper) (m : Nat) (s : PSt) : Oc → PSt → Prop where
  | skip (h : skp s.pan m = true) : OcR CALL E nt ops fl i o m s .skip s
  | un {tm' : Tm} (hw : wantA nt ops s.tm o = some false) (hp : putD nt o.dst (.tup []) s.tm = some tm') : OcR CALL E nt ops fl i o m s (.q (.tup []) none) ⟨tm', s.B, s.A, s.Ef, s.news, s.levels, s.qs, s.K, s.pan⟩
  | qr {x : AV} {tm' : Tm} (hw : wantA nt ops s.tm o = some true) (he : evOp o.op E s.tm ⟨.e, s.K, 0⟩ o.type = some (.v x ⟨.e, s.K, 0⟩)) (hp : putD nt o.dst x s.tm = some tm') :
      OcR CALL E nt ops fl i o m s (.q x none) ⟨tm', s.B, s.A, s.Ef, s.news, s.levels, s.qs, s.K, s.pan⟩
  | qa {x : AV} {tm' : Tm} {S' : Hp} {ob : AO} (hw : wantA nt ops s.tm o = some true) (he : evOp o.op E s.tm ⟨.e, s.K, 0⟩ o.type = some (.v x S')) (hn : S'.nx = Ps.succ s.K) (hg : T.get s.K S'.hp = some ob)
      (hp : putD nt o.dst x s.tm = some tm') : OcR CALL E nt ops fl i o m s (.q x (some ob)) ⟨tm', s.B, s.A, s.Ef, (i, s.K, ob) :: s.news, s.levels, s.qs, Ps.succ s.K, s.pan⟩
  | qb {x : AV} {tm' : Tm} (hw : wantA nt ops s.tm o = some true) (hk : kindOf o.op = 1) (hb : kbA s.K.idx x = true) (hp : putD nt o.dst x s.tm = some tm') :
      OcR CALL E nt ops fl i o m s (.qb x) ⟨tm', s.B, s.A, s.Ef, s.news, s.levels, ⟨i, m, o, s.tm, x⟩ :: s.qs, s.K, s.pan⟩
  | ef {x : AV} {tm' : Tm} {S' : Hp} (hw : wantA nt ops s.tm o = some true) (hn : s.pan = none) (hs : subM s.Ef m = true)
      (he : evOp o.op E s.tm ⟨addN (vis m s.A) s.B s.news, s.K, fl⟩ o.type = some (.v x S') ∨ ∃ ro, evOp o.op E s.tm ⟨addN (vis m s.A) s.B s.news, s.K, fl⟩ o.type = some ro ∧ CALL ro ⟨addN (vis m s.A) s.B s.news, s.K, fl⟩ = .fin x S')
      (hK : s.K.idx ≤ S'.nx.idx) (hp : putD nt o.dst x s.tm = some tm') :
      OcR CALL E nt ops fl i o m s (.ef x) ⟨tm', S'.hp, lvl s i m, Nat.lor s.Ef (bit i), s.news, (lvl s i m, S'.hp) :: s.levels, s.qs, S'.nx, s.pan⟩
  | pn {v : AV} {H : T AO} {f : Nat} (hw : wantA nt ops s.tm o = some true) (hn : s.pan = none) (hs : subM s.Ef m = true) (hH : ∀ a b, T.get a H = some b → T.get a (addN (vis m s.A) s.B s.news) = some b)
      (he : evOp o.op E s.tm ⟨H, s.K, f⟩ o.type = some (.pan v)) : OcR CALL E nt ops fl i o m s (.pan v (addN (vis m s.A) s.B s.news)) ⟨s.tm, s.B, s.A, s.Ef, s.news, s.levels, s.qs, s.K, some (i, v, addN (vis m s.A) s.B s.news)⟩
  | pc {v : AV} {ro : RO} {S' : Hp} (hw : wantA nt ops s.tm o = some true) (hn : s.pan = none) (hs : subM s.Ef m = true)
      (he : evOp o.op E s.tm ⟨addN (vis m s.A) s.B s.news, s.K, fl⟩ o.type = some ro) (hc : CALL ro ⟨addN (vis m s.A) s.B s.news, s.K, fl⟩ = .finP v S') (hK : s.K.idx ≤ S'.nx.idx) :
      OcR CALL E nt ops fl i o m s (.pan v S'.hp) ⟨s.tm, s.B, s.A, s.Ef, s.news, s.levels, s.qs, S'.nx, some (i, v, S'.hp)⟩

section
variable {CALL : CallF} {E : Env} {nt : Nat} {ops : Array Oper} {fl : Nat} {i : Nat} {o : Oper} {m : Nat} {s s' : PSt}
theorem pPan_ok {v : AV} {hp : T AO} {K' : Ps} (h : pPan i m s v hp K' = some s') : s.pan = none ∧ subM s.Ef m = true ∧ s.K.idx ≤ K'.idx ∧ s' = ⟨s.tm, s.B, s.A, s.Ef, s.news, s.levels, s.qs, K', some (i, v, hp)⟩ := by
  unfold pPan at h
  split at h
  · cases h
  · rename_i hn
    obtain ⟨h1, h2⟩ := rec_some h
    obtain ⟨h3, h4⟩ := rec_some h2
    cases h4
    exact ⟨hn, h1, Nat.le_of_ble_eq_true h3, rfl⟩
theorem T.get_none_e {α : Type} (a : Ps) : T.get a (.e : T α) = none := T.get_e a
theorem pEf_ok {x : AV} {S' : Hp} (h : pEf nt i m o s x S' = some s') : s.K.idx ≤ S'.nx.idx ∧ ∃ tm', putD nt o.dst x s.tm = some tm' ∧ s' = ⟨tm', S'.hp, lvl s i m, Nat.lor s.Ef (bit i), s.news, (lvl s i m, S'.hp) :: s.levels, s.qs, S'.nx, s.pan⟩ := by
  obtain ⟨h1, h2⟩ := rec_some (b := Nat.ble s.K.idx S'.nx.idx) h
  obtain ⟨tm', h3, h4⟩ := recb_ok (o := putD nt o.dst x s.tm) h2
  cases h4
  exact ⟨Nat.le_of_ble_eq_true h1, tm', h3, rfl⟩
theorem stepP_ok (h : stepP CALL E nt ops fl i o m s = some s') : ∃ oc, OcR CALL E nt ops fl i o m s oc s' := by
  unfold stepP at h
  split at h
  · rename_i hs
    cases h
    exact ⟨_, .skip hs⟩
  · split at h
    · cases h
    · rename_i hw
      obtain ⟨tm', h1, h2⟩ := recb_ok (o := putD nt o.dst (.tup []) s.tm) h
      cases h2
      exact ⟨_, .un hw h1⟩
    · rename_i hw
      have hsub : ∀ a b, T.get a (.e : T AO) = some b → T.get a (addN (vis m s.A) s.B s.news) = some b := fun a b e => by rw [T.get_none_e] at e; cases e
      cases hk : kindOf o.op with
      | zero =>
        rw [hk] at h
        have h' : pAl nt i o s (evOp o.op E s.tm ⟨.e, s.K, 0⟩ o.type) = some s' := h
        unfold pAl at h'
        split at h'
        · rename_i x S' he
          split at h'
          · rename_i ob hg
            obtain ⟨h1, h2⟩ := rec_some h'
            obtain ⟨tm', h3, h4⟩ := recb_ok (o := putD nt o.dst x s.tm) h2
            cases h4
            exact ⟨_, .qa hw he (Ps.beq_eq.1 h1) hg h3⟩
          · cases h'
        · cases h'
      | succ k1 =>
        rw [hk] at h
        cases k1 with
        | zero =>
          have h' : pLk nt i m o s (evOp o.op E s.tm ⟨addN (vis m s.A) s.B s.news, s.K, s.K.idx⟩ o.type) (addN (vis m s.A) s.B s.news) = some s' := h
          unfold pLk at h'
          split at h'
          · rename_i x S' he
            obtain ⟨h1, h2⟩ := rec_some h'
            obtain ⟨tm', h3, h4⟩ := recb_ok (o := putD nt o.dst x s.tm) h2
            cases h4
            exact ⟨_, .qb hw hk h1 h3⟩
          · rename_i v he
            obtain ⟨h1, h2, h3, rfl⟩ := pPan_ok h'
            exact ⟨_, .pn hw h1 h2 (fun _ _ e => e) he⟩
          · cases h'
        | succ k2 =>
          cases k2 with
          | zero =>
            have h' : pEff0 CALL E nt i m o s ⟨addN (vis m s.A) s.B s.news, s.K, fl⟩ = some s' := h
            unfold pEff0 at h'
            split at h'
            · cases h'
            · rename_i hn
              obtain ⟨h1, h2⟩ := rec_some h'
              unfold pEff at h2
              split at h2
              · rename_i x S' he
                obtain ⟨h3, tm', h4, rfl⟩ := pEf_ok h2
                exact ⟨_, .ef hw hn h1 (.inl he) h3 h4⟩
              · rename_i f args he
                split at h2
                · rename_i x S' hc
                  obtain ⟨h3, tm', h4, rfl⟩ := pEf_ok h2
                  exact ⟨_, .ef hw hn h1 (.inr ⟨_, he, hc⟩) h3 h4⟩
                · rename_i v S' hc
                  obtain ⟨h1, h3, h4, rfl⟩ := pPan_ok h2
                  exact ⟨_, .pc hw h1 h3 he hc h4⟩
                · cases h2
              · rename_i l args he
                split at h2
                · rename_i x S' hc
                  obtain ⟨h3, tm', h4, rfl⟩ := pEf_ok h2
                  exact ⟨_, .ef hw hn h1 (.inr ⟨_, he, hc⟩) h3 h4⟩
                · rename_i v S' hc
                  obtain ⟨h1, h3, h4, rfl⟩ := pPan_ok h2
                  exact ⟨_, .pc hw h1 h3 he hc h4⟩
                · cases h2
              · rename_i v he
                obtain ⟨h1, h3, h4, rfl⟩ := pPan_ok h2
                exact ⟨_, .pn hw h1 h3 (fun _ _ e => e) he⟩
              · cases h2
          | succ k3 =>
            have hk3 : kindOf o.op = 3 := by
              have := kind_le o.op
              omega
            have h' : pRo nt i m o s (evOp o.op E s.tm ⟨.e, s.K, 0⟩ o.type) (addN (vis m s.A) s.B s.news) = some s' := h
            unfold pRo at h'
            split at h'
            · rename_i x S' he
              obtain ⟨tm', h3, h4⟩ := recb_ok (o := putD nt o.dst x s.tm) h'
              cases h4
              rw [ro_ok (.inr hk3) he] at he
              exact ⟨_, .qr hw he h3⟩
            · rename_i v he
              obtain ⟨h1, h2, h3, rfl⟩ := pPan_ok h'
              exact ⟨_, .pn hw h1 h2 hsub he⟩
            · cases h'
def shiftF {α : Type} (x : α) (f : Nat → α) : Nat → α | 0 => x | n + 1 => f n
theorem pass_ok : ∀ {l : List Oper} {ms : List Nat} {i : Nat} {s s' : PSt}, pass CALL E nt ops fl l ms i s = some s' →
    ∃ (P : Nat → PSt) (oc : Nat → Oc), P 0 = s ∧ P l.length = s' ∧ ∀ j o m, l[j]? = some o → ms[j]? = some m → OcR CALL E nt ops fl (i + j) o m (P j) (oc j) (P (j + 1))
  | [], ms, i, s, s', h => by
    cases h
    exact ⟨fun _ => s, fun _ => .skip, rfl, rfl, fun j o m e => by simp at e⟩
  | o :: l, [], i, s, s', h => by cases h
  | o :: l, m :: ms, i, s, s', h => by
    have h' : (Option.rec none (pass CALL E nt ops fl l ms (i + 1)) (stepP CALL E nt ops fl i o m s) : Option PSt) = some s' := h
    obtain ⟨s1, h1, h2⟩ := recb_ok h'
    obtain ⟨oc1, h3⟩ := stepP_ok h1
    obtain ⟨P, oc, g1, g2, g3⟩ := pass_ok h2
    refine ⟨shiftF s P, shiftF oc1 oc, rfl, g2, fun j o' m' hj hm => ?_⟩
    cases j with
    | zero =>
      simp at hj hm
      subst hj hm
      show OcR CALL E nt ops fl i o m s oc1 (P 0)
      rw [g1]; exact h3
    | succ j =>
      have := g3 j o' m' (by simpa using hj) (by simpa using hm)
      rw [show i + (j + 1) = i + 1 + j from by omega]
      exact this
end
end Go.AM

/-! A33: What the pass has found out, over all operations. -/
namespace Go.AM

def Oc.val : Oc → Option AV | .q v _ => some v | .qb v => some v | .ef v => some v | _ => none
def Oc.isEf : Oc → Prop | .ef _ => True | _ => False
structure Plan (CALL : CallF) (E : Env) (nt : Nat) (ops : Array Oper) (fl : Nat) (ms : List Nat) (P : Nat → PSt) (oc : Nat → Oc) (tm0 : Tm) (B0 : T AO) (K0 : Ps) : Prop where
  masks : MasksOk ops.toList ms
  slots : SlotsOk ops ms
  init : P 0 = ⟨tm0, B0, 0, 0, [], [(0, B0)], [], K0, none⟩
  step : ∀ j o m, ops[j]? = some o → ms[j]? = some m → OcR CALL E nt ops fl j o m (P j) (oc j) (P (j + 1))

section
variable {CALL : CallF} {E : Env} {nt : Nat} {ops : Array Oper} {fl : Nat} {ms : List Nat} {P : Nat → PSt} {oc : Nat → Oc} {tm0 : Tm} {B0 : T AO} {K0 : Ps} (h : Plan CALL E nt ops fl ms P oc tm0 B0 K0)
include h
theorem Plan.at {j : Nat} (hj : j < ops.size) : ∃ o m, ops[j]? = some o ∧ ms[j]? = some m ∧ OcR CALL E nt ops fl j o m (P j) (oc j) (P (j + 1)) := by
  have h1 : ops[j]? = some ops[j] := Array.getElem?_eq_getElem hj
  have h2 : j < ms.length := by rw [h.masks.len]; simpa using hj
  have h3 : ms[j]? = some ms[j] := List.getElem?_eq_getElem h2
  exact ⟨_, _, h1, h3, h.step j _ _ h1 h3⟩
theorem Plan.K1 {j : Nat} (hj : j < ops.size) : (P j).K.idx ≤ (P (j + 1)).K.idx := by
  obtain ⟨o, m, h1, h2, h3⟩ := h.at hj
  generalize oc j = c at h3
  generalize hs : P (j + 1) = s' at h3
  cases h3 with
  | skip h => exact Nat.le_refl _
  | un hw hp => exact Nat.le_refl _
  | qr hw he hp => exact Nat.le_refl _
  | qa hw he hn hg hp => show _ ≤ (Ps.succ _).idx; rw [Ps.idx_succ]; omega
  | qb hw hk hb hp => exact Nat.le_refl _
  | ef hw hn hs he hK hp => exact hK
  | pn hw hn hs hH he => exact Nat.le_refl _
  | pc hw hn hs he hc hK => exact hK
theorem Plan.K {i j : Nat} (hij : i ≤ j) (hj : j ≤ ops.size) : (P i).K.idx ≤ (P j).K.idx := by
  induction j with
  | zero => have : i = 0 := by omega
            subst this; exact Nat.le_refl _
  | succ j ih =>
    by_cases e : i = j + 1
    · subst e; exact Nat.le_refl _
    · exact Nat.le_trans (ih (by omega) (by omega)) (h.K1 (by omega))
theorem Plan.Ef {i : Nat} (hi : i ≤ ops.size) (e : Nat) : tb (P i).Ef e = true ↔ e < i ∧ (oc e).isEf := by
  induction i with
  | zero => rw [h.init]; simp [tb_zero]
  | succ i ih =>
    obtain ⟨o, m, h1, h2, h3⟩ := h.at (j := i) (by omega)
    have ih := ih (by omega)
    have same : (P (i + 1)).Ef = (P i).Ef → ¬ (oc i).isEf → (tb (P (i + 1)).Ef e = true ↔ e < i + 1 ∧ (oc e).isEf) := fun e1 e2 => by
      rw [e1, ih]
      constructor
      · rintro ⟨a, b⟩; exact ⟨by omega, b⟩
      · rintro ⟨a, b⟩
        refine ⟨?_, b⟩
        rcases Nat.lt_or_ge e i with h | h
        · exact h
        · have : e = i := by omega
          subst this; exact absurd b e2
    generalize hc : oc i = c at h3 same
    generalize hs : P (i + 1) = s' at h3 same
    cases h3 with
    | skip h => exact same rfl (fun x => x)
    | un hw hp => exact same rfl (fun x => x)
    | qr hw he hp => exact same rfl (fun x => x)
    | qa hw he hn hg hp => exact same rfl (fun x => x)
    | qb hw hk hb hp => exact same rfl (fun x => x)
    | pn hw hn hs hH he => exact same rfl (fun x => x)
    | pc hw hn hs he hc hK => exact same rfl (fun x => x)
    | ef hw hn hs he hK hp =>
      show tb (Nat.lor (P i).Ef (bit i)) e = true ↔ _
      rw [tb_or, tb_bit, Bool.or_eq_true, ih]
      simp only [decide_eq_true_eq]
      constructor
      · rintro (⟨a, b⟩ | rfl)
        · exact ⟨by omega, b⟩
        · exact ⟨by omega, by rw [hc]; trivial⟩
      · rintro ⟨a, b⟩
        rcases Nat.lt_or_ge e i with h | h
        · exact .inl ⟨h, b⟩
        · exact .inr (by omega)
theorem Plan.A1 {i : Nat} (hi : i ≤ ops.size) {e : Nat} (he : e < i) (hf : (oc e).isEf) : tb (P i).A e = true := by
  induction i with
  | zero => omega
  | succ i ih =>
    obtain ⟨o, m, h1, h2, h3⟩ := h.at (j := i) (by omega)
    have ih := ih (by omega)
    have same : (P (i + 1)).A = (P i).A → ¬ (oc i).isEf → tb (P (i + 1)).A e = true := fun e1 e2 => by
      rw [e1]; refine ih ?_
      rcases Nat.lt_or_ge e i with h | h
      · exact h
      · have : e = i := by omega
        subst this; exact absurd hf e2
    generalize hc : oc i = c at h3 same
    generalize hs : P (i + 1) = s' at h3 same
    cases h3 with
    | skip h => exact same rfl (fun x => x)
    | un hw hp => exact same rfl (fun x => x)
    | qr hw he hp => exact same rfl (fun x => x)
    | qa hw he hn hg hp => exact same rfl (fun x => x)
    | qb hw hk hb hp => exact same rfl (fun x => x)
    | pn hw hn hs hH he => exact same rfl (fun x => x)
    | pc hw hn hs he hc hK => exact same rfl (fun x => x)
    | ef hw hn hs he' hK hp =>
      show tb (Nat.lor (Nat.lor (P i).A m) (bit i)) e = true
      rw [tb_or, tb_or, tb_bit]
      rcases Nat.lt_or_ge e i with h | h
      · rw [ih h]; rfl
      · have : i = e := by omega
        simp [this]
theorem Plan.A2 {i : Nat} (hi : i ≤ ops.size) {p : Nat} (hp : tb (P i).A p = true) : ∃ e, e < i ∧ (oc e).isEf ∧ (p = e ∨ ∃ m, ms[e]? = some m ∧ tb m p = true) := by
  induction i with
  | zero => rw [h.init] at hp; rw [tb_zero] at hp; cases hp
  | succ i ih =>
    obtain ⟨o, m, h1, h2, h3⟩ := h.at (j := i) (by omega)
    have ih := ih (by omega)
    have up : tb (P i).A p = true → ∃ e, e < i + 1 ∧ (oc e).isEf ∧ (p = e ∨ ∃ m, ms[e]? = some m ∧ tb m p = true) := fun x => by
      obtain ⟨e, a, b⟩ := ih x; exact ⟨e, by omega, b⟩
    generalize hc : oc i = c at h3
    generalize hs : P (i + 1) = s' at h3 hp
    cases h3 with
    | skip h => exact up hp
    | un hw _ => exact up hp
    | qr hw he _ => exact up hp
    | qa hw he hn hg _ => exact up hp
    | qb hw hk hb _ => exact up hp
    | pn hw hn hs hH he => exact up hp
    | pc hw hn hs he hc hK => exact up hp
    | ef hw hn hs he' hK _ =>
      have hp : tb (Nat.lor (Nat.lor (P i).A m) (bit i)) p = true := hp
      rw [tb_or, tb_or, tb_bit] at hp
      simp only [Bool.or_eq_true, decide_eq_true_eq] at hp
      rcases hp with (hp | hp) | hp
      · exact up hp
      · exact ⟨i, by omega, by rw [hc]; trivial, .inr ⟨m, h2, hp⟩⟩
      · exact ⟨i, by omega, by rw [hc]; trivial, .inl hp.symm⟩
theorem Plan.AB {i j : Nat} (hij : i ≤ j) (hj : j ≤ ops.size) (hn : ∀ e, i ≤ e → e < j → ¬ (oc e).isEf) : (P j).A = (P i).A ∧ (P j).B = (P i).B := by
  induction j with
  | zero => have : i = 0 := by omega
            subst this; exact ⟨rfl, rfl⟩
  | succ j ih =>
    by_cases e : i = j + 1
    · subst e; exact ⟨rfl, rfl⟩
    · have ih := ih (by omega) (by omega) (fun e a b => hn e a (by omega))
      obtain ⟨o, m, h1, h2, h3⟩ := h.at (j := j) (by omega)
      have hne := hn j (by omega) (by omega)
      generalize hc : oc j = c at h3 hne
      generalize hs : P (j + 1) = s' at h3
      cases h3 with
      | skip h => exact ih
      | un hw hp => exact ih
      | qr hw he hp => exact ih
      | qa hw he hn hg hp => exact ih
      | qb hw hk hb hp => exact ih
      | pn hw hn hs hH he => exact ih
      | pc hw hn hs he hc hK => exact ih
      | ef hw hn hs he' hK hp => exact absurd trivial hne
theorem Plan.news1 {i : Nat} (hi : i ≤ ops.size) {p : Nat} {k : Ps} {b : AO} (hp : (p, k, b) ∈ (P i).news) : p < i ∧ k = (P p).K ∧ ∃ v, oc p = .q v (some b) := by
  induction i with
  | zero => rw [h.init] at hp; cases hp
  | succ i ih =>
    obtain ⟨o, m, h1, h2, h3⟩ := h.at (j := i) (by omega)
    have ih := ih (by omega)
    have up : (p, k, b) ∈ (P i).news → p < i + 1 ∧ k = (P p).K ∧ ∃ v, oc p = .q v (some b) := fun x => by
      obtain ⟨a, r⟩ := ih x; exact ⟨by omega, r⟩
    generalize hc : oc i = c at h3
    generalize hs : P (i + 1) = s' at h3 hp
    cases h3 with
    | skip h => exact up hp
    | un hw _ => exact up hp
    | qr hw he _ => exact up hp
    | qb hw hk hb _ => exact up hp
    | pn hw hn hs hH he => exact up hp
    | pc hw hn hs he hc hK => exact up hp
    | ef hw hn hs he' hK _ => exact up hp
    | qa hw he hn hg _ =>
      rcases List.mem_cons.1 hp with e | e
      · cases e; exact ⟨by omega, rfl, _, hc⟩
      · exact up e
theorem Plan.news2 {i : Nat} (hi : i ≤ ops.size) {p : Nat} {v : AV} {b : AO} (hp : p < i) (ho : oc p = .q v (some b)) : (p, (P p).K, b) ∈ (P i).news := by
  induction i with
  | zero => omega
  | succ i ih =>
    obtain ⟨o, m, h1, h2, h3⟩ := h.at (j := i) (by omega)
    have ih := ih (by omega)
    have up : (P (i + 1)).news = (P i).news → (∀ v b, oc i ≠ .q v (some b)) → (p, (P p).K, b) ∈ (P (i + 1)).news := fun e1 e2 => by
      rw [e1]; refine ih ?_
      rcases Nat.lt_or_ge p i with h | h
      · exact h
      · have : p = i := by omega
        subst this; exact absurd ho (e2 v b)
    generalize hc : oc i = c at h3 up
    generalize hs : P (i + 1) = s' at h3 up
    cases h3 with
    | skip h => exact up rfl (fun _ _ e => by cases e)
    | un hw _ => exact up rfl (fun _ _ e => by cases e)
    | qr hw he _ => exact up rfl (fun _ _ e => by cases e)
    | qb hw hk hb _ => exact up rfl (fun _ _ e => by cases e)
    | pn hw hn hs hH he => exact up rfl (fun _ _ e => by cases e)
    | pc hw hn hs he hc hK => exact up rfl (fun _ _ e => by cases e)
    | ef hw hn hs he' hK _ => exact up rfl (fun _ _ e => by cases e)
    | @qa x tm' S' ob hw he hn hg _ =>
      rcases Nat.lt_or_ge p i with h | h
      · exact List.mem_cons_of_mem _ (ih h)
      · have : p = i := by omega
        subst this
        rw [hc] at ho; cases ho
        exact List.mem_cons_self ..
theorem Plan.qs {i : Nat} (hi : i ≤ ops.size) {q : Nat} {v : AV} (hq : q < i) (ho : oc q = .qb v) {o : Oper} {m : Nat} (hoq : ops[q]? = some o) (hmq : ms[q]? = some m) : (⟨q, m, o, (P q).tm, v⟩ : QE) ∈ (P i).qs := by
  induction i with
  | zero => omega
  | succ i ih =>
    obtain ⟨o', m', h1, h2, h3⟩ := h.at (j := i) (by omega)
    have ih := ih (by omega)
    have up : (P (i + 1)).qs = (P i).qs → (∀ v, oc i ≠ .qb v) → (⟨q, m, o, (P q).tm, v⟩ : QE) ∈ (P (i + 1)).qs := fun e1 e2 => by
      rw [e1]; refine ih ?_
      rcases Nat.lt_or_ge q i with h | h
      · exact h
      · have : q = i := by omega
        subst this; exact absurd ho (e2 v)
    generalize hc : oc i = c at h3 up
    generalize hs : P (i + 1) = s' at h3 up
    cases h3 with
    | skip h => exact up rfl (fun _ e => by cases e)
    | un hw _ => exact up rfl (fun _ e => by cases e)
    | qr hw he _ => exact up rfl (fun _ e => by cases e)
    | qa hw he hn hg _ => exact up rfl (fun _ e => by cases e)
    | pn hw hn hs hH he => exact up rfl (fun _ e => by cases e)
    | pc hw hn hs he hc hK => exact up rfl (fun _ e => by cases e)
    | ef hw hn hs he' hK _ => exact up rfl (fun _ e => by cases e)
    | qb hw hk hb _ =>
      rcases Nat.lt_or_ge q i with h | h
      · exact List.mem_cons_of_mem _ (ih h)
      · have : q = i := by omega
        subst this
        rw [h1] at hoq; cases hoq
        rw [h2] at hmq; cases hmq
        rw [hc] at ho; cases ho
        exact List.mem_cons_self ..
theorem Plan.levels {i l : Nat} (hi : i ≤ ops.size) (hl : l ≤ i) (hf : l = 0 ∨ ∃ e, l = e + 1 ∧ (oc e).isEf) : ((P l).A, (P l).B) ∈ (P i).levels := by
  induction i with
  | zero => have : l = 0 := by omega
            subst this; rw [h.init]; simp
  | succ i ih =>
    obtain ⟨o', m', h1, h2, h3⟩ := h.at (j := i) (by omega)
    have ih := ih (by omega)
    have up : (P (i + 1)).levels = (P i).levels → ¬ (oc i).isEf → ((P l).A, (P l).B) ∈ (P (i + 1)).levels := fun e1 e2 => by
      rw [e1]; refine ih ?_
      rcases Nat.lt_or_ge l (i + 1) with h | h
      · omega
      · have : l = i + 1 := by omega
        subst this
        rcases hf with hf | ⟨e, hf, hg⟩
        · omega
        · have : e = i := by omega
          subst this; exact absurd hg e2
    generalize hc : oc i = c at h3 up
    generalize hs : P (i + 1) = s' at h3 up
    cases h3 with
    | skip h => exact up rfl (fun x => x)
    | un hw _ => exact up rfl (fun x => x)
    | qr hw he _ => exact up rfl (fun x => x)
    | qa hw he hn hg _ => exact up rfl (fun x => x)
    | pn hw hn hs hH he => exact up rfl (fun x => x)
    | pc hw hn hs he hc hK => exact up rfl (fun x => x)
    | qb hw hk hb _ => exact up rfl (fun x => x)
    | ef hw hn hs' he' hK _ =>
      rcases Nat.lt_or_ge l (i + 1) with h | h
      · exact List.mem_cons_of_mem _ (ih (by omega))
      · have : l = i + 1 := by omega
        subst this
        rw [hs]
        exact List.mem_cons_self ..
/-- a panic is remembered -/
theorem Plan.pan1 {i : Nat} (hi : i ≤ ops.size) {p : Nat} {v : AV} {hp : T AO} (hpn : (P i).pan = some (p, v, hp)) : p < i ∧ oc p = .pan v hp := by
  induction i with
  | zero => rw [h.init] at hpn; cases hpn
  | succ i ih =>
    obtain ⟨o', m', h1, h2, h3⟩ := h.at (j := i) (by omega)
    have ih := ih (by omega)
    have up : (P i).pan = some (p, v, hp) → p < i + 1 ∧ oc p = .pan v hp := fun x => by
      obtain ⟨a, b⟩ := ih x; exact ⟨by omega, b⟩
    generalize hc : oc i = c at h3
    generalize hs : P (i + 1) = s' at h3 hpn
    cases h3 with
    | skip h => exact up hpn
    | un hw _ => exact up hpn
    | qr hw he _ => exact up hpn
    | qa hw he hn hg _ => exact up hpn
    | qb hw hk hb _ => exact up hpn
    | ef hw hn hs' he' hK _ => exact up hpn
    | pn hw hn hs hH he => cases hpn; exact ⟨by omega, hc⟩
    | pc hw hn hs he hc' hK => cases hpn; exact ⟨by omega, hc⟩
theorem Plan.pan2 {i : Nat} (hi : i ≤ ops.size) {p : Nat} {v : AV} {hp : T AO} (hlt : p < i) (ho : oc p = .pan v hp) : (P i).pan = some (p, v, hp) := by
  induction i with
  | zero => omega
  | succ i ih =>
    obtain ⟨o', m', h1, h2, h3⟩ := h.at (j := i) (by omega)
    have ih := ih (by omega)
    by_cases e : p = i
    · subst e
      generalize hs : P (p + 1) = s' at h3
      generalize hc : oc p = c at h3
      rw [hc] at ho; subst ho
      cases h3 <;> rfl
    · have hq := ih (by omega)
      generalize hc : oc i = c at h3
      generalize hs : P (i + 1) = s' at h3
      cases h3 with
      | skip h => exact hq
      | un hw _ => exact hq
      | qr hw he _ => exact hq
      | qa hw he hn hg _ => exact hq
      | qb hw hk hb _ => exact hq
      | ef hw hn hs' he' hK _ => rw [hn] at hq; cases hq
      | pn hw hn hs hH he => rw [hn] at hq; cases hq
      | pc hw hn hs he hc' hK => rw [hn] at hq; cases hq
theorem Plan.skip {i : Nat} (hi : i < ops.size) (ho : oc i = .skip) {m : Nat} (hm : ms[i]? = some m) : ∃ p v hp, p < i ∧ oc p = .pan v hp ∧ tb m p = true := by
  obtain ⟨o', m', h1, h2, h3⟩ := h.at hi
  rw [h2] at hm; cases hm
  generalize hs : P (i + 1) = s' at h3
  rw [ho] at h3
  cases h3 with
  | skip hk =>
    unfold skp at hk
    split at hk
    · rename_i p v hp e
      obtain ⟨a, b⟩ := h.pan1 (by omega) e
      exact ⟨p, v, hp, a, b, hk⟩
    · cases hk
end
end Go.AM

/-! A34: The slots over the pass. -/
namespace Go.AM

theorem putD_get {nt : Nat} {d : Option Nat} {v : AV} {tm tm' : Tm} (h : putD nt d v tm = some tm') (t : Nat) : (d = some t → tget tm' t = v ∧ t < nt) ∧ (d ≠ some t → tget tm' t = tget tm t) := by
  cases d with
  | none => cases h; exact ⟨fun e => (by cases e), fun _ => rfl⟩
  | some d =>
    obtain ⟨h1, h2⟩ := rec_some (b := Nat.blt d nt) h
    cases h2
    rw [nat_blt_decide] at h1
    constructor
    · intro e
      cases e
      exact ⟨tget_same _ _ _, of_decide_eq_true h1⟩
    · intro e
      exact tget_ne (fun e' => e (by rw [e'])) _ _

/-- slot t after the operations in X have written -/
def SlotIs (ops : Array Oper) (oc : Nat → Oc) (tm0 tm : Tm) (X : Nat → Prop) : Prop :=
  ∀ t, (∀ p o v, X p → ops[p]? = some o → o.dst = some t → (oc p).val = some v → tget tm t = v) ∧
    ((∀ p o v, X p → ops[p]? = some o → (oc p).val = some v → o.dst ≠ some t) → tget tm t = tget tm0 t)
section
variable {CALL : CallF} {E : Env} {nt : Nat} {ops : Array Oper} {fl : Nat} {ms : List Nat} {P : Nat → PSt} {oc : Nat → Oc} {tm0 : Tm} {B0 : T AO} {K0 : Ps} (h : Plan CALL E nt ops fl ms P oc tm0 B0 K0)
theorem OcR.tm {i : Nat} {o : Oper} {m : Nat} {s s' : PSt} {c : Oc} (h : OcR CALL E nt ops fl i o m s c s') : (∀ v, c.val = some v → putD nt o.dst v s.tm = some s'.tm) ∧ (c.val = none → s'.tm = s.tm) := by
  cases h <;> first | exact ⟨fun v e => (by cases e; assumption), fun e => (by cases e)⟩ | exact ⟨fun v e => (by cases e), fun _ => rfl⟩
include h
theorem Plan.dst_ne {i j : Nat} {oi oj : Oper} (hi : ops[i]? = some oi) (hj : ops[j]? = some oj) (hne : i ≠ j) {d : Nat} (hd : oj.dst = some d) : oi.dst ≠ some d := by
  obtain ⟨_, mi, _, h1, _⟩ := h.at (Array.getElem?_eq_some_iff.1 hi).1
  obtain ⟨_, mj, _, h2, _⟩ := h.at (Array.getElem?_eq_some_iff.1 hj).1
  exact (h.slots.apart i j oi oj mi mj d hi hj h1 h2 hne hd).1
/-- one more operation writes -/
theorem Plan.slot_step {X : Nat → Prop} {tm tm' : Tm} (hX : SlotIs ops oc tm0 tm X) {i : Nat} {o : Oper} (ho : ops[i]? = some o)
    (hv : ∀ v, (oc i).val = some v → putD nt o.dst v tm = some tm') (hn : (oc i).val = none → tm' = tm) : SlotIs ops oc tm0 tm' (fun p => X p ∨ p = i) := by
  intro t
  cases hval : (oc i).val with
  | none =>
    rw [hn hval]
    refine ⟨fun p o' v hp ho' hd hv' => ?_, fun hh => ?_⟩
    · rcases hp with hp | rfl
      · exact (hX t).1 p o' v hp ho' hd hv'
      · rw [hval] at hv'; cases hv'
    · exact (hX t).2 (fun p o' v hp => hh p o' v (.inl hp))
  | some v =>
    obtain ⟨g1, g2⟩ := putD_get (hv v hval) t
    refine ⟨fun p o' v' hp ho' hd hv' => ?_, fun hh => ?_⟩
    · by_cases e : p = i
      · subst e
        rw [ho] at ho'; cases ho'
        rw [hval] at hv'; cases hv'
        exact (g1 hd).1
      · rcases hp with hp | rfl
        · rw [g2 (h.dst_ne ho ho' (fun e' => e e'.symm) hd)]
          exact (hX t).1 p o' v' hp ho' hd hv'
        · exact absurd rfl e
    · rw [g2 (hh i o v (.inr rfl) ho hval)]
      exact (hX t).2 (fun p o' v hp => hh p o' v (.inl hp))
theorem Plan.slotP {i : Nat} (hi : i ≤ ops.size) : SlotIs ops oc tm0 (P i).tm (fun p => p < i) := by
  induction i with
  | zero => rw [h.init]; exact fun t => ⟨fun p o v hp => by omega, fun _ => rfl⟩
  | succ i ih =>
    obtain ⟨o, m, h1, h2, h3⟩ := h.at (j := i) (by omega)
    have := h.slot_step (ih (by omega)) h1 h3.tm.1 h3.tm.2
    intro t
    refine ⟨fun p o v hp => (this t).1 p o v (by omega), fun hh => (this t).2 (fun p o v hp => hh p o v (by omega))⟩
/-- what an operation looks at is the same, in whatever order -/
theorem Plan.looks {X : Nat → Prop} {tm : Tm} (hX : SlotIs ops oc tm0 tm X) {i : Nat} (hi : i < ops.size) {o : Oper} {m : Nat} (ho : ops[i]? = some o) (hm : ms[i]? = some m) (hnX : ¬ X i)
    (hpre : ∀ p, tb m p = true → X p) (hcl : ∀ q mq, X q → ms[q]? = some mq → ∀ p, tb mq p = true → X p) (hback : ∀ (q mq : Nat), ms[q]? = some mq → ∀ p, tb mq p = true → p < q) {t : Nat} (ht : t ∈ o.looksAt ops) :
    tget tm t = tget (P i).tm t := by
  have hP := h.slotP (i := i) (by omega)
  by_cases hex : ∃ j oj v, ops[j]? = some oj ∧ oj.dst = some t ∧ (oc j).val = some v
  · obtain ⟨j, oj, v, h1, h2, h3⟩ := hex
    have uniq : ∀ p o', ops[p]? = some o' → o'.dst = some t → p = j := fun p o' a b => by
      by_cases e : p = j
      · exact e
      · exact absurd b (h.dst_ne a h1 e h2)
    have none1 : ∀ {tm1 : Tm} {Y : Nat → Prop}, SlotIs ops oc tm0 tm1 Y → ¬ Y j → tget tm1 t = tget tm0 t := fun hY hn => (hY t).2 (fun p o' v' hp ho' _ hd => by
      have := uniq p o' ho' hd
      subst this; exact hn hp)
    have some1 : ∀ {tm1 : Tm} {Y : Nat → Prop}, SlotIs ops oc tm0 tm1 Y → Y j → tget tm1 t = v := fun hY hn => (hY t).1 j oj v hn h1 h2 h3
    by_cases hij : i = j
    · subst hij
      rw [none1 hX hnX, none1 hP (by omega)]
    · obtain ⟨_, mj, _, hmj, _⟩ := h.at (Array.getElem?_eq_some_iff.1 h1).1
      rcases (h.slots.apart i j o oj m mj t ho h1 hm hmj hij h2).2 ht with h4 | h4
      · rw [some1 hX (hpre j h4), some1 hP (hback i m hm j h4)]
      · have h5 := hback j mj hmj i h4
        rw [none1 hX (fun hj => hnX (hcl j mj hj hmj i h4)), none1 hP (by omega)]
  · have none1 : ∀ {tm1 : Tm} {Y : Nat → Prop}, SlotIs ops oc tm0 tm1 Y → tget tm1 t = tget tm0 t := fun hY => (hY t).2 (fun p o' v' hp ho' hv hd => hex ⟨p, o', v', ho', hd, hv⟩)
    rw [none1 hX, none1 hP]
theorem Plan.back {q : Nat} : ∀ {mq : Nat}, ms[q]? = some mq → ∀ p, tb mq p = true → p < q := by
  induction q using Nat.strongRecOn with
  | _ q ih =>
    intro mq hq p hp
    have hlt : q < ops.size := by have := (List.getElem?_eq_some_iff.1 hq).1; rw [h.masks.len] at this; simpa using this
    obtain ⟨o, m, h1, h2, _⟩ := h.at hlt
    have hm : mq = m := by rw [h2] at hq; exact (Option.some.inj hq).symm
    subst hm
    have h1' : ops.toList[q]? = some o := by rw [Array.getElem?_toList]; exact h1
    obtain ⟨e, he, hb, r⟩ := h.masks.bits q o _ h1' h2 p hp
    have hlt2 := h.masks.back q o h1' e he hb
    rcases r with rfl | ⟨m', h3, h4⟩
    · exact hlt2
    · have := ih e.on hlt2 h3 p h4; omega
end
end Go.AM

/-! A35: The heap while a drawn region runs. -/
namespace Go.AM

noncomputable def Gm.cut (γ : Gm) (k : Nat) : Gm := fun a => if a.idx < k then γ a else none
theorem Gm.cut_le (γ : Gm) (k : Nat) : Gm.le (γ.cut k) γ := by
  intro a L h
  unfold Gm.cut at h
  split at h
  · exact h
  · cases h
theorem Gm.cut_some {γ : Gm} {k : Nat} {a : Ps} {L : Loc} : γ.cut k a = some L ↔ a.idx < k ∧ γ a = some L := by
  unfold Gm.cut
  split
  · rename_i h; exact ⟨fun e => ⟨h, e⟩, fun e => e.2⟩
  · rename_i h; exact ⟨fun e => (by cases e), fun e => absurd e.1 h⟩
theorem Gm.cut_mono {γ γ' : Gm} {k k' : Nat} (h : Gm.le γ γ') (hk : k ≤ k') : Gm.le (γ.cut k) (γ'.cut k') := by
  intro a L e
  obtain ⟨h1, h2⟩ := Gm.cut_some.1 e
  exact Gm.cut_some.2 ⟨by omega, h _ _ h2⟩

/-- objects: key, object, and a bound on the keys that lie in it; D: keys that are taken -/
structure HInv (S : Hp) (γ0 : Gm) (w0 : World) (ng : Nat) (O : Ps → AO → Nat → Prop) (D : Nat → Prop) (γ : Gm) (w : World) : Prop where
  obj : ∀ a b c, O a b c → a.idx < c ∧ ∃ L ob, γ a = some L ∧ w.heap[L.blk]? = some ob ∧ OR (γ.cut c) L b ob
  inj : ∀ a a' b b' c c' L L', O a b c → O a' b' c' → γ a = some L → γ a' = some L' → L.blk = L'.blk → a = a'
  glob : ∀ g, g < ng → ∃ s, γ (Ps.of g) = some ⟨g, 0, s⟩
  dom : ∀ a L, γ a = some L → D a.idx
  ext : Gm.le γ0 γ
  size : w0.heap.size ≤ w.heap.size
  keep : ∀ r, r < w0.heap.size → (∀ a o L, S.hp.get a = some o → S.fl ≤ a.idx → γ0 a = some L → L.blk ≠ r) → w.heap[r]? = w0.heap[r]?
  desc : ∀ a b c L, O a b c → S.fl ≤ a.idx → γ a = some L → w0.heap.size ≤ L.blk ∨ ∃ a₀ o₀ L₀, S.hp.get a₀ = some o₀ ∧ S.fl ≤ a₀.idx ∧ γ0 a₀ = some L₀ ∧ L₀.blk = L.blk
  back : ∀ a b c, O a b c → a.idx < S.fl → S.hp.get a = some b
  new : ∀ a L, γ a = some L → a.idx < S.nx.idx → γ0 a = some L
  os : (w.os, w.tape) = (w0.os, w0.tape)
  out : w.output = w0.output

section
variable {S : Hp} {γ0 : Gm} {w0 : World} {ng : Nat} {O : Ps → AO → Nat → Prop} {D : Nat → Prop} {γ : Gm} {w : World}
theorem HInv.start (hH : HR γ ng S w) (c : Nat) (hc : S.nx.idx ≤ c) (D : Nat → Prop) (hD : ∀ n, n < S.nx.idx → D n) : HInv S γ w ng (fun a b k => T.get a S.hp = some b ∧ k = c) D γ w := by
  refine ⟨fun a b c' h => ?_, fun a a' b b' c c' L L' h h' => hH.inj a a' b b' L L' h.1 h'.1, hH.glob, fun a L e => hD _ (hH.fresh a L e), Gm.le_refl _, Nat.le_refl _, fun _ _ _ => rfl,
    fun a b c L h1 h2 h3 => .inr ⟨a, b, L, h1.1, h2, h3, rfl⟩, fun a b c h _ => h.1, fun _ _ e _ => e, rfl, rfl⟩
  obtain ⟨h1, rfl⟩ := h
  obtain ⟨L, ob, g1, g2, g3⟩ := hH.obj a b h1
  have := hH.fresh _ _ g1
  refine ⟨by omega, L, ob, g1, g2, g3.mono ?_⟩
  intro x L hx
  have := hH.fresh _ _ hx
  exact Gm.cut_some.2 ⟨by omega, hx⟩
/-- a part of the heap, as a heap -/
theorem HInv.sub (h : HInv S γ0 w0 ng O D γ w) {H : T AO} {k : Ps} {f : Nat} (hs : ∀ a b, T.get a H = some b → ∃ c, O a b c ∧ c ≤ k.idx) (hg : ng ≤ k.idx) : HR (γ.cut k.idx) ng ⟨H, k, f⟩ w := by
  refine ⟨fun a b hb => ?_, fun a a' b b' L L' hb hb' hL hL' e => ?_, fun a L e => (Gm.cut_some.1 e).1, fun g hgl => ?_⟩
  · obtain ⟨c, h1, h2⟩ := hs a b hb
    obtain ⟨h3, L, ob, h4, h5, h6⟩ := h.obj a b c h1
    exact ⟨L, ob, Gm.cut_some.2 ⟨by omega, h4⟩, h5, h6.mono (Gm.cut_mono (Gm.le_refl _) h2)⟩
  · obtain ⟨c, h1, h2⟩ := hs a b hb
    obtain ⟨c', h1', h2'⟩ := hs a' b' hb'
    exact h.inj a a' b b' c c' L L' h1 h1' (Gm.cut_some.1 hL).2 (Gm.cut_some.1 hL').2 e
  · obtain ⟨s, hs⟩ := h.glob g hgl
    exact ⟨s, Gm.cut_some.2 ⟨by rw [Ps.idx_of]; omega, hs⟩⟩

/-- the keys of a run are joined to the others -/
noncomputable def Gm.glue (γ γr : Gm) (k k' : Nat) : Gm := fun a => if k ≤ a.idx ∧ a.idx < k' then γr a else γ a

theorem HInv.next (h : HInv S γ0 w0 ng O D γ w) {H : T AO} {k : Ps} {f : Nat} {S' : Hp} {γr : Gm} {w' : World} {O' : Ps → AO → Nat → Prop}
    (hs : ∀ a b, T.get a H = some b → ∃ c, O a b c ∧ c ≤ k.idx) (hf : f ≤ k.idx) (hk : S.nx.idx ≤ k.idx) (hfl : S.fl ≤ k.idx)
    (hfH : ∀ a b, T.get a H = some b → f ≤ a.idx → S.fl ≤ a.idx)
    (hH' : HR γr ng S' w') (hP : Pres ⟨H, k, f⟩ (γ.cut k.idx) w S' γr w')
    (hD : ∀ n, D n → ¬ (k.idx ≤ n ∧ n < S'.nx.idx))
    (hO : ∀ a b c, O' a b c → (T.get a S'.hp = some b ∧ S'.nx.idx ≤ c ∧ (f = S.fl ∨ k.idx ≤ a.idx)) ∨ (O a b c ∧ (T.get a H = none ∨ k.idx ≤ f))) :
    HInv S γ0 w0 ng O' (fun n => D n ∨ (k.idx ≤ n ∧ n < S'.nx.idx)) (γ.glue γr k.idx S'.nx.idx) w' ∧ Gm.le γ (γ.glue γr k.idx S'.nx.idx) ∧ Gm.le γr ((γ.glue γr k.idx S'.nx.idx).cut S'.nx.idx) ∧
    ∀ a b c, O a b c → T.get a H = none → T.get a S'.hp = none := by
  have g1 : Gm.le γ (γ.glue γr k.idx S'.nx.idx) := by
    intro a L e
    unfold Gm.glue
    rw [if_neg (hD _ (h.dom a L e))]; exact e
  have g0 : ∀ a L, γr a = some L → a.idx < k.idx → γ a = some L := fun a L e hlt => (Gm.cut_some.1 (hP.new a L e hlt)).2
  have g2 : Gm.le γr ((γ.glue γr k.idx S'.nx.idx).cut S'.nx.idx) := by
    intro a L e
    have hlt := hH'.fresh a L e
    refine Gm.cut_some.2 ⟨hlt, ?_⟩
    unfold Gm.glue
    split
    · exact e
    · rename_i hn
      exact g0 a L e (by omega)
  have g3 : ∀ a L, (γ.glue γr k.idx S'.nx.idx) a = some L → γ a = some L ∨ (k.idx ≤ a.idx ∧ a.idx < S'.nx.idx ∧ γr a = some L) := by
    intro a L e
    unfold Gm.glue at e
    split at e
    · rename_i hh; exact .inr ⟨hh.1, hh.2, e⟩
    · exact .inl e
  have g4 : ∀ a b L, T.get a S'.hp = some b → (γ.glue γr k.idx S'.nx.idx) a = some L → γr a = some L := by
    intro a b L hb e
    obtain ⟨M, ob, h1, _⟩ := hH'.obj a b hb
    have := (Gm.cut_some.1 (g2 a M h1)).2
    rw [e] at this; cases this; exact h1
  -- the blocks of those that are left alone
  have g5 : ∀ a b c L, O a b c → (T.get a H = none ∨ k.idx ≤ f) → γ a = some L → w'.heap[L.blk]? = w.heap[L.blk]? := by
    intro a b c L ho hc hL
    obtain ⟨_, M, ob, h1, h2, _⟩ := h.obj a b c ho
    rw [hL] at h1; cases h1
    refine hP.keep L.blk (Array.getElem?_eq_some_iff.1 h2).1 (fun a1 b1 L1 hb1 hf1 hL1 e => ?_)
    obtain ⟨c1, ho1, hc1⟩ := hs a1 b1 hb1
    have hL1' := (Gm.cut_some.1 hL1).2
    rcases hc with hc | hc
    · have := h.inj a1 a b1 b c1 c L1 L ho1 ho hL1' hL e
      subst this
      have hb1 : T.get a1 H = some b1 := hb1
      rw [hc] at hb1; cases hb1
    · have := (Gm.cut_some.1 hL1).1
      have hf1 : f ≤ a1.idx := hf1
      omega
  -- a new one and an old one do not share a block
  have g6 : ∀ a b L a' b' c' L', T.get a S'.hp = some b → (f = S.fl ∨ k.idx ≤ a.idx) → γr a = some L → O a' b' c' → (T.get a' H = none ∨ k.idx ≤ f) → γ a' = some L' → L.blk = L'.blk → a = a' := by
    intro a b L a' b' c' L' hb hka hL ho' hc' hL' e
    by_cases hfa : f ≤ a.idx
    · rcases hP.desc a b L hb (by rw [hP.fl]; exact hfa) hL with hd | ⟨a0, o0, L0, d1, d2, d3, d4⟩
      · obtain ⟨_, M, ob, h1, h2, _⟩ := h.obj a' b' c' ho'
        rw [hL'] at h1; cases h1
        have := (Array.getElem?_eq_some_iff.1 h2).1
        omega
      · obtain ⟨c0, ho0, hc0⟩ := hs a0 o0 d1
        have := h.inj a0 a' o0 b' c0 c' L0 L' ho0 ho' (Gm.cut_some.1 d3).2 hL' (d4.trans e)
        subst this
        rcases hc' with hc' | hc'
        · have d1 : T.get a0 H = some o0 := d1
          rw [hc'] at d1; cases d1
        · have := (Gm.cut_some.1 d3).1
          have d2 : f ≤ a0.idx := d2
          omega
    · have hlt : a.idx < k.idx := by omega
      have hb0 := hP.back a b hb (by show a.idx < f; omega) hlt
      obtain ⟨c0, ho0, hc0⟩ := hs a b hb0
      exact h.inj a a' b b' c0 c' L L' ho0 ho' (g0 a L hL hlt) hL' e
  have g7 : ∀ a b c, O a b c → T.get a H = none → T.get a S'.hp = none := by
    intro a b c ho hn
    cases hb : T.get a S'.hp with
    | none => rfl
    | some b2 =>
      obtain ⟨_, M, ob, h1, h2, _⟩ := h.obj a b c ho
      have hg := g4 a b2 M hb (g1 _ _ h1)
      by_cases hfa : f ≤ a.idx
      · rcases hP.desc a b2 M hb (by rw [hP.fl]; exact hfa) hg with hd | ⟨a0, o0, L0, d1, d2, d3, d4⟩
        · have := (Array.getElem?_eq_some_iff.1 h2).1
          omega
        · obtain ⟨c0, ho0, hc0⟩ := hs a0 o0 d1
          have := h.inj a0 a o0 b c0 c L0 M ho0 ho (Gm.cut_some.1 d3).2 h1 d4
          subst this
          have d1 : T.get a0 H = some o0 := d1
          rw [hn] at d1; cases d1
      · have hb0 : T.get a H = some b2 := hP.back a b2 hb (by show a.idx < f; omega) (by show a.idx < k.idx; omega)
        rw [hn] at hb0; cases hb0
  refine ⟨⟨?_, ?_, ?_, ?_, Gm.le_trans h.ext g1, Nat.le_trans h.size hP.size, ?_, ?_, ?_, ?_, hP.os.trans h.os, hP.out.trans h.out⟩, g1, g2, g7⟩
  · intro a b c ho
    rcases hO a b c ho with ⟨h1, h2, h3⟩ | ⟨h1, h2⟩
    · obtain ⟨L, ob, e1, e2, e3⟩ := hH'.obj a b h1
      have := hH'.fresh _ _ e1
      refine ⟨by omega, L, ob, (Gm.cut_some.1 (g2 a L e1)).2, e2, e3.mono (Gm.le_trans g2 (Gm.cut_mono (Gm.le_refl _) h2))⟩
    · obtain ⟨e0, L, ob, e1, e2, e3⟩ := h.obj a b c h1
      exact ⟨e0, L, ob, g1 _ _ e1, by rw [g5 a b c L h1 h2 e1]; exact e2, e3.mono (Gm.cut_mono g1 (Nat.le_refl _))⟩
  · intro a a' b b' c c' L L' ho ho' hL hL' e
    have old : ∀ a b c L, O a b c → (γ.glue γr k.idx S'.nx.idx) a = some L → γ a = some L := fun a b c L ho hL => by
      obtain ⟨_, M, ob, h1, _⟩ := h.obj a b c ho
      have := g1 _ _ h1
      rw [hL] at this; cases this; exact h1
    rcases hO a b c ho with ⟨h1, h2, h3⟩ | ⟨h1, h2⟩
    · rcases hO a' b' c' ho' with ⟨h1', h2', h3'⟩ | ⟨h1', h2'⟩
      · exact hH'.inj a a' b b' L L' h1 h1' (g4 a b L h1 hL) (g4 a' b' L' h1' hL') e
      · exact g6 a b L a' b' c' L' h1 h3 (g4 a b L h1 hL) h1' h2' (old a' b' c' L' h1' hL') e
    · rcases hO a' b' c' ho' with ⟨h1', h2', h3'⟩ | ⟨h1', h2'⟩
      · exact (g6 a' b' L' a b c L h1' h3' (g4 a' b' L' h1' hL') h1 h2 (old a b c L h1 hL) e.symm).symm
      · exact h.inj a a' b b' c c' L L' h1 h1' (old a b c L h1 hL) (old a' b' c' L' h1' hL') e
  · intro g hgl
    obtain ⟨s, hs⟩ := h.glob g hgl
    exact ⟨s, g1 _ _ hs⟩
  · intro a L e
    rcases g3 a L e with e1 | ⟨e1, e2, _⟩
    · exact .inl (h.dom a L e1)
    · exact .inr ⟨e1, e2⟩
  · intro r hr hn
    rw [← h.keep r hr hn]
    refine hP.keep r (Nat.lt_of_lt_of_le hr h.size) (fun a b L hb hfa hL e => ?_)
    obtain ⟨c, ho, _⟩ := hs a b hb
    rcases h.desc a b c L ho (hfH a b hb hfa) (Gm.cut_some.1 hL).2 with d | ⟨a0, o0, L0, d1, d2, d3, d4⟩
    · omega
    · exact hn a0 o0 L0 d1 d2 d3 (d4.trans e)
  · intro a b c L ho hfa hL
    rcases hO a b c ho with ⟨h1, h2, h3⟩ | ⟨h1, h2⟩
    · have hL := g4 a b L h1 hL
      by_cases hff : f ≤ a.idx
      · rcases hP.desc a b L h1 (by rw [hP.fl]; exact hff) hL with hd | ⟨a0, o0, L0, d1, d2, d3, d4⟩
        · exact .inl (Nat.le_trans h.size hd)
        · obtain ⟨c0, ho0, _⟩ := hs a0 o0 d1
          rcases h.desc a0 o0 c0 L0 ho0 (hfH a0 o0 d1 d2) (Gm.cut_some.1 d3).2 with d | ⟨a1, o1, L1, f1, f2, f3, f4⟩
          · exact .inl (by omega)
          · exact .inr ⟨a1, o1, L1, f1, f2, f3, f4.trans d4⟩
      · have hlt : a.idx < k.idx := by omega
        have hb0 := hP.back a b h1 (by show a.idx < f; omega) hlt
        obtain ⟨c0, ho0, _⟩ := hs a b hb0
        exact h.desc a b c0 L ho0 hfa (g0 a L hL hlt)
    · obtain ⟨_, M, ob, e1, _⟩ := h.obj a b c h1
      have e2 := g1 _ _ e1
      rw [hL] at e2; cases e2
      exact h.desc a b c L h1 hfa e1
  · intro a b c ho hlt
    rcases hO a b c ho with ⟨h1, h2, h3⟩ | ⟨h1, h2⟩
    · rcases h3 with h3 | h3
      · have hb0 := hP.back a b h1 (by show a.idx < f; omega) (by show a.idx < k.idx; omega)
        obtain ⟨c0, ho0, _⟩ := hs a b hb0
        exact h.back a b c0 ho0 hlt
      · omega
    · exact h.back a b c h1 hlt
  · intro a L e hlt
    rcases g3 a L e with e1 | ⟨e1, e2, _⟩
    · exact h.new a L e1 hlt
    · omega
theorem HInv.weaken (h : HInv S γ0 w0 ng O D γ w) {O' : Ps → AO → Nat → Prop} {D' : Nat → Prop} (hO : ∀ a b c, O' a b c → O a b c) (hD : ∀ n, D n → D' n) : HInv S γ0 w0 ng O' D' γ w :=
  ⟨fun a b c ho => h.obj a b c (hO a b c ho), fun a a' b b' c c' L L' ho ho' => h.inj a a' b b' c c' L L' (hO _ _ _ ho) (hO _ _ _ ho'), h.glob, fun a L e => hD _ (h.dom a L e), h.ext, h.size, h.keep,
    fun a b c L ho => h.desc a b c L (hO _ _ _ ho), fun a b c ho => h.back a b c (hO _ _ _ ho), h.new, h.os, h.out⟩
/-- at the end: a heap again -/
theorem HInv.final (h : HInv S γ0 w0 ng O D γ w) {H : T AO} {k : Ps} (hs : ∀ a b, T.get a H = some b → ∃ c, O a b c) (hold : ∀ a b, T.get a S.hp = some b → a.idx < S.fl → T.get a H = some b)
    (hD : ∀ n, D n → n < k.idx) (hk : S.nx.idx ≤ k.idx) : HR γ ng ⟨H, k, S.fl⟩ w ∧ Pres S γ0 w0 ⟨H, k, S.fl⟩ γ w := by
  refine ⟨⟨fun a b hb => ?_, fun a a' b b' L L' hb hb' hL hL' e => ?_, fun a L e => hD _ (h.dom a L e), h.glob⟩, ⟨h.ext, h.size, h.keep, fun a b L hb hf hL => ?_, hold, rfl, hk, h.new, h.os, h.out, fun a b hb hlt _ => ?_⟩⟩
  · obtain ⟨c, ho⟩ := hs a b hb
    obtain ⟨_, L, ob, e1, e2, e3⟩ := h.obj a b c ho
    exact ⟨L, ob, e1, e2, e3.mono (Gm.cut_le _ _)⟩
  · obtain ⟨c, ho⟩ := hs a b hb
    obtain ⟨c', ho'⟩ := hs a' b' hb'
    exact h.inj a a' b b' c c' L L' ho ho' hL hL' e
  · obtain ⟨c, ho⟩ := hs a b hb
    exact h.desc a b c L ho hf hL
  · obtain ⟨c, ho⟩ := hs a b hb
    exact h.back a b c ho hlt
end
end Go.AM

/-! A36: The state in the midst of a drawn region. -/
namespace Go.AM

noncomputable def kbL (k : Nat) (l : List AV) : Bool :=
  AV.rec_1 (motive_1 := fun _ => Bool) (motive_2 := fun _ => Bool) (fun _ _ => true) (fun _ => true) (fun _ _ => true) (fun _ => true) true (fun b _ => Nat.blt b.idx k) true (fun b _ _ _ => Nat.blt b.idx k) (fun b _ _ _ => Nat.blt b.idx k) true
    (fun b => Nat.blt b.idx k) (fun _ _ _ x y => Bool.rec false y x) (fun b => Nat.blt b.idx k) true (fun _ _ x => x) true (fun _ x => x) (fun _ x => x) true (fun _ _ x y => Bool.rec false y x) l
theorem kbA_ok {γ : Gm} {k : Nat} {x : AV} {v : Value} (h : VR γ x v) : kbA k x = true → VR (γ.cut k) x v := by
  have blt : ∀ {b : Ps}, Nat.blt b.idx k = true → b.idx < k := fun e => by rw [nat_blt_decide] at e; exact of_decide_eq_true e
  exact VR.rec (γ := γ) (motive_1 := fun x v _ => kbA k x = true → VR (γ.cut k) x v) (motive_2 := fun l l' _ => kbL k l = true → LR (γ.cut k) l l')
    (fun k n _ => .int k n) (fun b _ => .bool b) (fun k b _ => .flt k b) (fun s _ => .str s) (fun _ => .nilp) (fun o h e => .ptr o (Gm.cut_some.2 ⟨blt e, h⟩)) (fun _ => .nils) (fun o l c h e => .sl o l c (Gm.cut_some.2 ⟨blt e, h⟩))
    (fun o l c z h hl hz he e => .su o l c z (Gm.cut_some.2 ⟨blt e, h⟩) hl hz he) (fun _ => .nilm) (fun h e => .mp (Gm.cut_some.2 ⟨blt e, h⟩))
    (fun {l c _ _} f _ _ h hc e => by obtain ⟨h1, h2⟩ := recf (b := kbL k l) (c := kbL k c) e; exact .fn f (h h1) (hc h2)) (fun h e => .yl (Gm.cut_some.2 ⟨blt e, h⟩)) (fun _ => .nilf)
    (fun t _ h e => .ifc t (h e)) (fun _ => .nili) (fun _ h e => .agg (h e)) (fun _ h e => .tup (h e)) (fun _ => .nil)
    (fun {x _ l _} _ _ h t e => by obtain ⟨h1, h2⟩ := recf (b := kbA k x) (c := kbL k l) e; exact .cons (h h1) (t h2)) h

/-! trees that are restricted to some slots -/
noncomputable def restr (tm : Tm) (l : List Nat) : Tm := List.rec te (fun t _ ih => tset t (tget tm t) ih) l
theorem restr_get (tm : Tm) (t : Nat) : ∀ (l : List Nat), tget (restr tm l) t = if t ∈ l then tget tm t else .tup []
  | [] => by show tget te t = _; rw [tget_te]; rfl
  | x :: l => by
    show tget (tset x (tget tm x) (restr tm l)) t = _
    by_cases e : t = x
    · subst e
      rw [if_pos (List.mem_cons_self ..)]
      rw [tget_same]
    · have : tget (tset x (tget tm x) (restr tm l)) t = tget (restr tm l) t := tget_ne (fun e' => e e'.symm) _ _
      rw [this, restr_get tm t l]
      simp [e]

section
variable {CALL : CallF} {E : Env} {nt : Nat} {ops : Array Oper} {fl : Nat} {ms : List Nat} {P : Nat → PSt} {oc : Nat → Oc} {tm0 : Tm} {B0 : T AO} {K0 : Ps} (h : Plan CALL E nt ops fl ms P oc tm0 B0 K0)
variable {X : Nat → Prop} {l : Nat} {γ : Gm} {w : World} {tmps : Array Value} {S : Hp} {γ0 : Gm} {w0 : World}

structure SInv (nt : Nat) (ops : Array Oper) (P : Nat → PSt) (oc : Nat → Oc) (tm0 : Tm) (K0 : Ps) (X : Nat → Prop) (γ : Gm) (tmps : Array Value) : Prop where
  size : tmps.size = nt
  slot : ∀ p o d v, X p → ops[p]? = some o → o.dst = some d → (oc p).val = some v → VR (γ.cut (P (p + 1)).K.idx) v (tmps.getD d Go.undef)
  slot0 : ∀ t, (∀ p o v, X p → ops[p]? = some o → (oc p).val = some v → o.dst ≠ some t) → VR (γ.cut K0.idx) (tget tm0 t) (tmps.getD t Go.undef)
structure XInv (ops : Array Oper) (ms : List Nat) (oc : Nat → Oc) (X : Nat → Prop) (l : Nat) : Prop where
  lt : ∀ i, X i → i < ops.size
  closed : ∀ i m, X i → ms[i]? = some m → ∀ p, tb m p = true → X p
  eff : ∀ e, e < ops.size → (oc e).isEf → (X e ↔ e < l)
  lvl : l = 0 ∨ ∃ e, l = e + 1 ∧ e < ops.size ∧ (oc e).isEf
  live : ∀ i, X i → (oc i).val ≠ none
def Ow (P : Nat → PSt) (oc : Nat → Oc) (X : Nat → Prop) (l : Nat) (a : Ps) (b : AO) (c : Nat) : Prop :=
  (T.get a (P l).B = some b ∧ c = (P l).K.idx) ∨ ∃ p v, X p ∧ tb (P l).A p = false ∧ oc p = .q v (some b) ∧ a = (P p).K ∧ c = (P (p + 1)).K.idx
def Dm (P : Nat → PSt) (X : Nat → Prop) (n : Nat) : Prop := n < (P 0).K.idx ∨ ∃ p, X p ∧ (P p).K.idx ≤ n ∧ n < (P (p + 1)).K.idx
structure RInv (nt : Nat) (ops : Array Oper) (ms : List Nat) (P : Nat → PSt) (oc : Nat → Oc) (tm0 : Tm) (K0 : Ps) (ng : Nat) (S : Hp) (γ0 : Gm) (w0 : World) (X : Nat → Prop) (l : Nat) (γ : Gm) (w : World) (tmps : Array Value) : Prop where
  x : XInv ops ms oc X l
  s : SInv nt ops P oc tm0 K0 X γ tmps
  h : HInv S γ0 w0 ng (Ow P oc X l) (Dm P X) γ w
  old : ∀ a b, T.get a S.hp = some b → a.idx < S.fl → T.get a (P l).B = some b
  fd : ∀ p v b, X p → tb (P l).A p = false → oc p = .q v (some b) → T.get (P p).K (P l).B = none

include h
theorem Plan.newK {p : Nat} (hp : p < ops.size) {v : AV} {b : AO} (ho : oc p = .q v (some b)) : (P (p + 1)).K = Ps.succ (P p).K := by
  obtain ⟨o, m, _, _, h3⟩ := h.at hp
  generalize hs : P (p + 1) = s' at h3
  rw [ho] at h3
  cases h3 with
  | qa _ _ _ _ _ => rfl
theorem Plan.newInj {p q : Nat} (hp : p < ops.size) (hq : q < ops.size) {v v' : AV} {b b' : AO} (ho : oc p = .q v (some b)) (ho' : oc q = .q v' (some b')) (e : (P p).K = (P q).K) : p = q := by
  have h1 := congrArg Ps.idx (h.newK hp ho)
  have h2 := congrArg Ps.idx (h.newK hq ho')
  rw [Ps.idx_succ] at h1 h2
  have e := congrArg Ps.idx e
  rcases Nat.lt_trichotomy p q with hlt | rfl | hlt
  · have := h.K (i := p + 1) (j := q) hlt (by omega); omega
  · rfl
  · have := h.K (i := q + 1) (j := p) hlt (by omega); omega

omit h in
theorem addN_get {f : Nat → Bool} {B : T AO} {a : Ps} {b : AO} : ∀ {l : List (Nat × Ps × AO)}, T.get a (addN f B l) = some b → T.get a B = some b ∨ ∃ p, (p, a, b) ∈ l ∧ f p = true
  | [], e => .inl e
  | (p, k, o) :: l, e => by
    have e' : T.get a (Bool.rec (addN f B l) (T.set k o (addN f B l)) (f p) : T AO) = some b := e
    cases hf : f p with
    | false =>
      rw [hf] at e'
      rcases addN_get (l := l) e' with h | ⟨q, h1, h2⟩
      · exact .inl h
      · exact .inr ⟨q, List.mem_cons_of_mem _ h1, h2⟩
    | true =>
      rw [hf] at e'
      have e' : T.get a (T.set k o (addN f B l)) = some b := e'
      by_cases hk : a = k
      · subst hk
        rw [T.get_set_same] at e'; cases e'
        exact .inr ⟨p, List.mem_cons_self .., hf⟩
      · rw [T.get_set_ne (fun e => hk e.symm)] at e'
        rcases addN_get (l := l) e' with h | ⟨q, h1, h2⟩
        · exact .inl h
        · exact .inr ⟨q, List.mem_cons_of_mem _ h1, h2⟩
omit h in
theorem addN_base {f : Nat → Bool} {B : T AO} {a : Ps} {b : AO} : ∀ {l : List (Nat × Ps × AO)}, T.get a B = some b → (∀ p k o, (p, k, o) ∈ l → k ≠ a) → T.get a (addN f B l) = some b
  | [], e, _ => e
  | (p, k, o) :: l, e, hn => by
    have ih := addN_base (f := f) (l := l) e (fun p k o hm => hn p k o (List.mem_cons_of_mem _ hm))
    show T.get a (Bool.rec (addN f B l) (T.set k o (addN f B l)) (f p) : T AO) = some b
    cases hf : f p with
    | false => exact ih
    | true =>
      show T.get a (T.set k o (addN f B l)) = some b
      rw [T.get_set_ne (hn p k o (List.mem_cons_self ..))]; exact ih
omit h in
theorem vis_iff {m A p : Nat} : vis m A p = true ↔ tb A p = false ∧ tb m p = true := by
  unfold vis
  cases tb A p <;> simp
end
end Go.AM

/-! A37: An operation of a drawn region is looked at: what it comes to, wherever it stands in the order. -/
namespace Go.AM

section
variable {CALL : CallF} {E : Env} {nt : Nat} {ops : Array Oper} {fl : Nat} {ms : List Nat} {P : Nat → PSt} {oc : Nat → Oc} {tm0 : Tm} {B0 : T AO} {K0 : Ps} (h : Plan CALL E nt ops fl ms P oc tm0 B0 K0)
variable {X : Nat → Prop} {l : Nat} {γ : Gm} {w : World} {tmps : Array Value}

include h in
theorem Plan.kz : (P 0).K = K0 := by rw [h.init]
include h in
/-- a slot that is looked at holds what the pass has found -/
theorem Plan.look_vr (hs : SInv nt ops P oc tm0 K0 X γ tmps) (hx : XInv ops ms oc X l) {i : Nat} (hi : i < ops.size) {o : Oper} {m : Nat} (ho : ops[i]? = some o) (hm : ms[i]? = some m) (hnX : ¬ X i) (hpre : ∀ p, tb m p = true → X p)
    {t : Nat} (ht : t ∈ o.looksAt ops) : VR (γ.cut (P i).K.idx) (tget (P i).tm t) (tmps.getD t Go.undef) := by
  have hP := h.slotP (i := i) (by omega)
  by_cases hex : ∃ j oj v, ops[j]? = some oj ∧ oj.dst = some t ∧ (oc j).val = some v
  · obtain ⟨j, oj, v, h1, h2, h3⟩ := hex
    have uniq : ∀ p o', ops[p]? = some o' → o'.dst = some t → p = j := fun p o' a b => by
      by_cases e : p = j
      · exact e
      · exact absurd b (h.dst_ne a h1 e h2)
    have zero : ¬ X j → ¬ j < i → VR (γ.cut (P i).K.idx) (tget (P i).tm t) (tmps.getD t Go.undef) := fun a b => by
      have e0 : tget (P i).tm t = tget tm0 t := (hP t).2 (fun p o' v' hp ho' _ hd => by
        have := uniq p o' ho' hd
        subst this; exact b hp)
      rw [e0]
      refine (hs.slot0 t (fun p o' v' hp ho' _ hd => ?_)).mono (Gm.cut_mono (Gm.le_refl _) ?_)
      · have := uniq p o' ho' hd
        subst this; exact a hp
      · rw [← h.kz]; exact h.K (Nat.zero_le _) (by omega)
    have some1 : X j → j < i → VR (γ.cut (P i).K.idx) (tget (P i).tm t) (tmps.getD t Go.undef) := fun a b => by
      rw [(hP t).1 j oj v b h1 h2 h3]
      exact (hs.slot j oj t v a h1 h2 h3).mono (Gm.cut_mono (Gm.le_refl _) (h.K b (by omega)))
    by_cases hij : i = j
    · subst hij; exact zero hnX (by omega)
    · obtain ⟨_, mj, _, hmj, _⟩ := h.at (Array.getElem?_eq_some_iff.1 h1).1
      rcases (h.slots.apart i j o oj m mj t ho h1 hm hmj hij h2).2 ht with h4 | h4
      · exact some1 (hpre j h4) (h.back hm j h4)
      · have h5 := h.back hmj i h4
        exact zero (fun hj => hnX (hx.closed j mj hj hmj i h4)) (by omega)
  · have e0 : tget (P i).tm t = tget tm0 t := (hP t).2 (fun p o' v' hp ho' hv hd => hex ⟨p, o', v', ho', hd, hv⟩)
    rw [e0]
    refine (hs.slot0 t (fun p o' v' hp ho' hv hd => hex ⟨p, o', v', ho', hd, hv⟩)).mono (Gm.cut_mono (Gm.le_refl _) ?_)
    rw [← h.kz]; exact h.K (Nat.zero_le _) (by omega)

/-- the slots that are looked at, the others empty -/
def viewV (nt : Nat) (tmps : Array Value) (L : List Nat) : Array Value := Array.ofFn (n := nt) fun t => if t.val ∈ L then tmps.getD t.val Go.undef else Go.undef
theorem viewV_get {nt : Nat} {tmps : Array Value} (hs : tmps.size = nt) {L : List Nat} (t : Nat) : (viewV nt tmps L).getD t Go.undef = if t ∈ L then tmps.getD t Go.undef else Go.undef := by
  unfold viewV
  by_cases hlt : t < nt
  · rw [Array.getD_eq_getD_getElem?, Array.getElem?_ofFn, dif_pos hlt]; rfl
  · rw [Array.getD_eq_getD_getElem?, Array.getElem?_ofFn, dif_neg hlt]
    have : tmps.getD t Go.undef = Go.undef := by rw [Array.getD_eq_getD_getElem?, Array.getElem?_eq_none (by omega)]; rfl
    rw [this]; simp
theorem viewV_look {nt : Nat} {tmps : Array Value} (hs : tmps.size = nt) {L : List Nat} {t : Nat} (ht : t ∈ L) : (viewV nt tmps L)[t]? = tmps[t]? := by
  unfold viewV
  rw [Array.getElem?_ofFn]
  by_cases hlt : t < nt
  · rw [dif_pos hlt, if_pos ht, Array.getElem?_eq_getElem (by omega)]
    simp [Array.getD, hs, hlt]
  · rw [dif_neg hlt, Array.getElem?_eq_none (by omega)]

variable {fr : Frame} (hft : fr.tmps = tmps)
theorem wantA_congr {nt : Nat} {ops : Array Oper} {tm tm' : Tm} {o : Oper} (he : ∀ t ∈ o.looksAt ops, tget tm t = tget tm' t) : wantA nt ops tm o = wantA nt ops tm' o := by
  rw [wantA_eq, wantA_eq]; unfold wantA0
  cases hg : o.guard with
  | none => rfl
  | some g =>
    obtain ⟨j, want⟩ := g
    simp only
    cases hj : nth ops.toList j with
    | none => rfl
    | some oj =>
      simp only
      cases hd : oj.dst with
      | none => rfl
      | some d =>
        simp only
        rw [he d]
        rw [nth_eq, Array.getElem?_toList] at hj
        simp [Oper.looksAt, hg, hj, hd]
theorem wanted_congr {o : Oper} {t1 t2 : Array Value} (he : ∀ t ∈ o.looksAt ops, t1[t]? = t2[t]?) : Region.wanted o (yielded ops t1) = Region.wanted o (yielded ops t2) := by
  unfold Region.wanted
  cases hg : o.guard with
  | none => rfl
  | some g =>
    obtain ⟨j, want⟩ := g
    simp only
    have : yielded ops t1 j = yielded ops t2 j := by
      unfold yielded
      cases ht : (ops[j]?).bind (·.dst) with
      | none => rfl
      | some t =>
        simp only [Option.bind_some]
        rw [he t (by simp [Oper.looksAt, hg, ht])]
    rw [this]
theorem evX_look {ng : Nat} {tm tm' : Tm} {o : Oper} (he : ∀ t ∈ o.looksAt ops, tget tm t = tget tm' t) : ∀ x ∈ o.op.operands, evX ng tm x = evX ng tm' x := by
  intro x hx
  cases x with
  | tmp t => exact congrArg some (he t (List.mem_append_left _ (List.mem_filterMap.2 ⟨.tmp t, by simpa using hx, rfl⟩)))
  | const v => rfl
  | global g => rfl
  | func f => rfl
theorem not_select {E : Env} {tm : Tm} {S : Hp} {o : Oper} {r : RO} (h : evOp o.op E tm S o.type = some r) : ∀ cs b, o.op ≠ .select cs b := by
  intro cs b e
  rw [e] at h
  cases h

include h hft in
theorem Plan.want_at (hs : SInv nt ops P oc tm0 K0 X γ tmps) (hx : XInv ops ms oc X l) {i : Nat} (hi : i < ops.size) {o : Oper} {m : Nat} (ho : ops[i]? = some o) (hm : ms[i]? = some m) (hnX : ¬ X i) (hpre : ∀ p, tb m p = true → X p)
    {b : Bool} (hw : wantA nt ops (P i).tm o = some b) : Region.wanted o (yielded ops fr.tmps) = b := by
  have hT : TR (γ.cut (P i).K.idx) (restr (P i).tm (o.looksAt ops)) (viewV nt tmps (o.looksAt ops)) := by
    intro t
    rw [restr_get, viewV_get hs.size]
    split
    · rename_i ht; exact h.look_vr hs hx hi ho hm hnX hpre ht
    · exact .undef
  rw [wantA_congr (tm' := restr (P i).tm (o.looksAt ops)) (fun t ht => by rw [restr_get, if_pos ht])] at hw
  have := wantA_ok hw (by simp [viewV]) hT
  rw [hft, ← wanted_congr (t1 := viewV nt tmps (o.looksAt ops)) (fun t ht => viewV_look hs.size ht)]
  exact this
include h hft in
theorem Plan.ev_at (hE : E.Ok) (hs : SInv nt ops P oc tm0 K0 X γ tmps) (hx : XInv ops ms oc X l) {i : Nat} (hi : i < ops.size) {o : Oper} {m : Nat} (ho : ops[i]? = some o) (hm : ms[i]? = some m) (hnX : ¬ X i) (hpre : ∀ p, tb m p = true → X p)
    {H : Hp} {r : RO} (he : evOp o.op E (P i).tm H o.type = some r) {k : Nat} (hk : (P i).K.idx ≤ k) (hH : HR (γ.cut k) E.ng H w) : OpR E (γ.cut k) H w (execOp fr.eval o) r := by
  have hT : TR (γ.cut k) (restr (P i).tm (o.looksAt ops)) (viewV nt tmps (o.looksAt ops)) := by
    intro t
    rw [restr_get, viewV_get hs.size]
    split
    · rename_i ht; exact (h.look_vr hs hx hi ho hm hnX hpre ht).mono (Gm.cut_mono (Gm.le_refl _) hk)
    · exact .undef
  have hns := not_select he
  rw [evOp_congr (tm' := restr (P i).tm (o.looksAt ops)) (evX_look (fun t ht => by rw [restr_get, if_pos ht]))] at he
  have h1 := evOp_ok (fr := { fr with tmps := viewV nt tmps (o.looksAt ops) }) hE hT hH he
  have h2 : execOp (Frame.eval { fr with tmps := viewV nt tmps (o.looksAt ops) }) o = execOp fr.eval o := by
    refine execOp_congr o hns (fun x hx' => ?_)
    cases x with
    | tmp t =>
      have ht : t ∈ o.looksAt ops := List.mem_append_left _ (List.mem_filterMap.2 ⟨.tmp t, by simpa using hx', rfl⟩)
      show (viewV nt tmps (o.looksAt ops)).getD t Go.undef = fr.tmps.getD t Go.undef
      rw [viewV_get hs.size, if_pos ht, hft]
    | const v => rfl
    | global g => rfl
    | func f => rfl
  rw [h2] at h1
  exact h1
end
end Go.AM
