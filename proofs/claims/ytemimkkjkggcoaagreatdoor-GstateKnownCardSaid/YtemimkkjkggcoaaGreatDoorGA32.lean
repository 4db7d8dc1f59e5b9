import Derived.Test.YtemimkkjkggcoaaGreatDoorGA31
/- The pass: what it has found out about each operation. -/
namespace Go.AM

/-- the keys in a value lie below k -/
noncomputable def kbA (k : Nat) (v : AV) : Bool :=
  AV.rec (motive_1 := fun _ => Bool) (motive_2 := fun _ => Bool) (fun _ _ => true) (fun _ => true) (fun _ _ => true) (fun _ => true) true (fun b _ => Nat.blt b.idx k) true (fun b _ _ _ => Nat.blt b.idx k) (fun b _ _ _ => Nat.blt b.idx k) true
    (fun b => Nat.blt b.idx k) (fun _ _ _ x y => Bool.rec false y x) (fun b => Nat.blt b.idx k) true (fun _ _ x => x) true (fun _ x => x) (fun _ x => x) true (fun _ _ x y => Bool.rec false y x) v
abbrev CallF := Nat → List AV → Hp → SR
structure QE where
  i : Nat
  m : Nat
  o : Oper
  tm : Tm
  v : AV
structure PSt where
  tm : Tm
  B : T AO
  A : Nat
  Ef : Nat
  news : List (Nat × Ps × AO)
  levels : List (Nat × T AO)
  qs : List QE
  K : Ps
  pan : Option (Nat × AV × T AO)

noncomputable def addN (f : Nat → Bool) (B : T AO) (l : List (Nat × Ps × AO)) : T AO :=
  List.rec B (fun x _ ih => Bool.rec ih (T.set x.2.1 x.2.2 ih) (f x.1)) l
noncomputable def vis (m A : Nat) : Nat → Bool := fun p => Bool.rec (tb m p) false (tb A p)
noncomputable def skp (pan : Option (Nat × AV × T AO)) (m : Nat) : Bool := match pan with | some (j, _, _) => tb m j | none => false

noncomputable def pPan (i m : Nat) (s : PSt) (v : AV) (hp : T AO) (K' : Ps) : Option PSt :=
  match s.pan with
  | some _ => none
  | none => Bool.rec none (Bool.rec none (some ⟨s.tm, s.B, s.A, s.Ef, s.news, s.levels, s.qs, K', some (i, v, hp)⟩) (Nat.ble s.K.idx K'.idx)) (subM s.Ef m)
noncomputable def pRo (nt i m : Nat) (o : Oper) (s : PSt) (r : Option RO) (H : T AO) : Option PSt :=
  match r with
  | some (.v x _) => Option.rec none (fun tm' => some ⟨tm', s.B, s.A, s.Ef, s.news, s.levels, s.qs, s.K, s.pan⟩) (putD nt o.dst x s.tm)
  | some (.pan v) => pPan i m s v H s.K
  | _ => none
noncomputable def pAl (nt i : Nat) (o : Oper) (s : PSt) (r : Option RO) : Option PSt :=
  match r with
  | some (.v x S') => (match T.get s.K S'.hp with
    | some ob => Bool.rec none (Option.rec none (fun tm' => some ⟨tm', s.B, s.A, s.Ef, (i, s.K, ob) :: s.news, s.levels, s.qs, Ps.succ s.K, s.pan⟩) (putD nt o.dst x s.tm)) (Ps.beq S'.nx (Ps.succ s.K))
    | none => none)
  | _ => none
noncomputable def pLk (nt i m : Nat) (o : Oper) (s : PSt) (r : Option RO) (H : T AO) : Option PSt :=
  match r with
  | some (.v x _) => Bool.rec none (Option.rec none (fun tm' => some ⟨tm', s.B, s.A, s.Ef, s.news, s.levels, ⟨i, m, o, s.tm, x⟩ :: s.qs, s.K, s.pan⟩) (putD nt o.dst x s.tm)) (kbA s.K.idx x)
  | some (.pan v) => pPan i m s v H s.K
  | _ => none
noncomputable def lvl (s : PSt) (i m : Nat) : Nat := Nat.lor (Nat.lor s.A m) (bit i)
noncomputable def pEf (nt i m : Nat) (o : Oper) (s : PSt) (x : AV) (S' : Hp) : Option PSt :=
  Bool.rec none (Option.rec none (fun tm' => some ⟨tm', S'.hp, lvl s i m, Nat.lor s.Ef (bit i), s.news, (lvl s i m, S'.hp) :: s.levels, s.qs, S'.nx, s.pan⟩) (putD nt o.dst x s.tm)) (Nat.ble s.K.idx S'.nx.idx)
noncomputable def pEff (CALL : CallF) (nt i m : Nat) (o : Oper) (s : PSt) (r : Option RO) (H : Hp) : Option PSt :=
  match r with
  | some (.v x S') => pEf nt i m o s x S'
  | some (.call f args) => (match CALL f args H with
    | .fin x S' => pEf nt i m o s x S'
    | .finP v S' => pPan i m s v S'.hp S'.nx
    | _ => none)
  | some (.pan v) => pPan i m s v H.hp s.K
  | _ => none
noncomputable def pEff0 (CALL : CallF) (E : Env) (nt : Nat) (i m : Nat) (o : Oper) (s : PSt) (H : Hp) : Option PSt :=
  match s.pan with
  | some _ => none
  | none => Bool.rec none (pEff CALL nt i m o s (evOp o.op E s.tm H o.type) H) (subM s.Ef m)
noncomputable def pKd (CALL : CallF) (E : Env) (nt : Nat) (fl : Nat) (i : Nat) (o : Oper) (m : Nat) (s : PSt) (H : T AO) (k : Nat) : Option PSt :=
  Nat.rec (pAl nt i o s (evOp o.op E s.tm ⟨.e, s.K, 0⟩ o.type)) (fun k _ => Nat.rec (pLk nt i m o s (evOp o.op E s.tm ⟨H, s.K, s.K.idx⟩ o.type) H)
    (fun k _ => Nat.rec (pEff0 CALL E nt i m o s ⟨H, s.K, fl⟩) (fun _ _ => pRo nt i m o s (evOp o.op E s.tm ⟨.e, s.K, 0⟩ o.type) H) k) k) k
noncomputable def stepP (CALL : CallF) (E : Env) (nt : Nat) (ops : Array Oper) (fl : Nat) (i : Nat) (o : Oper) (m : Nat) (s : PSt) : Option PSt :=
  match skp s.pan m with
  | true => some s
  | false => (match wantA nt ops s.tm o with
    | none => none
    | some false => Option.rec none (fun tm' => some ⟨tm', s.B, s.A, s.Ef, s.news, s.levels, s.qs, s.K, s.pan⟩) (putD nt o.dst (.tup []) s.tm)
    | some true => pKd CALL E nt fl i o m s (addN (vis m s.A) s.B s.news) (kindOf o.op))
noncomputable def pass (CALL : CallF) (E : Env) (nt : Nat) (ops : Array Oper) (fl : Nat) (l : List Oper) : List Nat → Nat → PSt → Option PSt :=
  List.rec (motive := fun _ => List Nat → Nat → PSt → Option PSt) (fun _ _ s => some s) (fun o _ ih ms i s => match ms with
    | m :: ms => Option.rec none (ih ms (Nat.succ i)) (stepP CALL E nt ops fl i o m s)
    | [] => none) l

/-- what an operation has come to -/
inductive Oc where
  | skip
  | q (v : AV) (nw : Option AO)
  | qb (v : AV)
  | ef (v : AV)
  | pan (v : AV) (hp : T AO)
inductive OcR (CALL : CallF) (E : Env) (nt : Nat) (ops : Array Oper) (fl : Nat) (i : Nat) (o : Oper) (m : Nat) (s : PSt) : Oc → PSt → Prop where
  | skip (h : skp s.pan m = true) : OcR CALL E nt ops fl i o m s .skip s
  | un {tm' : Tm} (hw : wantA nt ops s.tm o = some false) (hp : putD nt o.dst (.tup []) s.tm = some tm') : OcR CALL E nt ops fl i o m s (.q (.tup []) none) ⟨tm', s.B, s.A, s.Ef, s.news, s.levels, s.qs, s.K, s.pan⟩
  | qr {x : AV} {tm' : Tm} (hw : wantA nt ops s.tm o = some true) (he : evOp o.op E s.tm ⟨.e, s.K, 0⟩ o.type = some (.v x ⟨.e, s.K, 0⟩)) (hp : putD nt o.dst x s.tm = some tm') :
      OcR CALL E nt ops fl i o m s (.q x none) ⟨tm', s.B, s.A, s.Ef, s.news, s.levels, s.qs, s.K, s.pan⟩
  | qa {x : AV} {tm' : Tm} {S' : Hp} {ob : AO} (hw : wantA nt ops s.tm o = some true) (he : evOp o.op E s.tm ⟨.e, s.K, 0⟩ o.type = some (.v x S')) (hn : S'.nx = Ps.succ s.K) (hg : T.get s.K S'.hp = some ob)
      (hp : putD nt o.dst x s.tm = some tm') : OcR CALL E nt ops fl i o m s (.q x (some ob)) ⟨tm', s.B, s.A, s.Ef, (i, s.K, ob) :: s.news, s.levels, s.qs, Ps.succ s.K, s.pan⟩
  | qb {x : AV} {tm' : Tm} (hw : wantA nt ops s.tm o = some true) (hk : kindOf o.op = 1) (hb : kbA s.K.idx x = true) (hp : putD nt o.dst x s.tm = some tm') :
      OcR CALL E nt ops fl i o m s (.qb x) ⟨tm', s.B, s.A, s.Ef, s.news, s.levels, ⟨i, m, o, s.tm, x⟩ :: s.qs, s.K, s.pan⟩
  | ef {x : AV} {tm' : Tm} {S' : Hp} (hw : wantA nt ops s.tm o = some true) (hn : s.pan = none) (hs : subM s.Ef m = true)
      (he : evOp o.op E s.tm ⟨addN (vis m s.A) s.B s.news, s.K, fl⟩ o.type = some (.v x S') ∨ ∃ f args, evOp o.op E s.tm ⟨addN (vis m s.A) s.B s.news, s.K, fl⟩ o.type = some (.call f args) ∧ CALL f args ⟨addN (vis m s.A) s.B s.news, s.K, fl⟩ = .fin x S')
      (hK : s.K.idx ≤ S'.nx.idx) (hp : putD nt o.dst x s.tm = some tm') :
      OcR CALL E nt ops fl i o m s (.ef x) ⟨tm', S'.hp, lvl s i m, Nat.lor s.Ef (bit i), s.news, (lvl s i m, S'.hp) :: s.levels, s.qs, S'.nx, s.pan⟩
  | pn {v : AV} {H : T AO} {f : Nat} (hw : wantA nt ops s.tm o = some true) (hn : s.pan = none) (hs : subM s.Ef m = true) (hH : ∀ a b, T.get a H = some b → T.get a (addN (vis m s.A) s.B s.news) = some b)
      (he : evOp o.op E s.tm ⟨H, s.K, f⟩ o.type = some (.pan v)) : OcR CALL E nt ops fl i o m s (.pan v (addN (vis m s.A) s.B s.news)) ⟨s.tm, s.B, s.A, s.Ef, s.news, s.levels, s.qs, s.K, some (i, v, addN (vis m s.A) s.B s.news)⟩
  | pc {v : AV} {f : Nat} {args : List AV} {S' : Hp} (hw : wantA nt ops s.tm o = some true) (hn : s.pan = none) (hs : subM s.Ef m = true)
      (he : evOp o.op E s.tm ⟨addN (vis m s.A) s.B s.news, s.K, fl⟩ o.type = some (.call f args)) (hc : CALL f args ⟨addN (vis m s.A) s.B s.news, s.K, fl⟩ = .finP v S') (hK : s.K.idx ≤ S'.nx.idx) :
      OcR CALL E nt ops fl i o m s (.pan v S'.hp) ⟨s.tm, s.B, s.A, s.Ef, s.news, s.levels, s.qs, S'.nx, some (i, v, S'.hp)⟩

section
variable {CALL : CallF} {E : Env} {nt : Nat} {ops : Array Oper} {fl : Nat} {i : Nat} {o : Oper} {m : Nat} {s s' : PSt}
theorem pPan_ok {v : AV} {hp : T AO} {K' : Ps} (h : pPan i m s v hp K' = some s') : s.pan = none ∧ subM s.Ef m = true ∧ s.K.idx ≤ K'.idx ∧ s' = ⟨s.tm, s.B, s.A, s.Ef, s.news, s.levels, s.qs, K', some (i, v, hp)⟩ := by
  unfold pPan at h
  split at h
  · cases h
  · rename_i hn
    obtain ⟨h1, h2⟩ := rec_some h
    obtain ⟨h3, h4⟩ := rec_some h2
    cases h4
    exact ⟨hn, h1, Nat.le_of_ble_eq_true h3, rfl⟩
theorem T.get_none_e {α : Type} (a : Ps) : T.get a (.e : T α) = none := T.get_e a
theorem pEf_ok {x : AV} {S' : Hp} (h : pEf nt i m o s x S' = some s') : s.K.idx ≤ S'.nx.idx ∧ ∃ tm', putD nt o.dst x s.tm = some tm' ∧ s' = ⟨tm', S'.hp, lvl s i m, Nat.lor s.Ef (bit i), s.news, (lvl s i m, S'.hp) :: s.levels, s.qs, S'.nx, s.pan⟩ := by
  obtain ⟨h1, h2⟩ := rec_some (b := Nat.ble s.K.idx S'.nx.idx) h
  obtain ⟨tm', h3, h4⟩ := recb_ok (o := putD nt o.dst x s.tm) h2
  cases h4
  exact ⟨Nat.le_of_ble_eq_true h1, tm', h3, rfl⟩
theorem stepP_ok (h : stepP CALL E nt ops fl i o m s = some s') : ∃ oc, OcR CALL E nt ops fl i o m s oc s' := by
  unfold stepP at h
  split at h
  · rename_i hs
    cases h
    exact ⟨_, .skip hs⟩
  · split at h
    · cases h
    · rename_i hw
      obtain ⟨tm', h1, h2⟩ := recb_ok (o := putD nt o.dst (.tup []) s.tm) h
      cases h2
      exact ⟨_, .un hw h1⟩
    · rename_i hw
      have hsub : ∀ a b, T.get a (.e : T AO) = some b → T.get a (addN (vis m s.A) s.B s.news) = some b := fun a b e => by rw [T.get_none_e] at e; cases e
      cases hk : kindOf o.op with
      | zero =>
        rw [hk] at h
        have h' : pAl nt i o s (evOp o.op E s.tm ⟨.e, s.K, 0⟩ o.type) = some s' := h
        unfold pAl at h'
        split at h'
        · rename_i x S' he
          split at h'
          · rename_i ob hg
            obtain ⟨h1, h2⟩ := rec_some h'
            obtain ⟨tm', h3, h4⟩ := recb_ok (o := putD nt o.dst x s.tm) h2
            cases h4
            exact ⟨_, .qa hw he (Ps.beq_eq.1 h1) hg h3⟩
          · cases h'
        · cases h'
      | succ k1 =>
        rw [hk] at h
        cases k1 with
        | zero =>
          have h' : pLk nt i m o s (evOp o.op E s.tm ⟨addN (vis m s.A) s.B s.news, s.K, s.K.idx⟩ o.type) (addN (vis m s.A) s.B s.news) = some s' := h
          unfold pLk at h'
          split at h'
          · rename_i x S' he
            obtain ⟨h1, h2⟩ := rec_some h'
            obtain ⟨tm', h3, h4⟩ := recb_ok (o := putD nt o.dst x s.tm) h2
            cases h4
            exact ⟨_, .qb hw hk h1 h3⟩
          · rename_i v he
            obtain ⟨h1, h2, h3, rfl⟩ := pPan_ok h'
            exact ⟨_, .pn hw h1 h2 (fun _ _ e => e) he⟩
          · cases h'
        | succ k2 =>
          cases k2 with
          | zero =>
            have h' : pEff0 CALL E nt i m o s ⟨addN (vis m s.A) s.B s.news, s.K, fl⟩ = some s' := h
            unfold pEff0 at h'
            split at h'
            · cases h'
            · rename_i hn
              obtain ⟨h1, h2⟩ := rec_some h'
              unfold pEff at h2
              split at h2
              · rename_i x S' he
                obtain ⟨h3, tm', h4, rfl⟩ := pEf_ok h2
                exact ⟨_, .ef hw hn h1 (.inl he) h3 h4⟩
              · rename_i f args he
                split at h2
                · rename_i x S' hc
                  obtain ⟨h3, tm', h4, rfl⟩ := pEf_ok h2
                  exact ⟨_, .ef hw hn h1 (.inr ⟨f, args, he, hc⟩) h3 h4⟩
                · rename_i v S' hc
                  obtain ⟨h1, h3, h4, rfl⟩ := pPan_ok h2
                  exact ⟨_, .pc hw h1 h3 he hc h4⟩
                · cases h2
              · rename_i v he
                obtain ⟨h1, h3, h4, rfl⟩ := pPan_ok h2
                exact ⟨_, .pn hw h1 h3 (fun _ _ e => e) he⟩
              · cases h2
          | succ k3 =>
            have hk3 : kindOf o.op = 3 := by
              have := kind_le o.op
              omega
            have h' : pRo nt i m o s (evOp o.op E s.tm ⟨.e, s.K, 0⟩ o.type) (addN (vis m s.A) s.B s.news) = some s' := h
            unfold pRo at h'
            split at h'
            · rename_i x S' he
              obtain ⟨tm', h3, h4⟩ := recb_ok (o := putD nt o.dst x s.tm) h'
              cases h4
              rw [ro_ok (.inr hk3) he] at he
              exact ⟨_, .qr hw he h3⟩
            · rename_i v he
              obtain ⟨h1, h2, h3, rfl⟩ := pPan_ok h'
              exact ⟨_, .pn hw h1 h2 hsub he⟩
            · cases h'
def shiftF {α : Type} (x : α) (f : Nat → α) : Nat → α | 0 => x | n + 1 => f n
theorem pass_ok : ∀ {l : List Oper} {ms : List Nat} {i : Nat} {s s' : PSt}, pass CALL E nt ops fl l ms i s = some s' →
    ∃ (P : Nat → PSt) (oc : Nat → Oc), P 0 = s ∧ P l.length = s' ∧ ∀ j o m, l[j]? = some o → ms[j]? = some m → OcR CALL E nt ops fl (i + j) o m (P j) (oc j) (P (j + 1))
  | [], ms, i, s, s', h => by
    cases h
    exact ⟨fun _ => s, fun _ => .skip, rfl, rfl, fun j o m e => by simp at e⟩
  | o :: l, [], i, s, s', h => by cases h
  | o :: l, m :: ms, i, s, s', h => by
    have h' : (Option.rec none (pass CALL E nt ops fl l ms (i + 1)) (stepP CALL E nt ops fl i o m s) : Option PSt) = some s' := h
    obtain ⟨s1, h1, h2⟩ := recb_ok h'
    obtain ⟨oc1, h3⟩ := stepP_ok h1
    obtain ⟨P, oc, g1, g2, g3⟩ := pass_ok h2
    refine ⟨shiftF s P, shiftF oc1 oc, rfl, g2, fun j o' m' hj hm => ?_⟩
    cases j with
    | zero =>
      simp at hj hm
      subst hj hm
      show OcR CALL E nt ops fl i o m s oc1 (P 0)
      rw [g1]; exact h3
    | succ j =>
      have := g3 j o' m' (by simpa using hj) (by simpa using hm)
      rw [show i + (j + 1) = i + 1 + j from by omega]
      exact this
end
end Go.AM
