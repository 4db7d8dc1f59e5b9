import Derived.Test.YtemimkkjkggcoaaGreatDoorGA13
/- append and copy. -/
namespace Go.AM

theorem HR.drew {γ : Gm} {ng : Nat} {S : Hp} {w w' : World} (h : HR γ ng S w) (e : w'.heap = w.heap) : HR γ ng S w' := ⟨fun a o ha => by rw [e]; exact h.obj a o ha, h.inj, h.fresh, h.glob⟩
theorem HR.congr {γ : Gm} {ng : Nat} {S S' : Hp} {w : World} (h : HR γ ng S w) (e : ∀ a o, S'.hp.get a = some o → S.hp.get a = some o) (hn : S'.nx = S.nx) : HR γ ng S' w :=
  ⟨fun a o ha => h.obj a o (e a o ha), fun a a' o o' L L' h1 h2 => h.inj a a' o o' L L' (e a o h1) (e a' o' h2), fun a L ha => by rw [hn]; exact h.fresh a L ha, h.glob⟩
theorem Pres.drew {S S' : Hp} {γ γ' : Gm} {w w₁ w' : World} (h : Pres S γ w₁ S' γ' w') (e : w₁.heap = w.heap) (eo : (w₁.os, w₁.tape) = (w.os, w.tape)) (eu : w₁.output = w.output) : Pres S γ w S' γ' w' :=
  ⟨h.ext, by rw [← e]; exact h.size, fun r hr hn => by rw [h.keep r (by rw [e]; exact hr) hn, e], fun a o L h1 h2 h3 => by rw [← e]; exact h.desc a o L h1 h2 h3, h.old, h.fl, h.nx, h.new, h.os.trans eo, h.out.trans eu, h.back⟩
/-- the new object in the place of an old one -/
theorem Pres.swap {S : Hp} {γ γ' : Gm} {w w' : World} {a : Ps} {o : AO} (h : Pres S γ w (S.alloc o) γ' w') (ha : a ≠ S.nx) (hf : S.fl ≤ a.idx) : Pres S γ w (S.move a o) γ' w' := by
  have hget : ∀ b x, (S.move a o).hp.get b = some x → (S.alloc o).hp.get b = some x := fun b x e => by
    by_cases eb : b = S.nx
    · subst eb
      rw [show (S.move a o).hp.get S.nx = some o from T.get_set_same _ _ _] at e
      rw [show (S.alloc o).hp.get S.nx = some o from T.get_set_same _ _ _]; exact e
    · rw [show (S.move a o).hp.get b = T.get b (T.del a S.hp) from T.get_set_ne (fun e' => eb e'.symm) _ _] at e
      rw [show (S.alloc o).hp.get b = S.hp.get b from T.get_set_ne (fun e' => eb e'.symm) _ _]
      by_cases ea : b = a
      · subst ea; rw [T.get_del_same] at e; cases e
      · rw [T.get_del_ne (fun e' => ea e'.symm)] at e; exact e
  refine ⟨h.ext, h.size, h.keep, fun b x L h1 h2 h3 => h.desc b x L (hget b x h1) h2 h3, ?_, h.fl, h.nx, h.new, h.os, h.out, fun b x h1 h2 h3 => h.back b x (hget b x h1) h2 h3⟩
  intro b x hx hb
  have h1 := h.old b x hx hb
  have hba : b ≠ a := fun e => by rw [e] at hb; omega
  by_cases eb : b = S.nx
  · subst eb
    rw [show (S.alloc o).hp.get S.nx = some o from T.get_set_same _ _ _] at h1
    rw [show (S.move a o).hp.get S.nx = some o from T.get_set_same _ _ _]; exact h1
  · rw [show (S.move a o).hp.get b = T.get b (T.del a S.hp) from T.get_set_ne (fun e' => eb e'.symm) _ _, T.get_del_ne (fun e' => hba e'.symm)]; exact hx
theorem HR.swap {γ : Gm} {ng : Nat} {S : Hp} {w : World} {a : Ps} {o : AO} (h : HR γ ng (S.alloc o) w) : HR γ ng (S.move a o) w := by
  refine h.congr ?_ rfl
  intro b x e
  by_cases eb : b = S.nx
  · subst eb
    rw [show (S.move a o).hp.get S.nx = some o from T.get_set_same _ _ _] at e
    rw [show (S.alloc o).hp.get S.nx = some o from T.get_set_same _ _ _]; exact e
  · rw [show (S.move a o).hp.get b = T.get b (T.del a S.hp) from T.get_set_ne (fun e' => eb e'.symm) _ _] at e
    rw [show (S.alloc o).hp.get b = S.hp.get b from T.get_set_ne (fun e' => eb e'.symm) _ _]
    by_cases ea : b = a
    · subst ea; rw [T.get_del_same] at e; cases e
    · rw [T.get_del_ne (fun e' => ea e'.symm)] at e; exact e

theorem growBy_le (n : Nat) : ∀ (r c : Nat), c ≤ 2 * n + 768 → Builtin.growBy n r c ≤ 2 * n + 768
  | 0, c, h => h
  | r + 1, c, h => by
    unfold Builtin.growBy
    split
    · exact h
    · exact growBy_le n r _ (by omega)
theorem nextslicecap_le {n c : Nat} (h : c < n) : Builtin.nextslicecap n c ≤ 2 * n + 768 := by
  unfold Builtin.nextslicecap
  split
  · omega
  · split
    · omega
    · exact growBy_le n 4 c (by omega)

section
variable {E : Env} (hE : E.Ok) {γ : Gm}

noncomputable def u8s (s : List Nat) : List AV := List.rec [] (fun b _ ih => .int .u8 (Int.ofNat b) :: ih) s
theorem u8s_LR (s : List UInt8) : LR γ (u8s (s.map UInt8.toNat)) (s.map fun b => Value.int .u8 b.toNat) := by
  induction s with
  | nil => exact .nil
  | cons b s ih => exact .cons (.int .u8 _) ih
noncomputable def vlen (x : AV) : Option Nat := match x with | .nils => some 0 | .sl _ _ n _ => some n | .su _ _ n _ => some n | .str s => some s.length | _ => none
noncomputable def firstA (S : Hp) (z n : Nat) (x : AV) : Option (List AV) :=
  match x with
  | .nils => some []
  | .sl b o _ _ => (match T.get b S.hp with | some (.cells c _ _ _ _ _) => ltake (Nat.mul n z) (ldrop o c) | _ => none)
  | .su b o _ _ => (match T.get b S.hp with | some (.cells c _ _ _ _ _) => ltake (Nat.mul n z) (ldrop o c) | _ => none)
  | .str s => ltake n (u8s s)
  | _ => none
theorem vlen_ok {P : Program} {x : AV} {n : Nat} (h : vlen x = some n) {v : Value} (hx : VR γ x v) (w : World) : (Builtin.lenOf v).run P w = .ok n w := by
  unfold vlen at h
  cases hx with
  | nils => cases h; rfl
  | sl o l c hb => cases h; rfl
  | su o l c z hb _ _ _ => cases h; rfl
  | str s => cases h; rw [bytesOf_length]; rfl
  | _ => cases h
theorem u8s_length (s : List Nat) : (u8s s).length = s.length := by
  induction s with
  | nil => rfl
  | cons b s ih => show (u8s s).length + 1 = _; rw [ih]; rfl
theorem firstA_ok {P : Program} {S : Hp} {ng : Nat} {w : World} (hH : HR γ ng S w) {z n : Nat} {x : AV} {l : List AV} (h : firstA S z n x = some l) {v : Value} (hx : VR γ x v) (hn : vlen x = some n ∨ ∀ s, x ≠ .str s) :
    ∃ l', (Builtin.firstCells z n v).run P w = .ok ⟨l'⟩ w ∧ LR γ l l' := by
  unfold firstA at h
  cases hx with
  | nils => cases h; exact ⟨[], rfl, .nil⟩
  | @sl b L o len cap hb =>
    simp only at h
    split at h
    · rename_i c elem ex sty lo hi hc
      obtain ⟨vs, h1, h2, _⟩ := hH.range hc hb h P
      exact ⟨vs, h1, h2⟩
    · cases h
  | @su b L o len cap z' hb _ _ _ =>
    simp only at h
    split at h
    · rename_i c elem ex sty lo hi hc
      obtain ⟨vs, h1, h2, _⟩ := hH.range hc hb h P
      exact ⟨vs, h1, h2⟩
    · cases h
  | str s =>
    rcases hn with hn | hn
    · cases hn
      obtain ⟨e, _⟩ := ltake_eq h
      rw [List.take_of_length_le (by rw [u8s_length]; exact Nat.le_refl _)] at e
      subst e
      refine ⟨s.data.toList.map fun b => Value.int .u8 b.toNat, ?_, u8s_LR _⟩
      simp only [Builtin.firstCells, Sem.run_pure]
      congr 1
      rw [bytesOf_length]
      apply Array.ext'
      have : s.extract 0 s.size = s := by simp
      rw [this]
      simp
    · exact absurd rfl (hn _)
  | _ => cases h

noncomputable def isStr (x : AV) (z : Nat) : Bool := match x with | .str _ => Nat.beq z 1 | _ => true
noncomputable def bigOk (need by_ : Nat) : Bool := Bool.and (Nat.ble (Nat.mul (Nat.add (Nat.mul 2 need) 768) by_) 1099511627776) (Nat.ble need 1099511627776)
/-- a slice that goes over to a new row, or grows in place: nobody knows -/
noncomputable def growA (S : Hp) (e z need : Nat) (old new : List AV) : AV × Hp := (.su S.nx 0 need z, S.alloc (.cells (lapp old new) e false false 0 0))
theorem growA_eq (S : Hp) (e z need : Nat) (old new : List AV) : growA S e z need old new = (.su S.nx 0 need z, S.alloc (.cells (List.append old new) e false false 0 0)) := by unfold growA; rw [lapp_eq]
noncomputable def maybeC (S : Hp) (b : Ps) (o e z need : Nat) (old new : List AV) (a : AO) : Option (AV × Hp) :=
  AO.rec (fun c el _ sty lo hi => Bool.rec none (Bool.rec none (Bool.rec none (Bool.rec none (Bool.rec none (some (.su S.nx 0 need z, S.move b (.cells (lapp old new) e false sty (Nat.sub lo o) (Nat.sub hi o))))
      (Nat.ble (llen c) (Nat.add o (Nat.add (llen old) (llen new))))) (scals new)) (Bool.or (Nat.beq lo hi) (Nat.beq o 0))) (thaw lo hi (Nat.add o (llen old)) (llen new))) (Bool.and (Bool.and (Nat.ble S.fl b.idx) (lhas o c)) (Nat.beq el e)))
    (fun _ _ => none) (fun _ _ => none) (fun _ _ _ _ _ _ _ _ _ => none) (fun _ => none) a
noncomputable def maybeA (S : Hp) (b : Ps) (o e z need : Nat) (old new : List AV) : Option (AV × Hp) := Option.rec none (fun a => maybeC S b o e z need old new a) (T.get b S.hp)
noncomputable def maybeA0 (S : Hp) (b : Ps) (o e z need : Nat) (old new : List AV) : Option (AV × Hp) :=
  match T.get b S.hp with
  | some (.cells c el _ sty lo hi) =>
    (match Bool.and (Bool.and (Nat.ble S.fl b.idx) (Nat.ble o c.length)) (Nat.beq el e), thaw lo hi (Nat.add o old.length) new.length, Bool.or (Nat.beq lo hi) (Nat.beq o 0), scals new, Nat.ble c.length (Nat.add o (Nat.add old.length new.length)) with
      | true, true, true, true, true => some (.su S.nx 0 need z, S.move b (.cells (List.append old new) e false sty (Nat.sub lo o) (Nat.sub hi o)))
      | _, _, _, _, _ => none)
  | _ => none
theorem maybeA_eq (S : Hp) (b : Ps) (o e z need : Nat) (old new : List AV) : maybeA S b o e z need old new = maybeA0 S b o e z need old new := by
  unfold maybeA maybeA0
  cases T.get b S.hp with
  | none => rfl
  | some a =>
    cases a with
    | cells c el ex sty lo hi =>
      show maybeC S b o e z need old new (.cells c el ex sty lo hi) = _
      unfold maybeC
      simp only [llen_eq, lhas_eq, lapp_eq]
      generalize Bool.and (Bool.and (Nat.ble S.fl b.idx) (Nat.ble o c.length)) (Nat.beq el e) = q1
      generalize thaw lo hi (Nat.add o old.length) new.length = q2
      generalize Bool.or (Nat.beq lo hi) (Nat.beq o 0) = q3
      generalize scals new = q4
      generalize Nat.ble c.length (Nat.add o (Nat.add old.length new.length)) = q5
      cases q1 <;> cases q2 <;> cases q3 <;> cases q4 <;> cases q5 <;> rfl
    | _ => rfl
noncomputable def notInt (d : TypeDesc) : Bool := match d with | .int _ => false | _ => true
noncomputable def appD (S : Hp) (e z n len : Nat) (s : AV) (new : List AV) : Option (AV × Hp) :=
  match s with
  | .nils => (match n with | 0 => some (.nils, S) | _ + 1 => some (growA S e z n [] new))
  | .sl b o _ cap => (match Nat.ble (Nat.add len n) cap with
      | true => (match n with | 0 => some (s, S) | _ + 1 => (match putC S b (Nat.add o (Nat.mul len z)) new with | some S' => some (.sl b o (Nat.add len n) cap, S') | none => none))
      | false => (match firstA S z len s with | some old => some (growA S e z (Nat.add len n) old new) | none => none))
  | .su b o _ z' => (match Nat.beq z' z with
      | false => none
      | true => (match n with
          | 0 => some (s, S)
          | _ + 1 => (match Nat.ble (Nat.add len n) (sure S b o z len) with
              | true => (match putC S b (Nat.add o (Nat.mul len z)) new with | some S' => some (.su b o (Nat.add len n) z, S') | none => none)
              | false => (match firstA S z len s with | some old => maybeA S b o e z (Nat.add len n) old new | none => none))))
  | _ => none
noncomputable def appC (S : Hp) (e : Nat) (i : TypeInfo) (zero : AV) (n len : Nat) (s x : AV) : Option (AV × Hp) :=
  match firstA S i.size n x, bigOk (Nat.add len n) i.bytes, Bool.and (Nat.blt 0 i.size) (isStr x i.size), Nat.beq (cellsA zero).length i.size with
  | some new, true, true, true => appD S e i.size n len s new
  | _, _, _, _ => none
noncomputable def appB (E : Env) (S : Hp) (e : Nat) (s x : AV) : Option (AV × Hp) :=
  match info E e, zeroA E e, vlen x, vlen s with
  | some i, some zero, some n, some len => appC S e i zero n len s x
  | _, _, _, _ => none
noncomputable def appA (E : Env) (S : Hp) (sT xT : Nat) (s x : AV) : Option (AV × Hp) :=
  match und E sT, und E xT with
  | some (.slice e), some xd => Bool.rec none (appB E S e s x) (notInt xd)
  | _, _ => none

structure AppC (E : Env) (sT xT e : Nat) (xd : TypeDesc) (i : TypeInfo) (ats : Array TypeId) : Prop where
  hs : und E sT = some (.slice e)
  hx : und E xT = some xd
  hxi : ∀ k, xd ≠ .int k
  hi : info E e = some i
  h0 : ats[0]? = some sT
  h1 : ats[1]? = some xT
include hE in
theorem run_append_in {sT xT e : Nat} {xd : TypeDesc} {i : TypeInfo} {ats : Array TypeId} (hc : AppC E sT xT e xd i ats) {base : Option Addr} {len cap n : Nat} {x' : Value} {w : World} (hl : ∀ w, (Builtin.lenOf x').run E.P w = .ok n w)
    (ty : TypeId) {args : Array Value} (ha0 : args[0]? = some (.slice base len cap)) (ha1 : args[1]? = some x') (hle : len + n ≤ cap) :
    (Builtin.append_ ats ty args).run E.P w = ((Builtin.firstCells i.size n x').run E.P w).andThen fun new w => (match base with
      | some a => ((Go.storeCells (a.add (len * i.size)) new.toList).run E.P w).andThen fun _ w => .ok (.slice base (len + n) cap) w
      | none => .ok (.slice base (len + n) cap) w) := by
  obtain ⟨hs, hx, hxi, hi, h0, h1⟩ := hc
  have hsz : sizeA E e = some i.size := by unfold sizeA; rw [hi]
  unfold Builtin.append_
  simp only [h0, h1, ha0, ha1, Sem.run_bind, run_und hE hs, run_und hE hx, Result.andThen_ok, run_size hE hsz, Sem.run_pure, hl, Bool.false_eq_true, if_false, Bool.not_false, if_true, hle]
  congr 1
  funext new w
  cases base with
  | none => rfl
  | some a => simp only [Sem.run_bind, Sem.run_pure]
include hE in
theorem run_append_out {sT xT e : Nat} {xd : TypeDesc} {i : TypeInfo} {ats : Array TypeId} (hc : AppC E sT xT e xd i ats) {base : Option Addr} {len cap n : Nat} {x' : Value} {w : World} (hl : ∀ w, (Builtin.lenOf x').run E.P w = .ok n w)
    (ty : TypeId) {args : Array Value} (ha0 : args[0]? = some (.slice base len cap)) (ha1 : args[1]? = some x') (hle : cap < len + n) (hb : bigOk (len + n) i.bytes = true) {zero : Value} (hz : ∀ w, (Go.zeroValue e).run E.P w = .ok zero w) :
    ∃ newCap, len + n ≤ newCap ∧ (Builtin.append_ ats ty args).run E.P w = ((Builtin.firstCells i.size len (.slice base len cap)).run E.P { w with drawn := w.drawn + 1 }).andThen fun old w => ((Builtin.firstCells i.size n x').run E.P w).andThen fun new w =>
      ((Go.newRow e (old ++ new ++ Builtin.zeroCells zero.cells (newCap - (len + n)))).run E.P w).andThen fun a w => .ok (.slice (some a) (len + n) newCap) w := by
  obtain ⟨hs, hx, hxi, hi, h0, h1⟩ := hc
  have hsz : sizeA E e = some i.size := by unfold sizeA; rw [hi]
  unfold bigOk at hb
  simp only [Bool.and_eq_true, Nat.ble_eq] at hb
  obtain ⟨hb1, hb2⟩ := hb
  have hb1' : (2 * (len + n) + 768) * i.bytes ≤ 1099511627776 := hb1
  have g1 := nextslicecap_le hle
  have g2 : ¬ (Builtin.nextslicecap (len + n) cap * i.bytes > 2 ^ 48) := by
    have := Nat.mul_le_mul_right i.bytes g1
    omega
  have g3 : ¬ (((len + n : Nat) : Int) > IntKind.i64.max ∧ (False ∨ i.bytes = 0)) := by
    rw [show IntKind.i64.max = 9223372036854775807 from by decide]
    intro h; have := h.1; omega
  refine ⟨len + n + w.tape w.drawn (.appendCap (len + n) cap e) % (2 ^ 63 - (len + n)), Nat.le_add_right _ _, ?_⟩
  unfold Builtin.append_
  simp only [h0, h1, ha0, ha1, Sem.run_bind, run_und hE hs, run_und hE hx, Result.andThen_ok, run_size hE hsz, Sem.run_pure, hl, run_info hE hi, Bool.false_eq_true, if_false, Bool.not_false, if_true, Nat.not_le.2 hle, g2, g3]
  simp only [Go.choose, Sem.run, Question.forced, Bool.false_eq_true, if_false, Result.andThen_ok, Question.cut, run_askRoom, hz]

theorem firstA_length {S : Hp} {z n : Nat} {x : AV} {l : List AV} (h : firstA S z n x = some l) (hs : isStr x z = true) (hn : vlen x = some n ∨ x ≠ .nils) : l.length = n * z := by
  unfold firstA at h
  have key : ∀ {c : List AV} {o : Nat}, ltake (Nat.mul n z) (ldrop o c) = some l → l.length = n * z := by
    intro c o h
    obtain ⟨e, hle⟩ := ltake_eq h
    rw [e, List.length_take]
    exact Nat.min_eq_left hle
  split at h
  · cases h
    rcases hn with hn | hn
    · cases hn; simp
    · exact absurd rfl hn
  · split at h
    · exact key h
    · cases h
  · split at h
    · exact key h
    · cases h
  · rename_i s
    have : z = 1 := Nat.eq_of_beq_eq_true hs
    subst this
    obtain ⟨e, hle⟩ := ltake_eq h
    rw [e, List.length_take, Nat.mul_one]
    exact Nat.min_eq_left hle
  · cases h

theorem grow_ok {S : Hp} {ng : Nat} {w : World} (hH : HR γ ng S w) {e z len n newCap : Nat} {old new : List AV} {old' new' : List Value} (ho : LR γ old old') (hn : LR γ new new') (hol : old.length = len * z) (hnl : new.length = n * z)
    (hz : 0 < z) (hcap : len + n ≤ newCap) {zero : Value} (hzs : zero.cells.size = z) (sty : Bool) (lo hi : Nat) (hhi : hi ≤ (List.append old new).length) :
    ∃ γ' v w', ((Go.newRow e ((⟨old'⟩ : Array Value) ++ ⟨new'⟩ ++ Builtin.zeroCells zero.cells (newCap - (len + n)))).run E.P w).andThen (fun a w => .ok (.slice (some a) (len + n) newCap) w) = .ok v w' ∧
      VR γ' (.su S.nx 0 (len + n) z) v ∧ HR γ' ng (S.alloc (.cells (List.append old new) e false sty lo hi)) w' ∧ Pres S γ w (S.alloc (.cells (List.append old new) e false sty lo hi)) γ' w' := by
  obtain ⟨rest, hr⟩ : ∃ rest, Builtin.zeroCells zero.cells (newCap - (len + n)) = ⟨rest⟩ := ⟨_, rfl⟩
  have hrl : rest.length = (newCap - (len + n)) * z := by
    have := congrArg Array.size hr
    simp only [Builtin.zeroCells, Array.size_map, Array.size_range, hzs] at this
    exact this.symm
  have hle : Gm.le γ (γ.with S.nx ⟨w.heap.size, 0, newCap * z⟩) := Gm.le_with hH.nx_none
  have hlen : (old' ++ new' ++ rest).length = newCap * z := by
    simp only [List.length_append, ho.length, hn.length, hol, hnl, hrl]
    rw [← Nat.add_mul, ← Nat.add_mul]
    congr 1; omega
  obtain ⟨h1, h2⟩ := hH.alloc (w' := { w with heap := w.heap.push (.cells ⟨old' ++ new' ++ rest⟩ e) }) (ob := .cells ⟨old' ++ new' ++ rest⟩ e) (siz := newCap * z) (o := .cells (List.append old new) e false sty lo hi) rfl rfl rfl
    ⟨[], old' ++ new', rest, (0, 0), by simp, rfl, by simpa using hlen, (ho.append hn).mono hle, ⟨fun p _ h1 h2 => by omega, fun _ => .inl rfl⟩, hhi, fun h => by cases h⟩
  refine ⟨γ.with S.nx ⟨w.heap.size, 0, newCap * z⟩, .slice (some ⟨w.heap.size, 0, none⟩) (len + n) newCap, _, ?_, ?_, h1, h2⟩
  · rw [hr]
    rw [show ((⟨old'⟩ : Array Value) ++ ⟨new'⟩ ++ ⟨rest⟩) = ⟨old' ++ new' ++ rest⟩ from by simp]
    simp only [Go.newRow, Sem.run_bind, run_newObj, Result.andThen_ok]; rfl
  · exact .su (L := ⟨w.heap.size, 0, newCap * z⟩) 0 (len + n) newCap z (Gm.with_same _ _ _) hcap hz (by simp)

theorem maybe_ok {S S' : Hp} {ng : Nat} {w : World} (hH : HR γ ng S w) {b : Ps} {o e z len n cap : Nat} {old new : List AV} {r : AV} (h : maybeA S b o e z (len + n) old new = some (r, S')) {L : Loc} (hL : γ b = some L) 
    (he : L.off + o + cap * z = L.siz) (hold : ltake (Nat.mul len z) (match T.get b S.hp with | some (.cells c _ _ _ _ _) => ldrop o c | _ => []) = some old)
    {new' : List Value} (hn : LR γ new new') (hnl : new.length = n * z) (hz : 0 < z) {zero : Value} (hzs : zero.cells.size = z) :
    (len + n ≤ cap → ∃ γ' w', (Go.storeCells ((⟨L.blk, L.off + o, none⟩ : Addr).add (len * z)) new').run E.P w = .ok () w' ∧ VR γ' r (.slice (some ⟨L.blk, L.off + o, none⟩) (len + n) cap) ∧ HR γ' ng S' w' ∧ Pres S γ w S' γ' w') ∧
    (∀ newCap, len + n ≤ newCap → ∃ old', (Builtin.firstCells z len (.slice (some ⟨L.blk, L.off + o, none⟩) len cap)).run E.P w = .ok ⟨old'⟩ w ∧ ∃ γ' v w',
      ((Go.newRow e ((⟨old'⟩ : Array Value) ++ ⟨new'⟩ ++ Builtin.zeroCells zero.cells (newCap - (len + n)))).run E.P w).andThen (fun a w => .ok (.slice (some a) (len + n) newCap) w) = .ok v w' ∧ VR γ' r v ∧ HR γ' ng S' w' ∧ Pres S γ w S' γ' w') := by
  rw [maybeA_eq] at h; unfold maybeA0 at h
  split at h
  · rename_i c elem ex sty lo hi hb
    split at h
    · rename_i h1 h2 h3 h4 h5
      cases h
      rw [hb] at hold
      simp only at hold
      rw [Bool.and_eq_true, Bool.and_eq_true] at h1
      obtain ⟨⟨h1, h00⟩, h0⟩ := h1
      have hoc := Nat.le_of_ble_eq_true h00
      have hel : elem = e := Nat.eq_of_beq_eq_true h0
      obtain ⟨M, ob, g1, g2, pre, cs, post, fz, rfl, g4, g5, g6, g7, g8, g9⟩ := hH.obj b _ hb
      rw [hL] at g1; cases g1
      obtain ⟨eo, hle⟩ := ltake_eq hold
      rw [ldrop_eq] at eo hle
      have hol : old.length = len * z := by rw [eo, List.length_take]; exact Nat.min_eq_left hle
      have e1 := g6.length
      have e2 := hn.length
      have hlt := (Array.getElem?_eq_some_iff.1 g2).1
      have hdl : len * z ≤ c.length - o := by rw [List.length_drop] at hle; exact hle
      have hbn : b ≠ S.nx := fun e => by have := hH.lt hb; rw [e] at this; omega
      refine ⟨fun hin => ?_, fun newCap hcap => ?_⟩
      · -- in place
        have hsz : (len + n) * z ≤ cap * z := Nat.mul_le_mul_right z hin
        rw [Nat.add_mul] at hsz
        have hth : thaw lo hi (o + old.length) new.length = true := h2
        unfold thaw at hth
        rw [nat_beq_decide, nat_ble_decide, nat_ble_decide] at hth
        simp only [Bool.or_eq_true, decide_eq_true_eq] at hth
        have hth2 : lo = hi ∨ o + old.length + new.length ≤ lo ∨ hi ≤ o + old.length := hth
        have hrun := run_storeCells (P := E.P) (B := L.blk) (O := L.off + o + len * z) (elem := elem) (fz := fz) new' 0 w (pre ++ cs ++ post) g2 (by rw [g5]; omega) ?_ (scals_ok hn h4)
        · rw [addr_add]
          have hle' : Gm.le γ (γ.with S.nx ⟨L.blk, L.off + o, L.siz⟩) := Gm.le_with hH.nx_none
          refine ⟨γ.with S.nx ⟨L.blk, L.off + o, L.siz⟩, _, hrun, .su (L := ⟨L.blk, L.off + o, L.siz⟩) 0 (len + n) cap z (Gm.with_same _ _ _) hin hz (by simpa using he), ?_⟩
          refine hH.move (L' := ⟨L.blk, L.off + o, L.siz⟩) (ob' := .cells ⟨lputs new' (L.off + o + len * z + 0) (pre ++ cs ++ post)⟩ elem fz) hb hL (Nat.le_of_ble_eq_true h1) rfl (by simp) ?_ ?_ ?_ rfl rfl
          · intro r hr; exact Array.getElem?_setIfInBounds_ne (fun e => hr e.symm)
          · show (w.heap.setIfInBounds L.blk _)[L.blk]? = _
            rw [Array.getElem?_setIfInBounds_self, if_pos hlt]
          · have hk : pre.length + o + len * z + new'.length ≤ (pre ++ cs ++ post).length := by rw [g5, g4, e2, hnl]; omega
            have hwhole : lputs new' (L.off + o + len * z + 0) (pre ++ cs ++ post) = (pre ++ cs.take o) ++ ((cs.drop o).take (len * z) ++ new') ++ (pre ++ cs ++ post).drop (pre.length + o + len * z + new'.length) := by
              rw [Nat.add_zero, ← g4, lputs_eq _ _ _ hk]
              have e3 : (pre ++ cs ++ post).take (pre.length + o + len * z) = pre ++ cs.take o ++ (cs.drop o).take (len * z) := by
                rw [List.append_assoc, List.take_append, List.take_of_length_le (by omega)]
                rw [show pre.length + o + len * z - pre.length = o + len * z from by omega]
                rw [List.take_append, show o + len * z - cs.length = 0 from by omega, List.take_zero, List.append_nil, List.take_add, List.append_assoc]
              rw [e3, ← List.append_assoc]
            refine ⟨pre ++ cs.take o, (cs.drop o).take (len * z) ++ new', _, fz, by rw [hwhole, hel], ?_, ?_, ?_, ⟨?_, ?_⟩, ?_, fun h => by cases h⟩
            · simp only [List.length_append, List.length_take, g4]
              show L.off + min o cs.length = L.off + o
              rw [Nat.min_eq_left (by omega)]
            · rw [← hwhole, lputs_length]; exact g5
            · rw [eo]; exact (((g6.drop o).take (len * z)).append hn).mono hle'
            · intro p hp1 hp2 hp3
              have hp1' : L.off + o ≤ p := hp1
              rcases g7.1 p (by omega) hp2 hp3 with hx | ⟨hx, hy⟩
              · exact .inl hx
              · right
                show L.off + o + (lo - o) ≤ p ∧ p < L.off + o + (hi - o)
                omega
            · intro hst
              rcases g7.2 hst with hx | ⟨hx1, hx2, hx3⟩
              · exact .inl hx
              · right
                rw [nat_beq_decide, nat_beq_decide] at h3
                simp only [Bool.or_eq_true, decide_eq_true_eq] at h3
                have ho0 : o = 0 := by omega
                subst ho0
                show lo - 0 < hi - 0 ∧ (lo - 0 = 0 ∨ L.off + 0 + (lo - 0) ≤ fz.1) ∧ fz.2 ≤ L.off + 0 + (hi - 0)
                simp only [Nat.sub_zero, Nat.add_zero]
                exact ⟨hx1, hx2, hx3⟩
            · have h5' : c.length ≤ o + (old.length + new.length) := Nat.le_of_ble_eq_true h5
              show hi - o ≤ (old ++ new).length
              rw [List.length_append]; omega
        · intro j hj hc
          have h5' : c.length ≤ o + (old.length + new.length) := Nat.le_of_ble_eq_true h5
          rcases g7.1 (L.off + o + len * z + 0 + j) (by omega) hc.1 hc.2 with hx | ⟨hx, hy⟩
          · rw [e2, hnl] at hj; omega
          · rw [e2] at hj; omega
      · obtain ⟨vs, v1, v2, v3⟩ := hH.range hb hL hold E.P
        refine ⟨vs, v1, ?_⟩
        obtain ⟨γ', v, w', k1, k2, k3, k4⟩ := grow_ok (E := E) hH (e := e) (z := z) (len := len) (n := n) (newCap := newCap) v2 hn hol hnl hz hcap hzs sty (lo - o) (hi - o) (by
          have h5' : c.length ≤ o + (old.length + new.length) := Nat.le_of_ble_eq_true h5
          show hi - o ≤ (old ++ new).length
          rw [List.length_append]; omega)
        exact ⟨γ', v, w', k1, k2, k3.swap, k4.swap hbn (Nat.le_of_ble_eq_true h1)⟩
    · cases h
  · cases h

include hE in
theorem appA_ok {S S' : Hp} {sT xT : Nat} {s x r : AV} (h : appA E S sT xT s x = some (r, S')) {s' x' : Value} (hs : VR γ s s') (hx : VR γ x x') {ng : Nat} {ats : Array TypeId} (h0 : ats[0]? = some sT) (h1 : ats[1]? = some xT) (ty : TypeId)
    {args : Array Value} (ha0 : args[0]? = some s') (ha1 : args[1]? = some x') : Out E.P γ ng S (Builtin.append_ ats ty args) r S' := by
  intro w hH
  unfold appA at h
  split at h
  · rename_i e xd hus hux
    obtain ⟨hni, h2⟩ := rec_some h
    clear h
    have hxi : ∀ k, xd ≠ .int k := by intro k ek; subst ek; cases hni
    unfold appB at h2
    split at h2
    · rename_i i zero n len hi hz hn hlen
      unfold appC at h2
      split at h2
      · rename_i new hnew hbig hg hzl
        rw [Bool.and_eq_true] at hg
        obtain ⟨hz0, hstr⟩ := hg
        rw [nat_blt_decide] at hz0
        have hz0' : 0 < i.size := of_decide_eq_true hz0
        have hzl' := Nat.eq_of_beq_eq_true hzl
        obtain ⟨zero', hzr, hzv⟩ := run_zero hE hz γ
        have hzs : zero'.cells.size = i.size := by rw [← Array.length_toList, (cells_ok hzv).length]; exact hzl'
        have hnl := firstA_length hnew hstr (.inl hn)
        have hC : AppC E sT xT e xd i ats := ⟨hus, hux, hxi, hi, h0, h1⟩
        have hvl := vlen_ok (P := E.P) hn hx
        have hfirst : ∀ w : World, HR γ ng S w → ∃ l', (Builtin.firstCells i.size n x').run E.P w = .ok ⟨l'⟩ w ∧ LR γ new l' := fun w hH => firstA_ok hH hnew hx (.inl hn)
        have hH2 : HR γ ng S { w with drawn := w.drawn + 1 } := hH.drew rfl
        unfold appD at h2
        simp only [growA_eq] at h2
        split at h2
        · -- nil
          have hs2 := hs
          cases hs2
          cases hlen
          obtain ⟨l', hl1, hl2⟩ := hfirst w hH
          split at h2
          · cases h2
            refine ⟨γ, .slice none 0 0, w, ?_, .nils, hH, Pres.refl _ _ _⟩
            rw [run_append_in hE hC hvl ty ha0 ha1 (by omega), hl1]; rfl
          · rename_i m
            cases h2
            obtain ⟨l2, hm1, hm2⟩ := hfirst _ hH2
            obtain ⟨nc, hnc, hrun⟩ := run_append_out hE hC (w := w) hvl ty ha0 ha1 (by omega) hbig hzr
            obtain ⟨γ', v, w', k1, k2, k3, k4⟩ := grow_ok (E := E) hH2 (e := e) (z := i.size) (len := 0) (n := m + 1) (newCap := nc) (old := []) .nil hm2 (by simp) hnl hz0' hnc hzs false 0 0 (Nat.zero_le _)
            rw [Nat.zero_add] at k1 k2
            refine ⟨γ', v, w', ?_, k2, k3, k4.drew rfl rfl rfl⟩
            rw [hrun]
            rw [show (Builtin.firstCells i.size 0 (.slice none 0 0)).run E.P { w with drawn := w.drawn + 1 } = .ok #[] { w with drawn := w.drawn + 1 } from rfl]
            simp only [Result.andThen_ok, hm1, Nat.zero_add]
            exact k1
        · -- a known capacity
          rename_i b o len0 cap
          cases hlen
          cases hs with
          | @sl _ L _ _ _ hL =>
            split at h2
            · rename_i hle
              have hle' := Nat.le_of_ble_eq_true hle
              obtain ⟨l', hl1, hl2⟩ := hfirst w hH
              split at h2
              · cases h2
                refine ⟨γ, _, w, ?_, .sl o len cap hL, hH, Pres.refl _ _ _⟩
                rw [run_append_in hE hC hvl ty ha0 ha1 hle', hl1]
                have : new = [] := List.eq_nil_of_length_eq_zero (by rw [hnl]; simp)
                subst this
                cases hl2
                rfl
              · rename_i m
                split at h2
                · rename_i S1 hput
                  cases h2
                  obtain ⟨γ', w', hr, k3, k4⟩ := putC_ok (P := E.P) (ng := ng) hput hL hl2 w hH
                  refine ⟨γ', _, w', ?_, .sl o (len + (m + 1)) cap (k4.ext _ _ hL), k3, k4⟩
                  rw [run_append_in hE hC hvl ty ha0 ha1 hle', hl1]
                  simp only [Result.andThen_ok, addr_add]
                  rw [Nat.add_assoc, show (Go.storeCells ⟨L.blk, L.off + (o + len * i.size), none⟩ l').run E.P w = _ from hr]
                  rfl
                · cases h2
            · rename_i hle
              have hle' : cap < len + n := by
                rw [nat_ble_decide, decide_eq_false_iff_not] at hle; exact Nat.lt_of_not_le hle
              split at h2
              · rename_i old hold
                cases h2
                obtain ⟨l2, hm1, hm2⟩ := hfirst _ hH2
                obtain ⟨o', ho1, ho2⟩ := firstA_ok (P := E.P) hH2 hold (VR.sl (γ := γ) o len cap hL) (.inr fun s e => by cases e)
                have hol := firstA_length hold rfl (.inr fun e => by cases e)
                obtain ⟨nc, hnc, hrun⟩ := run_append_out hE hC (w := w) hvl ty ha0 ha1 hle' hbig hzr
                obtain ⟨γ', v, w', k1, k2, k3, k4⟩ := grow_ok (E := E) hH2 (e := e) (z := i.size) (len := len) (n := n) (newCap := nc) ho2 hm2 hol hnl hz0' hnc hzs false 0 0 (Nat.zero_le _)
                refine ⟨γ', v, w', ?_, k2, k3, k4.drew rfl rfl rfl⟩
                rw [hrun]
                simp only [ho1, Result.andThen_ok, hm1]
                exact k1
              · cases h2
        · -- an unknown capacity
          rename_i b o len0 z'
          cases hlen
          split at h2
          · cases h2
          · rename_i hzz
            have hzz' := Nat.eq_of_beq_eq_true hzz
            subst hzz'
            cases hs with
            | @su _ L _ _ cap _ hL hlc hzp he =>
              obtain ⟨l', hl1, hl2⟩ := hfirst w hH
              split at h2
              · cases h2
                refine ⟨γ, _, w, ?_, .su o len cap _ hL hlc hzp he, hH, Pres.refl _ _ _⟩
                rw [run_append_in hE hC hvl ty ha0 ha1 (by omega), hl1]
                have : new = [] := List.eq_nil_of_length_eq_zero (by rw [hnl]; simp)
                subst this
                cases hl2
                rfl
              · rename_i m
                split at h2
                · rename_i hsure
                  have hsure' := Nat.le_of_ble_eq_true hsure
                  have hcap := hH.sure hL hlc hzp he
                  have hle' : len + (m + 1) ≤ cap := Nat.le_trans hsure' hcap
                  split at h2
                  · rename_i S1 hput
                    cases h2
                    obtain ⟨γ', w', hr, k3, k4⟩ := putC_ok (P := E.P) (ng := ng) hput hL hl2 w hH
                    refine ⟨γ', _, w', ?_, .su o (len + (m + 1)) cap _ (k4.ext _ _ hL) hle' hzp he, k3, k4⟩
                    rw [run_append_in hE hC hvl ty ha0 ha1 hle', hl1]
                    simp only [Result.andThen_ok, addr_add]
                    rw [Nat.add_assoc, show (Go.storeCells ⟨L.blk, L.off + (o + len * i.size), none⟩ l').run E.P w = _ from hr]
                    rfl
                  · cases h2
                · split at h2
                  · rename_i old hold
                    have hold2 : ltake (Nat.mul len i.size) (match T.get b S.hp with | some (.cells c _ _ _ _ _) => ldrop o c | _ => []) = some old := by
                      unfold firstA at hold
                      simp only at hold
                      split at hold
                      · exact hold
                      · cases hold
                    by_cases hle' : len + (m + 1) ≤ cap
                    · obtain ⟨γ', w', k1, k2, k3, k4⟩ := (maybe_ok (E := E) hH h2 hL he hold2 hl2 hnl hz0' hzs).1 hle'
                      refine ⟨γ', _, w', ?_, k2, k3, k4⟩
                      rw [run_append_in hE hC hvl ty ha0 ha1 hle', hl1]
                      simp only [Result.andThen_ok, k1]
                    · obtain ⟨l2, hm1, hm2⟩ := hfirst _ hH2
                      obtain ⟨nc, hnc, hrun⟩ := run_append_out hE hC (w := w) hvl ty ha0 ha1 (by omega) hbig hzr
                      obtain ⟨o', ho1, γ', v, w', k1, k2, k3, k4⟩ := (maybe_ok (E := E) hH2 h2 hL he hold2 hm2 hnl hz0' hzs).2 nc hnc
                      refine ⟨γ', v, w', ?_, k2, k3, k4.drew rfl rfl rfl⟩
                      rw [hrun]
                      simp only [ho1, Result.andThen_ok, hm1]
                      exact k1
                  · cases h2
        · cases h2
      · cases h2
    · cases h2
  · cases h
end
end Go.AM
