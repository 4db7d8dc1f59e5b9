import Derived.Test.YtemimkkjkggcoaaGreatDoorGA14
/- Maps; copy; type assertions; values of functions and interfaces. -/
namespace Go.AM

section
variable {E : Env} (hE : E.Ok) {γ : Gm}

inductive KQ where | no | int | str | bool
noncomputable def kq (kd : TypeDesc) : KQ :=
  TypeDesc.rec .no .bool (fun _ => .int) (fun _ => .no) (fun _ => .no) .str .no (fun _ => .no) (fun _ => .no) (fun _ _ => .no) (fun _ _ => .no) (fun _ _ => .no) (fun _ => .no) (fun _ _ _ => .no) (fun _ => .no) (fun _ => .no) (fun _ _ => .no) kd
noncomputable def sameI (a b : AV) : Option Bool := Option.rec none (fun p => Option.rec none (fun q => Bool.rec none (some (ieq p.2 q.2)) (Nat.beq (kno p.1) (kno q.1))) (intOf b)) (intOf a)
noncomputable def sameS (a b : AV) : Option Bool := Option.rec none (fun p => Option.rec none (fun q => some (seq p q)) (strOf b)) (strOf a)
noncomputable def sameB (a b : AV) : Option Bool := Option.rec none (fun p => Option.rec none (fun q => some (p == q)) (boolOf b)) (boolOf a)
noncomputable def sameN (_ _ : AV) : Option Bool := none
noncomputable def sameA (kd : TypeDesc) (a b : AV) : Option Bool := KQ.rec sameN sameI sameS sameB (kq kd) a b
noncomputable def sameA0 (kd : TypeDesc) (a b : AV) : Option Bool :=
  match kd with
  | .int _ => (match a, b with | .int k x, .int l y => Bool.rec none (some (ieq x y)) (Nat.beq (kno k) (kno l)) | _, _ => none)
  | .string => (match a, b with | .str x, .str y => some (seq x y) | _, _ => none)
  | .bool => (match a, b with | .bool x, .bool y => some (x == y) | _, _ => none)
  | _ => none
theorem sameA_eq (kd : TypeDesc) (a b : AV) : sameA kd a b = sameA0 kd a b := by
  cases kd <;> first
    | rfl
    | (cases a <;> first
        | rfl
        | (cases b <;> rfl))
theorem bytes_beq (a b : ByteArray) : (a == b) = seq (bytesOf a) (bytesOf b) := by rw [beq_toListBytes, bytes_toList_beq]
theorem sameA_ok {kd : TypeDesc} {a b : AV} {r : Bool} (h : sameA kd a b = some r) {a' b' : Value} (ha : VR γ a a') (hb : VR γ b b') : Instr.sameNow kd a' b' = some r := by
  rw [sameA_eq] at h; unfold sameA0 at h
  split at h
  · split at h
    · rename_i k x l y
      obtain ⟨hk, h2⟩ := rec_some h
      have := kno_inj hk
      subst this
      cases h2; cases ha; cases hb
      simp [Instr.sameNow, ieq_eq]
    · cases h
  · split at h
    · cases h; cases ha; cases hb
      simp only [Instr.sameNow]
      rw [bytes_beq]
    · cases h
  · split at h
    · cases h; cases ha; cases hb; rfl
    · cases h
  · cases h
noncomputable def findA (kd : TypeDesc) (k : AV) (es : List (AV × AV × Nat)) : Nat → Option (Option (Nat × AV × Nat)) :=
  List.rec (motive := fun _ => Nat → Option (Option (Nat × AV × Nat))) (fun _ => some none) (fun e _ ih i =>
    match sameA kd k e.1 with
    | some true => some (some (i, e.2.1, e.2.2))
    | some false => ih (Nat.succ i)
    | none => none) es
theorem findA_ok {kd : TypeDesc} {k : AV} {k' : Value} (hk : VR γ k k') {es : List (AV × AV × Nat)} {es' : List MapEntry} (he : ER γ es es') : ∀ (i : Nat) (r : Option (Nat × AV × Nat)), findA kd k es i = some r →
    (match r with
      | none => Instr.findNow kd k' es' i = some none
      | some (j, v, n) => ∃ v' key, Instr.findNow kd k' es' i = some (some (j, v')) ∧ VR γ v v' ∧ i ≤ j ∧ es'[j - i]? = some ⟨key, v', n⟩ ∧ Instr.sameNow kd k' key = some true ∧ j - i < es.length) := by
  induction he with
  | nil => intro i r h; cases h; rfl
  | @cons a v a' v' l l' n hk2 hv t ih =>
    intro i r h
    have h' : (match sameA kd k a with | some true => some (some (i, v, n)) | some false => findA kd k l (i + 1) | none => none) = some r := h
    cases hs : sameA kd k a with
    | none => rw [hs] at h'; cases h'
    | some b =>
      rw [hs] at h'
      have hs2 := sameA_ok hs hk hk2
      cases b with
      | true =>
        cases h'
        refine ⟨v', a', ?_, hv, Nat.le_refl _, by simp, hs2, by simp⟩
        simp only [Instr.findNow, hs2]
      | false =>
        have := ih (i + 1) r h'
        cases r with
        | none =>
          simp only [Instr.findNow, hs2]
          exact this
        | some q =>
          obtain ⟨j, v2, m⟩ := q
          obtain ⟨v3, key, h1, h2, h3, h4, h5, h6⟩ := this
          refine ⟨v3, key, by simp only [Instr.findNow, hs2]; exact h1, h2, by omega, ?_, h5, ?_⟩
          · rw [show j - i = (j - (i + 1)) + 1 from by omega]; simpa using h4
          · simp only [List.length_cons]; omega
theorem run_checkKeyN {P : Program} {t : TypeId} {kd : TypeDesc} (hu : ∀ w, (Go.underlying t).run P w = .ok kd w) (hk : kd = .string ∨ kd = .bool ∨ ∃ k, kd = .int k) (b : Bool) (n : Nat) (v : Value) (w : World) : (Instr.checkKey b (n + 1) t v).run P w = .ok () w := by
  simp only [Instr.checkKey, Sem.run_bind, hu, Result.andThen_ok]
  rcases hk with rfl | rfl | ⟨k, rfl⟩ <;> rfl
theorem run_checkKey {P : Program} {t : TypeId} {kd : TypeDesc} (hu : ∀ w, (Go.underlying t).run P w = .ok kd w) (hk : kd = .string ∨ kd = .bool ∨ ∃ k, kd = .int k) (b : Bool) (v : Value) (w : World) : (Instr.checkKey b 10000 t v).run P w = .ok () w :=
  run_checkKeyN hu hk b 9999 v w
theorem sameA_kd {kd : TypeDesc} {a b : AV} {r : Bool} (h : sameA kd a b = some r) : kd = .string ∨ kd = .bool ∨ ∃ k, kd = .int k := by
  rw [sameA_eq] at h; unfold sameA0 at h
  split at h
  · exact .inr (.inr ⟨_, rfl⟩)
  · exact .inl rfl
  · exact .inr (.inl rfl)
  · cases h
noncomputable def simpleK (kd : TypeDesc) : Bool := match kd with | .int _ => true | .string => true | .bool => true | _ => false
theorem simpleK_ok {kd : TypeDesc} (h : simpleK kd = true) : kd = .string ∨ kd = .bool ∨ ∃ k, kd = .int k := by
  cases kd <;> first | exact .inl rfl | exact .inr (.inl rfl) | exact .inr (.inr ⟨_, rfl⟩) | cases h
noncomputable def entriesA (S : Hp) (x : AV) : Option (List (AV × AV × Nat)) :=
  match x with
  | .nilm => some []
  | .mp b => (match T.get b S.hp with | some (.map es _) => some es | _ => none)
  | _ => none
noncomputable def lookupA (E : Env) (S : Hp) (t : Nat) (x k : AV) (ok : Bool) : Option AV :=
  match und E t with
  | some (.map kt et) => (match und E kt, entriesA S x with
      | some kd, some es => (match simpleK kd, findA kd k es 0 with
        | true, some (some (_, v, _)) => some (Bool.rec v (.tup [v, .bool true]) ok)
        | true, some none => (match zeroA E et with | some z => some (Bool.rec z (.tup [z, .bool false]) ok) | none => none)
        | _, _ => none)
      | _, _ => none)
  | _ => none
include hE in
theorem run_findKey {kt : Nat} {kd : TypeDesc} (hk : und E kt = some kd) {k : AV} {k' : Value} (hv : VR γ k k') {es : List (AV × AV × Nat)} {es' : List MapEntry} (he : ER γ es es') {r : Option (Nat × AV × Nat)} (h : findA kd k es 0 = some r) (w : World) :
    (match r with
      | none => (Instr.findKey kt k' es').run E.P w = .ok none w
      | some (j, v, n) => ∃ v' key, (Instr.findKey kt k' es').run E.P w = .ok (some (j, v')) w ∧ VR γ v v' ∧ es'[j]? = some ⟨key, v', n⟩ ∧ Instr.sameNow kd k' key = some true ∧ j < es.length) := by
  have := findA_ok hv he 0 r h
  cases r with
  | none =>
    simp only [Instr.findKey, Sem.run_bind, run_und hE hk, Result.andThen_ok, this]; rfl
  | some q =>
    obtain ⟨j, v, n⟩ := q
    obtain ⟨v', key, h1, h2, h3, h4, h5, h6⟩ := this
    refine ⟨v', key, ?_, h2, by simpa using h4, h5, by simpa using h6⟩
    simp only [Instr.findKey, Sem.run_bind, run_und hE hk, Result.andThen_ok, h1]; rfl
theorem entriesA_ok {S : Hp} {ng : Nat} {w : World} (hH : HR γ ng S w) {x : AV} {es : List (AV × AV × Nat)} (h : entriesA S x = some es) {x' : Value} (hx : VR γ x x') :
    ∃ es', ER γ es es' ∧ ((x' = .map none ∧ es' = []) ∨ ∃ r clock, x' = .map (some r) ∧ w.heap[r]? = some (.map ⟨es'⟩ clock)) := by
  unfold entriesA at h
  split at h
  · cases h; cases hx; exact ⟨[], .nil, .inl ⟨rfl, rfl⟩⟩
  · rename_i b
    split at h
    · rename_i es2 clock hb
      cases h
      cases hx with
      | mp hL =>
        obtain ⟨es', h1, h2⟩ := hH.map hb hL
        exact ⟨es', h2, .inr ⟨_, clock, rfl, h1⟩⟩
    · cases h
  · cases h
include hE in
theorem run_lookup {t kt et : Nat} (hu : und E t = some (.map kt et)) {x' k' : Value} {es' : List MapEntry} {w : World} (h : (x' = .map none ∧ es' = []) ∨ ∃ r clock, x' = .map (some r) ∧ w.heap[r]? = some (.map ⟨es'⟩ clock)) (ok : Bool) :
    (Instr.lookup t x' k' ok).run E.P w = ((Instr.checkKey (⟨es'⟩ : Array MapEntry).isEmpty 10000 kt k').run E.P w).andThen fun _ w => ((Instr.findKey kt k' es').run E.P w).andThen fun r w => (match r with
      | some (_, v) => .ok (if ok then .tuple #[v, .bool true] else v) w
      | none => ((Go.zeroValue et).run E.P w).andThen fun v w => .ok (if ok then .tuple #[v, .bool false] else v) w) := by
  rcases h with ⟨rfl, rfl⟩ | ⟨r, clock, rfl, hr⟩
  · simp only [Instr.lookup, Sem.run_bind, run_und hE hu, Result.andThen_ok, Sem.run_pure]
    congr 1; funext _ w; congr 1; funext r w
    cases r with
    | none => simp only [Sem.run_bind, Sem.run_pure, Result.andThen_ok]
    | some q => rfl
  · simp only [Instr.lookup, Sem.run_bind, run_und hE hu, Result.andThen_ok, run_getObj hr (fun _ _ _ e => by cases e), Sem.run_pure]
    congr 1; funext _ w; congr 1; funext r w
    cases r with
    | none => simp only [Sem.run_bind, Sem.run_pure, Result.andThen_ok]
    | some q => rfl
include hE in
theorem lookupA_ok {S : Hp} {ng : Nat} {w : World} (hH : HR γ ng S w) {t : Nat} {x k r : AV} {ok : Bool} (h : lookupA E S t x k ok = some r) {x' k' : Value} (hx : VR γ x x') (hk : VR γ k k') :
    ∃ v, (Instr.lookup t x' k' ok).run E.P w = .ok v w ∧ VR γ r v := by
  unfold lookupA at h
  split at h
  · rename_i kt et hu
    split at h
    · rename_i kd es hkd hes
      obtain ⟨es', he1, he2⟩ := entriesA_ok hH hes hx
      split at h
      · rename_i j v n hsk hf
        cases h
        obtain ⟨v', key, h1, h2, _, _, _⟩ := run_findKey hE hkd hk he1 hf w
        refine ⟨if ok then .tuple #[v', .bool true] else v', ?_, ?_⟩
        · rw [run_lookup hE hu he2]
          simp only [Result.andThen_ok, run_checkKey (fun w => run_und hE hkd w) (simpleK_ok hsk), h1]
        · cases ok with
          | true => exact .tup (.cons h2 (.cons (.bool true) .nil))
          | false => exact h2
      · rename_i hsk hf
        split at h
        · rename_i z hz
          cases h
          have h1 := run_findKey hE hkd hk he1 hf w
          obtain ⟨v, hv, hr⟩ := run_zero hE hz γ
          refine ⟨if ok then .tuple #[v, .bool false] else v, ?_, ?_⟩
          · rw [run_lookup hE hu he2]
            simp only [Result.andThen_ok, run_checkKey (fun w => run_und hE hkd w) (simpleK_ok hsk), h1, hv]
          · cases ok with
            | true => exact .tup (.cons hr (.cons (.bool false) .nil))
            | false => exact hr
        · cases h
      · cases h
    · cases h
  · cases h

noncomputable def mapPut (es : List (AV × AV × Nat)) (clock : Nat) (k v : AV) (f : Option (Nat × AV × Nat)) : AO :=
  match f with
  | some (i, _, n) => .map (lset (k, v, n) es i) clock
  | none => .map (List.append es [(k, v, clock)]) (Nat.succ clock)
noncomputable def mapUpdateA (E : Env) (S : Hp) (t : Nat) (x k v : AV) : Option Hp :=
  match und E t, x with
  | some (.map kt _), .mp b => (match und E kt, T.get b S.hp, Nat.ble S.fl b.idx with
      | some kd, some (.map es clock), true => (match simpleK kd, findA kd k es 0 with
        | true, some f => some (S.put b (mapPut es clock k v f))
        | _, _ => none)
      | _, _, _ => none)
  | _, _ => none
theorem ER.append {a b : List (AV × AV × Nat)} {a' b' : List MapEntry} (h : ER γ a a') (k : ER γ b b') : ER γ (a ++ b) (a' ++ b') := by
  induction h with
  | nil => exact k
  | cons n hk hv _ ih => exact .cons n hk hv ih
theorem ER.set {l : List (AV × AV × Nat)} {l' : List MapEntry} (h : ER γ l l') (i : Nat) {k v : AV} {k' v' : Value} {n : Nat} (hk : VR γ k k') (hv : VR γ v v') : ER γ (l.set i (k, v, n)) (l'.set i ⟨k', v', n⟩) := by
  induction h generalizing i with
  | nil => exact .nil
  | cons m hk2 hv2 t ih => cases i with
    | zero => exact .cons n hk hv t
    | succ i => exact .cons m hk2 hv2 (ih i)
theorem sameBits_of {kd : TypeDesc} {a b : Value} (h : Instr.sameNow kd a b = some true) : Instr.sameBits 10000 b a = true := by
  unfold Instr.sameNow at h
  split at h
  · split at h
    · rename_i k l x y hk
      subst hk
      simp at h; subst h
      simp [Instr.sameBits]
    · cases h
  · rename_i a b
    have e : (a == b) = true := Option.some.inj h
    rw [bytes_beq, seq_iff] at e
    have := bytesOf_inj e
    subst this
    show (a == a) = true
    rw [bytes_beq, seq_iff]
  · simp at h; subst h; simp [Instr.sameBits]
  · cases h
include hE in
theorem mapUpdateA_ok {S S' : Hp} {ng : Nat} {t : Nat} {x k v : AV} (h : mapUpdateA E S t x k v = some S') {x' k' v' : Value} (hx : VR γ x x') (hk : VR γ k k') (hv : VR γ v v') : OutU E.P γ ng S (Instr.mapUpdate t x' k' v') S' := by
  intro w hH
  unfold mapUpdateA at h
  split at h
  · rename_i kt et b hu
    split at h
    · rename_i kd es clock hkd hb hfl
      split at h
      · rename_i f hsk hf
        cases h
        cases hx with
        | @mp _ L hL =>
          obtain ⟨es', h1, h2⟩ := hH.map hb hL
          have hlt := (Array.getElem?_eq_some_iff.1 h1).1
          have hset : ∀ (o : Obj), (Go.setObj L.blk o).run E.P w = .ok () { w with heap := w.heap.setIfInBounds L.blk o } := by
            intro o
            simp only [Go.setObj, Sem.run, h1]
          have hput : ∀ (o : AO) (ob : Obj), OR γ L o ob → HR γ ng (S.put b o) { w with heap := w.heap.setIfInBounds L.blk ob } ∧ Pres S γ w (S.put b o) γ { w with heap := w.heap.setIfInBounds L.blk ob } := by
            intro o ob ho
            refine hH.put hb hL (Nat.le_of_ble_eq_true hfl) (by simp) (fun r hr => Array.getElem?_setIfInBounds_ne (fun e => hr e.symm)) ?_ ho rfl rfl
            show (w.heap.setIfInBounds L.blk ob)[L.blk]? = _
            rw [Array.getElem?_setIfInBounds_self, if_pos hlt]
          have hrf := run_findKey hE hkd hk h2 hf w
          cases f with
          | none =>
            refine ⟨γ, _, ?_, hput _ (.map ⟨es' ++ [⟨k', v', clock⟩]⟩ (clock + 1)) ⟨_, rfl, h2.append (.cons clock hk hv .nil)⟩⟩
            simp only [Instr.mapUpdate, Sem.run_bind, run_und hE hu, Result.andThen_ok, run_getObj h1 (fun _ _ _ e => by cases e), run_checkKey (fun w => run_und hE hkd w) (simpleK_ok hsk), hrf, hset]
            simp
          | some q =>
            obtain ⟨j, u, n⟩ := q
            obtain ⟨u', key, g1, g2, g3, g4, g5⟩ := hrf
            refine ⟨γ, _, ?_, hput _ (.map ⟨es'.set j ⟨k', v', n⟩⟩ clock) ⟨_, rfl, by rw [lset_eq]; exact h2.set j hk hv⟩⟩
            simp only [Instr.mapUpdate, Sem.run_bind, run_und hE hu, Result.andThen_ok, run_getObj h1 (fun _ _ _ e => by cases e), run_checkKey (fun w => run_und hE hkd w) (simpleK_ok hsk), g1]
            have e1 : (((⟨es'⟩ : Array MapEntry)[j]?).map (·.key)).getD k' = key := by simp [g3]
            rw [e1]
            simp only [Instr.keyThatStays, sameBits_of g4, if_true, Sem.run_pure, Result.andThen_ok, hset]
            congr 4
            apply Array.ext_getElem?
            intro r
            rw [Array.getElem?_modify]
            by_cases er : j = r
            · subst er
              rw [if_pos rfl]
              simp [g3]
              have := (List.getElem?_eq_some_iff.1 g3).1
              rw [List.getElem?_set_self this]
            · rw [if_neg er]
              simp [List.getElem?_set_ne er]
      · cases h
    · cases h
  · cases h
theorem makeMap_ok {P : Program} {S : Hp} {ng : Nat} {t : Nat} : Out P γ ng S (Instr.makeMap t none) (.mp S.nx) (S.alloc (.map [] 0)) := by
  intro w hH
  obtain ⟨h1, h2⟩ := hH.alloc (w' := { w with heap := w.heap.push (.map #[] 0) }) (ob := .map #[] 0) (siz := 0) (o := .map [] 0) rfl rfl rfl ⟨[], rfl, .nil⟩
  refine ⟨_, .map (some w.heap.size), _, ?_, .mp (L := ⟨w.heap.size, 0, 0⟩) (Gm.with_same _ _ _), h1, h2⟩
  simp only [Instr.makeMap, Sem.run_bind, Sem.run_pure, run_newObj, Result.andThen_ok]
end
end Go.AM
