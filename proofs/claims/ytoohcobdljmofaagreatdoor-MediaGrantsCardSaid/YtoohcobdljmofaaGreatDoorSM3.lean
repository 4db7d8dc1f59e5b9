/-
  A machine over abstract values, sound for the model's machine: part 3 (A15, A15c, A15d, A16, A17). Conditions: none of the program's; it is shown for every program.
-/
import Derived.Test.YtoohcobdljmofaaGreatDoorSM2
import Derived.Laws.BytesString
import Derived.Lib.UnsafeStr
/-! A15: Maps; copy; type assertions; values of functions and interfaces. -/
namespace Go.AM

section
variable {E : Env} (hE : E.Ok) {γ : Gm}

inductive KQ where | no | int | str | bool
noncomputable def kq (kd : TypeDesc) : KQ :=
  TypeDesc.rec .no .bool (fun _ => .int) (fun _ => .no) (fun _ => .no) .str .no (fun _ => .no) (fun _ => .no) (fun _ _ => .no) (fun _ _ => .no) (fun _ _ => .no) (fun _ => .no) (fun _ _ _ => .no) (fun _ => .no) (fun _ => .no) (fun _ _ => .no) kd
noncomputable def sameI (a b : AV) : Option Bool := Option.rec none (fun p => Option.rec none (fun q => Bool.rec none (some (ieq p.2 q.2)) (Nat.beq (kno p.1) (kno q.1))) (intOf b)) (intOf a)
noncomputable def sameS (a b : AV) : Option Bool := Option.rec none (fun p => Option.rec none (fun q => some (seq p q)) (strOf b)) (strOf a)
noncomputable def sameB (a b : AV) : Option Bool := Option.rec none (fun p => Option.rec none (fun q => some (p == q)) (boolOf b)) (boolOf a)
noncomputable def sameN (_ _ : AV) : Option Bool := none
noncomputable def sameA (kd : TypeDesc) (a b : AV) : Option Bool := KQ.rec sameN sameI sameS sameB (kq kd) a b
noncomputable def sameA0 (kd : TypeDesc) (a b : AV) : Option Bool :=
  match kd with
  | .int _ => (match a, b with | .int k x, .int l y => Bool.rec none (some (ieq x y)) (Nat.beq (kno k) (kno l)) | _, _ => none)
  | .string => (match a, b with | .str x, .str y => some (seq x y) | _, _ => none)
  | .bool => (match a, b with | .bool x, .bool y => some (x == y) | _, _ => none)
  | _ => none
theorem sameA_eq (kd : TypeDesc) (a b : AV) : sameA kd a b = sameA0 kd a b := by
  cases kd <;> first
    | rfl
    | (cases a <;> first
        | rfl
        | (cases b <;> rfl))
theorem bytes_beq (a b : ByteArray) : (a == b) = seq (bytesOf a) (bytesOf b) := by rw [beq_toListBytes, bytes_toList_beq]
theorem sameA_ok {kd : TypeDesc} {a b : AV} {r : Bool} (h : sameA kd a b = some r) {a' b' : Value} (ha : VR γ a a') (hb : VR γ b b') : Instr.sameNow kd a' b' = some r := by
  rw [sameA_eq] at h; unfold sameA0 at h
  split at h
  · split at h
    · rename_i k x l y
      obtain ⟨hk, h2⟩ := rec_some h
      have := kno_inj hk
      subst this
      cases h2; cases ha; cases hb
      simp [Instr.sameNow, ieq_eq]
    · cases h
  · split at h
    · cases h; cases ha; cases hb
      simp only [Instr.sameNow]
      rw [bytes_beq]
    · cases h
  · split at h
    · cases h; cases ha; cases hb; rfl
    · cases h
  · cases h
noncomputable def findA (kd : TypeDesc) (k : AV) (es : List (AV × AV × Nat)) : Nat → Option (Option (Nat × AV × Nat)) :=
  List.rec (motive := fun _ => Nat → Option (Option (Nat × AV × Nat))) (fun _ => some none) (fun e _ ih i =>
    match sameA kd k e.1 with
    | some true => some (some (i, e.2.1, e.2.2))
    | some false => ih (Nat.succ i)
    | none => none) es
theorem findA_ok {kd : TypeDesc} {k : AV} {k' : Value} (hk : VR γ k k') {es : List (AV × AV × Nat)} {es' : List MapEntry} (he : ER γ es es') : ∀ (i : Nat) (r : Option (Nat × AV × Nat)), findA kd k es i = some r →
    (match r with
      | none => Instr.findNow kd k' es' i = some none
      | some (j, v, n) => ∃ v' key, Instr.findNow kd k' es' i = some (some (j, v')) ∧ VR γ v v' ∧ i ≤ j ∧ es'[j - i]? = some ⟨key, v', n⟩ ∧ Instr.sameNow kd k' key = some true ∧ j - i < es.length) := by
  induction he with
  | nil => intro i r h; cases h; rfl
  | @cons a v a' v' l l' n hk2 hv t ih =>
    intro i r h
    have h' : (match sameA kd k a with | some true => some (some (i, v, n)) | some false => findA kd k l (i + 1) | none => none) = some r := h
    cases hs : sameA kd k a with
    | none => rw [hs] at h'; cases h'
    | some b =>
      rw [hs] at h'
      have hs2 := sameA_ok hs hk hk2
      cases b with
      | true =>
        cases h'
        refine ⟨v', a', ?_, hv, Nat.le_refl _, by simp, hs2, by simp⟩
        simp only [Instr.findNow, hs2]
      | false =>
        have := ih (i + 1) r h'
        cases r with
        | none =>
          simp only [Instr.findNow, hs2]
          exact this
        | some q =>
          obtain ⟨j, v2, m⟩ := q
          obtain ⟨v3, key, h1, h2, h3, h4, h5, h6⟩ := this
          refine ⟨v3, key, by simp only [Instr.findNow, hs2]; exact h1, h2, by omega, ?_, h5, ?_⟩
          · rw [show j - i = (j - (i + 1)) + 1 from by omega]; simpa using h4
          · simp only [List.length_cons]; omega
theorem run_checkKeyN {P : Program} {t : TypeId} {kd : TypeDesc} (hu : ∀ w, (Go.underlying t).run P w = .ok kd w) (hk : kd = .string ∨ kd = .bool ∨ ∃ k, kd = .int k) (b : Bool) (n : Nat) (v : Value) (w : World) : (Instr.checkKey b (n + 1) t v).run P w = .ok () w := by
  simp only [Instr.checkKey, Sem.run_bind, hu, Result.andThen_ok]
  rcases hk with rfl | rfl | ⟨k, rfl⟩ <;> rfl
theorem run_checkKey {P : Program} {t : TypeId} {kd : TypeDesc} (hu : ∀ w, (Go.underlying t).run P w = .ok kd w) (hk : kd = .string ∨ kd = .bool ∨ ∃ k, kd = .int k) (b : Bool) (v : Value) (w : World) : (Instr.checkKey b 10000 t v).run P w = .ok () w :=
  run_checkKeyN hu hk b 9999 v w
theorem sameA_kd {kd : TypeDesc} {a b : AV} {r : Bool} (h : sameA kd a b = some r) : kd = .string ∨ kd = .bool ∨ ∃ k, kd = .int k := by
  rw [sameA_eq] at h; unfold sameA0 at h
  split at h
  · exact .inr (.inr ⟨_, rfl⟩)
  · exact .inl rfl
  · exact .inr (.inl rfl)
  · cases h
noncomputable def simpleK (kd : TypeDesc) : Bool := match kd with | .int _ => true | .string => true | .bool => true | _ => false
theorem simpleK_ok {kd : TypeDesc} (h : simpleK kd = true) : kd = .string ∨ kd = .bool ∨ ∃ k, kd = .int k := by
  cases kd <;> first | exact .inl rfl | exact .inr (.inl rfl) | exact .inr (.inr ⟨_, rfl⟩) | cases h
noncomputable def entriesA (S : Hp) (x : AV) : Option (List (AV × AV × Nat)) :=
  match x with
  | .nilm => some []
  | .mp b => (match T.get b S.hp with | some (.map es _) => some es | _ => none)
  | _ => none
noncomputable def lookupA (E : Env) (S : Hp) (t : Nat) (x k : AV) (ok : Bool) : Option AV :=
  match und E t with
  | some (.map kt et) => (match und E kt, entriesA S x with
      | some kd, some es => (match simpleK kd, findA kd k es 0 with
        | true, some (some (_, v, _)) => some (Bool.rec v (.tup [v, .bool true]) ok)
        | true, some none => (match zeroA E et with | some z => some (Bool.rec z (.tup [z, .bool false]) ok) | none => none)
        | _, _ => none)
      | _, _ => none)
  | _ => none
include hE in
theorem run_findKey {kt : Nat} {kd : TypeDesc} (hk : und E kt = some kd) {k : AV} {k' : Value} (hv : VR γ k k') {es : List (AV × AV × Nat)} {es' : List MapEntry} (he : ER γ es es') {r : Option (Nat × AV × Nat)} (h : findA kd k es 0 = some r) (w : World) :
    (match r with
      | none => (Instr.findKey kt k' es').run E.P w = .ok none w
      | some (j, v, n) => ∃ v' key, (Instr.findKey kt k' es').run E.P w = .ok (some (j, v')) w ∧ VR γ v v' ∧ es'[j]? = some ⟨key, v', n⟩ ∧ Instr.sameNow kd k' key = some true ∧ j < es.length) := by
  have := findA_ok hv he 0 r h
  cases r with
  | none =>
    simp only [Instr.findKey, Sem.run_bind, run_und hE hk, Result.andThen_ok, this]; rfl
  | some q =>
    obtain ⟨j, v, n⟩ := q
    obtain ⟨v', key, h1, h2, h3, h4, h5, h6⟩ := this
    refine ⟨v', key, ?_, h2, by simpa using h4, h5, by simpa using h6⟩
    simp only [Instr.findKey, Sem.run_bind, run_und hE hk, Result.andThen_ok, h1]; rfl
theorem entriesA_ok {S : Hp} {ng : Nat} {w : World} (hH : HR γ ng S w) {x : AV} {es : List (AV × AV × Nat)} (h : entriesA S x = some es) {x' : Value} (hx : VR γ x x') :
    ∃ es', ER γ es es' ∧ ((x' = .map none ∧ es' = []) ∨ ∃ r clock, x' = .map (some r) ∧ w.heap[r]? = some (.map ⟨es'⟩ clock)) := by
  unfold entriesA at h
  split at h
  · cases h; cases hx; exact ⟨[], .nil, .inl ⟨rfl, rfl⟩⟩
  · rename_i b
    split at h
    · rename_i es2 clock hb
      cases h
      cases hx with
      | mp hL =>
        obtain ⟨es', h1, h2⟩ := hH.map hb hL
        exact ⟨es', h2, .inr ⟨_, clock, rfl, h1⟩⟩
    · cases h
  · cases h
include hE in
theorem run_lookup {t kt et : Nat} (hu : und E t = some (.map kt et)) {x' k' : Value} {es' : List MapEntry} {w : World} (h : (x' = .map none ∧ es' = []) ∨ ∃ r clock, x' = .map (some r) ∧ w.heap[r]? = some (.map ⟨es'⟩ clock)) (ok : Bool) :
    (Instr.lookup t x' k' ok).run E.P w = ((Instr.checkKey (⟨es'⟩ : Array MapEntry).isEmpty 10000 kt k').run E.P w).andThen fun _ w => ((Instr.findKey kt k' es').run E.P w).andThen fun r w => (match r with
      | some (_, v) => .ok (if ok then .tuple #[v, .bool true] else v) w
      | none => ((Go.zeroValue et).run E.P w).andThen fun v w => .ok (if ok then .tuple #[v, .bool false] else v) w) := by
  rcases h with ⟨rfl, rfl⟩ | ⟨r, clock, rfl, hr⟩
  · simp only [Instr.lookup, Sem.run_bind, run_und hE hu, Result.andThen_ok, Sem.run_pure]
    congr 1; funext _ w; congr 1; funext r w
    cases r with
    | none => simp only [Sem.run_bind, Sem.run_pure, Result.andThen_ok]
    | some q => rfl
  · simp only [Instr.lookup, Sem.run_bind, run_und hE hu, Result.andThen_ok, run_getObj hr (fun _ _ _ e => by cases e), Sem.run_pure]
    congr 1; funext _ w; congr 1; funext r w
    cases r with
    | none => simp only [Sem.run_bind, Sem.run_pure, Result.andThen_ok]
    | some q => rfl
include hE in
theorem lookupA_ok {S : Hp} {ng : Nat} {w : World} (hH : HR γ ng S w) {t : Nat} {x k r : AV} {ok : Bool} (h : lookupA E S t x k ok = some r) {x' k' : Value} (hx : VR γ x x') (hk : VR γ k k') :
    ∃ v, (Instr.lookup t x' k' ok).run E.P w = .ok v w ∧ VR γ r v := by
  unfold lookupA at h
  split at h
  · rename_i kt et hu
    split at h
    · rename_i kd es hkd hes
      obtain ⟨es', he1, he2⟩ := entriesA_ok hH hes hx
      split at h
      · rename_i j v n hsk hf
        cases h
        obtain ⟨v', key, h1, h2, _, _, _⟩ := run_findKey hE hkd hk he1 hf w
        refine ⟨if ok then .tuple #[v', .bool true] else v', ?_, ?_⟩
        · rw [run_lookup hE hu he2]
          simp only [Result.andThen_ok, run_checkKey (fun w => run_und hE hkd w) (simpleK_ok hsk), h1]
        · cases ok with
          | true => exact .tup (.cons h2 (.cons (.bool true) .nil))
          | false => exact h2
      · rename_i hsk hf
        split at h
        · rename_i z hz
          cases h
          have h1 := run_findKey hE hkd hk he1 hf w
          obtain ⟨v, hv, hr⟩ := run_zero hE hz γ
          refine ⟨if ok then .tuple #[v, .bool false] else v, ?_, ?_⟩
          · rw [run_lookup hE hu he2]
            simp only [Result.andThen_ok, run_checkKey (fun w => run_und hE hkd w) (simpleK_ok hsk), h1, hv]
          · cases ok with
            | true => exact .tup (.cons hr (.cons (.bool false) .nil))
            | false => exact hr
        · cases h
      · cases h
    · cases h
  · cases h

noncomputable def mapPut (es : List (AV × AV × Nat)) (clock : Nat) (k v : AV) (f : Option (Nat × AV × Nat)) : AO :=
  match f with
  | some (i, _, n) => .map (lset (k, v, n) es i) clock
  | none => .map (List.append es [(k, v, clock)]) (Nat.succ clock)
noncomputable def mapUpdateA (E : Env) (S : Hp) (t : Nat) (x k v : AV) : Option Hp :=
  match und E t, x with
  | some (.map kt _), .mp b => (match und E kt, T.get b S.hp, Nat.ble S.fl b.idx with
      | some kd, some (.map es clock), true => (match simpleK kd, findA kd k es 0 with
        | true, some f => some (S.put b (mapPut es clock k v f))
        | _, _ => none)
      | _, _, _ => none)
  | _, _ => none
theorem ER.append {a b : List (AV × AV × Nat)} {a' b' : List MapEntry} (h : ER γ a a') (k : ER γ b b') : ER γ (a ++ b) (a' ++ b') := by
  induction h with
  | nil => exact k
  | cons n hk hv _ ih => exact .cons n hk hv ih
theorem ER.set {l : List (AV × AV × Nat)} {l' : List MapEntry} (h : ER γ l l') (i : Nat) {k v : AV} {k' v' : Value} {n : Nat} (hk : VR γ k k') (hv : VR γ v v') : ER γ (l.set i (k, v, n)) (l'.set i ⟨k', v', n⟩) := by
  induction h generalizing i with
  | nil => exact .nil
  | cons m hk2 hv2 t ih => cases i with
    | zero => exact .cons n hk hv t
    | succ i => exact .cons m hk2 hv2 (ih i)
theorem sameBits_of {kd : TypeDesc} {a b : Value} (h : Instr.sameNow kd a b = some true) : Instr.sameBits 10000 b a = true := by
  unfold Instr.sameNow at h
  split at h
  · split at h
    · rename_i k l x y hk
      subst hk
      simp at h; subst h
      simp [Instr.sameBits]
    · cases h
  · rename_i a b
    have e : (a == b) = true := Option.some.inj h
    rw [bytes_beq, seq_iff] at e
    have := bytesOf_inj e
    subst this
    show (a == a) = true
    rw [bytes_beq, seq_iff]
  · simp at h; subst h; simp [Instr.sameBits]
  · cases h
include hE in
theorem mapUpdateA_ok {S S' : Hp} {ng : Nat} {t : Nat} {x k v : AV} (h : mapUpdateA E S t x k v = some S') {x' k' v' : Value} (hx : VR γ x x') (hk : VR γ k k') (hv : VR γ v v') : OutU E.P γ ng S (Instr.mapUpdate t x' k' v') S' := by
  intro w hH
  unfold mapUpdateA at h
  split at h
  · rename_i kt et b hu
    split at h
    · rename_i kd es clock hkd hb hfl
      split at h
      · rename_i f hsk hf
        cases h
        cases hx with
        | @mp _ L hL =>
          obtain ⟨es', h1, h2⟩ := hH.map hb hL
          have hlt := (Array.getElem?_eq_some_iff.1 h1).1
          have hset : ∀ (o : Obj), (Go.setObj L.blk o).run E.P w = .ok () { w with heap := w.heap.setIfInBounds L.blk o } := by
            intro o
            simp only [Go.setObj, Sem.run, h1]
          have hput : ∀ (o : AO) (ob : Obj), OR γ L o ob → HR γ ng (S.put b o) { w with heap := w.heap.setIfInBounds L.blk ob } ∧ Pres S γ w (S.put b o) γ { w with heap := w.heap.setIfInBounds L.blk ob } := by
            intro o ob ho
            refine hH.put hb hL (Nat.le_of_ble_eq_true hfl) (by simp) (fun r hr => Array.getElem?_setIfInBounds_ne (fun e => hr e.symm)) ?_ ho rfl rfl
            show (w.heap.setIfInBounds L.blk ob)[L.blk]? = _
            rw [Array.getElem?_setIfInBounds_self, if_pos hlt]
          have hrf := run_findKey hE hkd hk h2 hf w
          cases f with
          | none =>
            refine ⟨γ, _, ?_, hput _ (.map ⟨es' ++ [⟨k', v', clock⟩]⟩ (clock + 1)) ⟨_, rfl, h2.append (.cons clock hk hv .nil)⟩⟩
            simp only [Instr.mapUpdate, Sem.run_bind, run_und hE hu, Result.andThen_ok, run_getObj h1 (fun _ _ _ e => by cases e), run_checkKey (fun w => run_und hE hkd w) (simpleK_ok hsk), hrf, hset]
            simp
          | some q =>
            obtain ⟨j, u, n⟩ := q
            obtain ⟨u', key, g1, g2, g3, g4, g5⟩ := hrf
            refine ⟨γ, _, ?_, hput _ (.map ⟨es'.set j ⟨k', v', n⟩⟩ clock) ⟨_, rfl, by rw [lset_eq]; exact h2.set j hk hv⟩⟩
            simp only [Instr.mapUpdate, Sem.run_bind, run_und hE hu, Result.andThen_ok, run_getObj h1 (fun _ _ _ e => by cases e), run_checkKey (fun w => run_und hE hkd w) (simpleK_ok hsk), g1]
            have e1 : (((⟨es'⟩ : Array MapEntry)[j]?).map (·.key)).getD k' = key := by simp [g3]
            rw [e1]
            simp only [Instr.keyThatStays, sameBits_of g4, if_true, Sem.run_pure, Result.andThen_ok, hset]
            congr 4
            apply Array.ext_getElem?
            intro r
            rw [Array.getElem?_modify]
            by_cases er : j = r
            · subst er
              rw [if_pos rfl]
              simp [g3]
              have := (List.getElem?_eq_some_iff.1 g3).1
              rw [List.getElem?_set_self this]
            · rw [if_neg er]
              simp [List.getElem?_set_ne er]
      · cases h
    · cases h
  · cases h
theorem makeMap_ok {P : Program} {S : Hp} {ng : Nat} {t : Nat} : Out P γ ng S (Instr.makeMap t none) (.mp S.nx) (S.alloc (.map [] 0)) := by
  intro w hH
  obtain ⟨h1, h2⟩ := hH.alloc (w' := { w with heap := w.heap.push (.map #[] 0) }) (ob := .map #[] 0) (siz := 0) (o := .map [] 0) rfl rfl rfl ⟨[], rfl, .nil⟩
  refine ⟨_, .map (some w.heap.size), _, ?_, .mp (L := ⟨w.heap.size, 0, 0⟩) (Gm.with_same _ _ _), h1, h2⟩
  simp only [Instr.makeMap, Sem.run_bind, Sem.run_pure, run_newObj, Result.andThen_ok]
end
end Go.AM

/-! A15c: The string of a slice of bytes. -/
namespace Go.AM

noncomputable def byt (x : AV) : Option Nat := match x with | .int .u8 z => Int.rec (fun n => Bool.rec none (some n) (Nat.blt n 256)) (fun _ => none) z | _ => none
noncomputable def bys (l : List AV) : Option (List Nat) := List.rec (some []) (fun x _ ih => Option.rec none (fun n => Option.rec none (fun t => some (n :: t)) ih) (byt x)) l
theorem byt_ok {γ : Gm} {x : AV} {n : Nat} (h : byt x = some n) {v : Value} (hx : VR γ x v) : v = .int .u8 (Int.ofNat n) ∧ n < 256 := by
  unfold byt at h
  split at h
  · rename_i z
    cases z with
    | ofNat m =>
      obtain ⟨h1, h2⟩ := rec_some (b := Nat.blt m 256) h
      cases h2
      rw [nat_blt_decide] at h1
      cases hx
      exact ⟨rfl, of_decide_eq_true h1⟩
    | negSucc m => cases h
  · cases h
theorem bys_ok {γ : Gm} : ∀ {l : List AV} {r : List Nat}, bys l = some r → ∀ {vs : List Value}, LR γ l vs → vs = (r.map Int.ofNat).map (Value.int .u8) ∧ ∀ n ∈ r, n < 256
  | [], r, h, vs, hl => by cases h; cases hl; exact ⟨rfl, fun n hn => by cases hn⟩
  | x :: l, r, h, vs, hl => by
    have h' : (Option.rec none (fun n => Option.rec none (fun t => some (n :: t)) (bys l)) (byt x) : Option (List Nat)) = some r := h
    cases h1 : byt x with
    | none => rw [h1] at h'; cases h'
    | some n =>
      rw [h1] at h'
      cases h2 : bys l with
      | none => rw [h2] at h'; cases h'
      | some t =>
        rw [h2] at h'; cases h'
        cases hl with
        | cons hx ht =>
          obtain ⟨e1, e2⟩ := byt_ok h1 hx
          obtain ⟨e3, e4⟩ := bys_ok h2 ht
          refine ⟨by rw [e1, e3]; rfl, fun m hm => ?_⟩
          rcases List.mem_cons.1 hm with rfl | hm
          · exact e2
          · exact e4 m hm
theorem bytes_push : ∀ (r : List Nat) (s : ByteArray), (∀ n ∈ r, n < 256) → bytesOf ((r.map Int.ofNat).foldl (fun r n => r.push (UInt8.ofNat n.toNat)) s) = bytesOf s ++ r
  | [], s, _ => by simp
  | n :: r, s, h => by
    rw [List.map_cons, List.foldl_cons, bytes_push r _ (fun m hm => h m (List.mem_cons_of_mem _ hm))]
    have hn := h n (List.mem_cons_self ..)
    have : bytesOf (s.push (UInt8.ofNat (Int.ofNat n).toNat)) = bytesOf s ++ [n] := by
      unfold bytesOf
      simp [ByteArray.push, Nat.mod_eq_of_lt hn]
    rw [this]; simp
/-- the bytes of a slice -/
theorem rec1_ok {α β : Type} {o : Option α} {f : α → Option β} {r : β} (h : (Option.rec none f o : Option β) = some r) : ∃ x, o = some x ∧ f x = some r := by
  cases o with
  | none => cases h
  | some x => exact ⟨x, rfl, h⟩
noncomputable def rdB (S : Hp) (x : AV) : Option (List Nat) :=
  match x with
  | .nils => some []
  | .sl b o len _ => (match T.get b S.hp with | some (.cells c _ _ _ _ _) => Option.rec none bys (ltake len (ldrop o c)) | _ => none)
  | .su b o len _ => (match T.get b S.hp with | some (.cells c _ _ _ _ _) => Option.rec none bys (ltake len (ldrop o c)) | _ => none)
  | _ => none
noncomputable def isSl (x : AV) : Bool := match x with | .nils => true | .sl _ _ _ _ => true | .su _ _ _ _ => true | _ => false
noncomputable def conv2 (E : Env) (S : Hp) (s d : Nat) (x : AV) : Option AV :=
  match isSl x with
  | false => convA E s d x
  | true => (match und E s, und E d with
    | some (.slice e), some .string => (match und E e with | some (.int .u8) => Option.rec none (fun l => some (.str l)) (rdB S x) | _ => none)
    | _, _ => none)
theorem conv2_ok {E : Env} (hE : E.Ok) {γ : Gm} {S : Hp} {w : World} (hH : HR γ E.ng S w) {s d : Nat} {x r : AV} (h : conv2 E S s d x = some r) {x' : Value} (hx : VR γ x x') : ∃ v, (convert s d x').run E.P w = .ok v w ∧ VR γ r v := by
  unfold conv2 at h
  split at h
  · obtain ⟨v, h1, h2⟩ := convA_ok hE h hx w
    exact ⟨v, h1, h2⟩
  · split at h
    · rename_i e h1 h2
      split at h
      · rename_i h3
        obtain ⟨l, h4, h5⟩ := rec1_ok (o := rdB S x) h
        cases h5
        have key : ∀ (b : Ps) (o len cap : Nat) (L : Loc), γ b = some L → (match T.get b S.hp with | some (.cells c _ _ _ _ _) => Option.rec none bys (ltake len (ldrop o c)) | _ => (none : Option (List Nat))) = some l →
            ∃ v, (convert s d (.slice (some ⟨L.blk, L.off + o, none⟩) len cap)).run E.P w = .ok v w ∧ VR γ (.str l) v := by
          intro b o len cap L hL hb
          split at hb
          · rename_i c elem ex sty lo hi hg
            obtain ⟨l2, g1, g2⟩ := rec1_ok (o := ltake len (ldrop o c)) hb
            obtain ⟨vs, g3, g4, g5⟩ := hH.range hg hL g1 E.P
            obtain ⟨g6, g7⟩ := bys_ok g2 g4
            have hr := run_bytesToString (P := E.P) w ⟨L.blk, L.off + o, none⟩ len cap (l.map Int.ofNat) (by rw [g3, g6])
            refine ⟨_, (run_convert_bytes_string w s d e _ len cap (und_ok hE h1) (und_ok hE h3) (und_ok hE h2)).trans hr, ?_⟩
            have := bytes_push l ByteArray.empty g7
            have h0 : bytesOf ByteArray.empty = [] := rfl
            rw [h0, List.nil_append] at this
            have hv := VR.str (γ := γ) ((l.map Int.ofNat).foldl (fun r n => r.push (UInt8.ofNat n.toNat)) ByteArray.empty)
            rw [this] at hv
            exact hv
          · cases hb
        cases hx with
        | nils =>
          cases h4
          refine ⟨.string ByteArray.empty, ?_, VR.str ByteArray.empty⟩
          rw [run_convert_bytes_string w s d e _ 0 0 (und_ok hE h1) (und_ok hE h3) (und_ok hE h2)]
          rfl
        | sl o len cap hL => exact key _ o len cap _ hL h4
        | su o len cap z hL _ _ _ => exact key _ o len cap _ hL h4
        | _ => cases h4
      · cases h
    · cases h
end Go.AM

/-! A15d: Pointers without a type; the string of a row of bytes. -/
namespace Go.AM

theorem lies_gen {P : Program} {e : TypeId} (hs : P.cellsOf e ≠ 0) (count off n : Nat) (hr : off % P.cellsOf e = 0) (hn : off / P.cellsOf e + n ≤ count) : liesAt P P.depth e count off e n = true := by
  have hd : P.depth = (2 * (P.types.size + Made.depth) + 1) + 1 := rfl
  rw [hd]
  simp only [liesAt, Bool.or_eq_true]
  left
  rw [hd]
  simp [rowAt, hs, hr, hn, sameLayout]

/-! unsafe.Pointer -/
noncomputable def ptrTo (E : Env) (S : Hp) (t : Nat) (x : AV) : Option AV :=
  match x with
  | .nilp => some .nilp
  | .ptr b o => (match T.get b S.hp, sizeA E t with
      | some (.cells c _ _ _ _ _), some (_ + 1) => Bool.rec none (some (.ptr b o)) (Nat.blt o c.length)
      | _, _ => none)
  | _ => none
noncomputable def ptrFrom (E : Env) (S : Hp) (u : Nat) (x : AV) : Option AV :=
  match x with
  | .nilp => some .nilp
  | .ptr b 0 => (match T.get b S.hp, sizeA E u with
      | some (.cells c elem true _ _ _), some (_ + 1) => (match Nat.beq elem u, Nat.beq (E.P.cellsOf u) 0, Nat.ble 1 (Nat.div c.length (E.P.cellsOf u)) with
          | true, false, true => some (.ptr b 0)
          | _, _, _ => none)
      | _, _ => none)
  | _ => none
noncomputable def conv3 (E : Env) (S : Hp) (s d : Nat) (x : AV) : Option AV :=
  match und E s, und E d with
  | some (.pointer t), some .unsafePointer => ptrTo E S t x
  | some .unsafePointer, some (.pointer u) => ptrFrom E S u x
  | _, _ => conv2 E S s d x

section
variable {E : Env} (hE : E.Ok) {γ : Gm} {S : Hp} {w : World}
theorem HR.cellsAt (hH : HR γ E.ng S w) {b : Ps} {c : List AV} {elem lo hi : Nat} {ex sty : Bool} {L : Loc} (hb : T.get b S.hp = some (.cells c elem ex sty lo hi)) (hL : γ b = some L) :
    ∃ pre cs post fz, w.heap[L.blk]? = some (.cells ⟨pre ++ cs ++ post⟩ elem fz) ∧ pre.length = L.off ∧ (pre ++ cs ++ post).length = L.siz ∧ LR γ c cs ∧ FzR L sty lo hi fz ∧ hi ≤ c.length ∧ (ex = true → pre = [] ∧ post = []) := by
  obtain ⟨M, ob, h1, h2, pre, cs, post, fz, rfl, h3⟩ := hH.obj b _ hb
  rw [hL] at h1; cases h1
  exact ⟨pre, cs, post, fz, h2, h3⟩
theorem shape_of {r : Nat} {c : Array Value} {e : TypeId} {fz : Nat × Nat} (h : w.heap[r]? = some (.cells c e fz)) : w.shape? r = some (e, c.size) := by
  unfold World.shape?; rw [h]
theorem run_viewAt {P : Program} {r : Nat} {sh : TypeId × Nat} (h : w.shape? r = some sh) : (Go.viewAt r).run P w = .ok none w := by
  simp [Go.viewAt, h]
theorem run_seenAt {P : Program} {a : Addr} {sh : TypeId × Nat} (h : w.shape? a.block = some sh) : (Conv.seenAt a).run P w = .ok a w := by
  simp [Conv.seenAt, run_viewAt h]
include hE in
theorem ptrTo_ok (hH : HR γ E.ng S w) {s d t : Nat} (hs : und E s = some (.pointer t)) (hd : und E d = some .unsafePointer) {x r : AV} (h : ptrTo E S t x = some r) {x' : Value} (hx : VR γ x x') :
    ∃ v, (convert s d x').run E.P w = .ok v w ∧ VR γ r v := by
  unfold ptrTo at h
  split at h
  · cases h; cases hx
    refine ⟨.pointer none, ?_, .nilp⟩
    simp [convert, Conv.unsafePointer, run_und hE hs, run_und hE hd]
  · rename_i b o
    split at h
    · rename_i c elem ex sty lo hi n hb hz
      obtain ⟨h1, h2⟩ := rec_some h
      cases h2
      cases hx with
      | @ptr _ L _ hL =>
        obtain ⟨pre, cs, post, fz, g1, g2, g3, g4, g5, g6, g7⟩ := hH.cellsAt hb hL
        have hsh := shape_of g1
        have hlt : o < c.length := by rw [nat_blt_decide] at h1; exact of_decide_eq_true h1
        have hl := g4.length
        have hlt2 : ¬ (pre ++ cs ++ post).length ≤ L.off + o := by simp; omega
        refine ⟨.pointer (some ⟨L.blk, L.off + o, none⟩), ?_, .ptr o hL⟩
        have hse := run_seenAt (P := E.P) (w := w) (a := ⟨L.blk, L.off + o, none⟩) hsh
        have hci : (Go.cellsIn L.blk).run E.P w = .ok (some (pre ++ cs ++ post).length) w := by simp [Go.cellsIn, hsh]
        simp only [convert, Sem.run_bind, run_und hE hs, run_und hE hd, Result.andThen_ok]
        simp only [Conv.unsafePointer, Sem.run_bind, run_und hE hs, run_und hE hd, Result.andThen_ok, hse, hci, run_size hE hz]
        simp at hlt2
        simp
        intro hc
        omega
    · cases h
  · cases h
include hE in
theorem ptrFrom_ok (hH : HR γ E.ng S w) {s d u : Nat} (hs : und E s = some .unsafePointer) (hd : und E d = some (.pointer u)) {x r : AV} (h : ptrFrom E S u x = some r) {x' : Value} (hx : VR γ x x') :
    ∃ v, (convert s d x').run E.P w = .ok v w ∧ VR γ r v := by
  unfold ptrFrom at h
  split at h
  · cases h; cases hx
    refine ⟨.pointer none, ?_, .nilp⟩
    simp [convert, Conv.unsafePointer, run_und hE hs, run_und hE hd]
  · rename_i b
    split at h
    · rename_i c elem sty lo hi n hb hz
      split at h
      · rename_i h1 h2 h3
        cases h
        have e1 := Nat.eq_of_beq_eq_true h1
        subst e1
        have e2 : E.P.cellsOf elem ≠ 0 := fun e => by rw [e] at h2; cases h2
        have e3 : 1 ≤ c.length / E.P.cellsOf elem := Nat.le_of_ble_eq_true h3
        cases hx with
        | @ptr _ L _ hL =>
          obtain ⟨pre, cs, post, fz, g1, g2, g3, g4, g5, g6, g7⟩ := hH.cellsAt hb hL
          obtain ⟨rfl, rfl⟩ := g7 rfl
          have hsh := shape_of g1
          have hl := g4.length
          have hoff : L.off = 0 := by rw [← g2]; rfl
          refine ⟨.pointer (some ⟨L.blk, L.off + 0, none⟩), ?_, .ptr 0 hL⟩
          have hse := run_seenAt (P := E.P) (w := w) (a := ⟨L.blk, L.off + 0, none⟩) hsh
          have hva : (Go.variablesAt ⟨L.blk, L.off + 0, none⟩ elem 1).run E.P w = .ok true w := by
            have := lies_gen (P := E.P) e2 (c.length / E.P.cellsOf elem) (L.off + 0) 1 (by rw [hoff]; simp) (by rw [hoff]; simpa using e3)
            simp only [Go.variablesAt, Go.program, Sem.run_bind, Sem.run, Result.andThen_ok, Go.shape, hsh]
            rw [Nat.add_zero] at this
            simp [hl, this]
          simp only [convert, Sem.run_bind, run_und hE hs, run_und hE hd, Result.andThen_ok]
          simp only [Conv.unsafePointer, Sem.run_bind, run_und hE hs, run_und hE hd, Result.andThen_ok, hse, hva, run_size hE hz]
          simp
      · cases h
    · cases h
  · cases h
include hE in
theorem conv3_ok (hH : HR γ E.ng S w) {s d : Nat} {x r : AV} (h : conv3 E S s d x = some r) {x' : Value} (hx : VR γ x x') : ∃ v, (convert s d x').run E.P w = .ok v w ∧ VR γ r v := by
  unfold conv3 at h
  split at h
  · rename_i t hs hd; exact ptrTo_ok hE hH hs hd h hx
  · rename_i u hs hd; exact ptrFrom_ok hE hH hs hd h hx
  · exact conv2_ok hE hH h hx

/-! unsafe.SliceData, unsafe.String -/
noncomputable def sdataA (x : AV) : Option AV :=
  match x with
  | .nils => some .nilp
  | .sl b o _ (_ + 1) => some (.ptr b o)
  | .su b o (_ + 1) _ => some (.ptr b o)
  | _ => none
theorem sdataA_ok {P : Program} {x r : AV} (h : sdataA x = some r) {x' : Value} (hx : VR γ x x') (ts : Array TypeId) (ty : TypeId) : Gives P γ (Builtin.unsafeSliceData_ ts ty #[x']) r := by
  unfold sdataA at h
  split at h
  · cases h; cases hx; exact .mk (fun w => rfl) .nilp
  · cases h
    cases hx with
    | sl o len cap hL => exact .mk (fun w => Lib.run_unsafeSliceData_row w _ _ _ _ _ (by omega)) (.ptr _ hL)
  · cases h
    cases hx with
    | su o len cap z hL hl _ _ => exact .mk (fun w => Lib.run_unsafeSliceData_row w _ _ _ _ _ (by omega)) (.ptr _ hL)
  · cases h
noncomputable def lo2 (lo hi o : Nat) : Nat := Bool.rec (Nat.min lo o) o (Nat.beq lo hi)
noncomputable def hi2 (lo hi o n : Nat) : Nat := Bool.rec (Nat.max hi (Nat.add o n)) (Nat.add o n) (Nat.beq lo hi)
noncomputable def ustrA (E : Env) (S : Hp) (t : Nat) (p n : AV) : Option (AV × Hp) :=
  match p, n with
  | .nilp, .int .i64 (Int.ofNat 0) => some (.str [], S)
  | .ptr _ _, .int .i64 (Int.ofNat 0) => some (.str [], S)
  | .ptr b o, .int .i64 (Int.ofNat (m + 1)) => (match und E t, T.get b S.hp with
      | some (.pointer e), some (.cells c elem ex false lo hi) =>
        (match Bool.and (Nat.ble S.fl b.idx) (Bool.and (Nat.beq elem e) (Bool.and (Nat.beq (E.P.cellsOf e) 1) (Nat.ble (m + 1) 4611686018427387904))), ltake (m + 1) (ldrop o c) with
          | true, some l => Option.rec none (fun s => some (.str s, S.put b (.cells c elem ex false (lo2 lo hi o) (hi2 lo hi o (m + 1))))) (bys l)
          | _, _ => none)
      | _, _ => none)
  | _, _ => none
theorem run_ustr {P : Program} (pt it ty e : TypeId) (hp : P.underlying pt = some (.pointer e)) (hc : P.cellsOf e = 1) (g off cells : Nat) (hsh : w.shape? g = some (e, cells)) (l : List UInt8) (h0 : l ≠ []) (hn : off + l.length ≤ cells) (h63 : l.length ≤ 9223372036854775807)
    (hcell : ∀ j x, l[j]? = some x → w.cell? ((⟨g, off, none⟩ : Addr).add j) = some (.int .u8 x.toNat)) :
    (Builtin.unsafeString_ #[pt, it] ty #[.pointer (some ⟨g, off, none⟩), .int .i64 l.length]).run P w = .ok (.string ⟨l.toArray⟩) (w.freeze ⟨g, off, none⟩ l.length) := by
  have hl : l.length ≠ 0 := by simpa using h0
  have hlb := Lib.run_loadBytes (P := P) w l ⟨g, off, none⟩ .empty hcell
  have hlies := lies_gen (P := P) (e := e) (by rw [hc]; decide) (cells / P.cellsOf e) off l.length (by rw [hc]; omega) (by rw [hc]; simpa using hn)
  have h63' : ¬ (9223372036854775807 : Int) < (l.length : Int) := by omega
  have hdef : Builtin.unsafeString_ #[pt, it] ty #[.pointer (some ⟨g, off, none⟩), .int .i64 l.length] =
      (do
        let n ← asInt (.int .i64 l.length)
        if n < 0 then runtimePanic (.error "unsafe.String: len out of range")
        if n > IntKind.i64.max then unsupported (.unsafePointer "String: a length above the largest int")
        if n = 0 then pure (.string .empty)
        else if ← variablesAt ⟨g, off, none⟩ (← elemOf pt) n.toNat then do
          let s ← loadBytes ⟨g, off, none⟩ .empty n.toNat
          freeze ⟨g, off, none⟩ n.toNat
          pure (.string s)
        else unsupported (.unsafePointer "String: not so many bytes at ptr")) := rfl
  rw [hdef]
  have hmax : IntKind.i64.max = 9223372036854775807 := rfl
  have hneg : ¬ (l.length : Int) < 0 := by omega
  simp [asInt, asIntOf, hmax, h63', hneg, hl, variablesAt, hsh, elemOf, run_underlying hp, hlies, hlb]
theorem frz_ok {L : Loc} {lo hi o n : Nat} {fz : Nat × Nat} (hn : 0 < n) (h : FzR L false lo hi fz) :
    FzR L false (lo2 lo hi o) (hi2 lo hi o n) (if fz.1 == fz.2 then (L.off + o, L.off + o + n) else (min fz.1 (L.off + o), max fz.2 (L.off + o + n))) := by
  obtain ⟨h1, h2⟩ := h
  have h3 := h2 rfl
  unfold lo2 hi2
  have eadd : Nat.add o n = o + n := rfl
  have emin : Nat.min lo o = min lo o := rfl
  have emax : Nat.max hi (Nat.add o n) = max hi (o + n) := rfl
  rw [emin, emax, eadd]
  cases hb : Nat.beq lo hi with
  | true =>
    have e := Nat.eq_of_beq_eq_true hb
    have h4 : fz.1 = fz.2 := by rcases h3 with h3 | h3 <;> omega
    rw [if_pos (by simp [h4])]
    refine ⟨fun p a b c => .inr ⟨?_, ?_⟩, fun _ => .inr ⟨?_, .inr ?_, ?_⟩⟩ <;> simp only at * <;> omega
  | false =>
    have e : lo ≠ hi := fun e => by rw [e, nat_beq_decide] at hb; simp at hb
    by_cases h4 : fz.1 = fz.2
    · rw [if_pos (by simp [h4])]
      refine ⟨fun p a b c => .inr ⟨?_, ?_⟩, fun _ => .inr ⟨?_, .inr ?_, ?_⟩⟩ <;> simp only at * <;> omega
    · rw [if_neg (by simp [h4])]
      rcases h3 with h3 | ⟨h5, h6, h7⟩
      · exact absurd h3 h4
      · refine ⟨fun p a b c => .inr ⟨?_, ?_⟩, fun _ => .inr ⟨?_, ?_, ?_⟩⟩ <;> simp only at * <;> omega
include hE in
theorem ustrA_ok {t it : Nat} {p n r : AV} {S' : Hp} (h : ustrA E S t p n = some (r, S')) {p' n' : Value} (hp : VR γ p p') (hn : VR γ n n') (ty : TypeId) : Out E.P γ E.ng S (Builtin.unsafeString_ #[t, it] ty #[p', n']) r S' := by
  intro w hH
  unfold ustrA at h
  split at h
  · cases h; cases hp; cases hn
    exact ⟨γ, _, w, Lib.run_unsafeString_none w _ _ _ _, VR.str ByteArray.empty, hH, Pres.refl _ _ _⟩
  · cases h; cases hn
    cases hp with
    | ptr _ hL => exact ⟨γ, _, w, Lib.run_unsafeString_none w _ _ _ _, VR.str ByteArray.empty, hH, Pres.refl _ _ _⟩
  · rename_i b o m
    split at h
    · rename_i e c elem ex lo hi hu hb
      split at h
      · rename_i l hcond hl
        obtain ⟨s, h1, h2⟩ := rec1_ok (o := bys l) h
        cases h2
        have q1 : Nat.ble S.fl b.idx = true ∧ Nat.beq elem e = true ∧ Nat.beq (E.P.cellsOf e) 1 = true ∧ Nat.ble (m + 1) 4611686018427387904 = true := by
          revert hcond
          cases Nat.ble S.fl b.idx <;> cases Nat.beq elem e <;> cases Nat.beq (E.P.cellsOf e) 1 <;> cases Nat.ble (m + 1) 4611686018427387904 <;> simp
        obtain ⟨c1, c2, c3, c4⟩ := q1
        have e1 := Nat.eq_of_beq_eq_true c2
        subst e1
        have e2 := Nat.eq_of_beq_eq_true c3
        have e4 : m + 1 ≤ 4611686018427387904 := Nat.le_of_ble_eq_true c4
        cases hn
        cases hp with
        | @ptr _ L _ hL =>
          obtain ⟨pre, cs, post, fz, g1, g2, g3, g4, g5, g6, g7⟩ := hH.cellsAt hb hL
          obtain ⟨e5, e6⟩ := ltake_eq hl
          rw [ldrop_eq] at e5 e6
          have hlc := g4.length
          have e6' : m + 1 ≤ c.length - o := by rw [← List.length_drop]; exact e6
          have hlr : LR γ l ((cs.drop o).take (m + 1)) := e5 ▸ (g4.drop o).take (m + 1)
          obtain ⟨g8, g9⟩ := bys_ok h1 hlr
          have hsl : s.length = m + 1 := by
            have := congrArg List.length g8
            simp at this; omega
          have hbl : (s.map UInt8.ofNat).length = m + 1 := by rw [List.length_map]; exact hsl
          have hcell : ∀ j x, (s.map UInt8.ofNat)[j]? = some x → w.cell? ((⟨L.blk, L.off + o, none⟩ : Addr).add j) = some (.int .u8 x.toNat) := by
            intro j x hx
            rw [List.getElem?_map] at hx
            cases hs : s[j]? with
            | none => rw [hs] at hx; cases hx
            | some k =>
              rw [hs] at hx; cases hx
              have hk := g9 k (List.mem_of_getElem? hs)
              have hj : j < m + 1 := by have := (List.getElem?_eq_some_iff.1 hs).1; omega
              have e7 : ((cs.drop o).take (m + 1))[j]? = some (.int .u8 (Int.ofNat k)) := by
                rw [g8, List.getElem?_map, List.getElem?_map, hs]; rfl
              rw [List.getElem?_take_of_lt hj, List.getElem?_drop] at e7
              have e8 : (pre ++ cs ++ post)[L.off + o + j]? = some (.int .u8 (Int.ofNat k)) := by
                rw [List.append_assoc, List.getElem?_append_right (by omega), g2]
                rw [show L.off + o + j - L.off = o + j from by omega]
                rw [List.getElem?_append_left (by have := (List.getElem?_eq_some_iff.1 e7).1; exact this)]
                exact e7
              rw [addr_add]
              unfold World.cell?
              simp only [g1]
              have e9 : (UInt8.ofNat k).toNat = k := by simp [Nat.mod_eq_of_lt hk]
              rw [e9]
              simpa using e8
          have hrun := run_ustr (P := E.P) (w := w) t it ty elem (und_ok hE hu) e2 L.blk (L.off + o) _ (shape_of g1) (s.map UInt8.ofNat) (by intro e; rw [e] at hbl; simp at hbl)
            (by rw [hbl]; simp; omega) (by rw [hbl]; omega) hcell
          rw [hbl] at hrun
          have hres : bytesOf ⟨(s.map UInt8.ofNat).toArray⟩ = s := by
            unfold bytesOf
            simp only [List.map_map]
            have : s.map (UInt8.toNat ∘ UInt8.ofNat) = s.map id := List.map_congr_left (fun k hk => by simp [Nat.mod_eq_of_lt (g9 k hk)])
            rw [this, List.map_id]
          have hlt := (Array.getElem?_eq_some_iff.1 g1).1
          have hv := VR.str (γ := γ) ⟨(s.map UInt8.ofNat).toArray⟩
          rw [hres] at hv
          refine ⟨γ, _, _, hrun, hv, ?_⟩
          refine hH.put (o' := .cells c elem ex false (lo2 lo hi o) (hi2 lo hi o (m + 1))) (L := L)
            (ob' := .cells ⟨pre ++ cs ++ post⟩ elem (if fz.1 == fz.2 then (L.off + o, L.off + o + (m + 1)) else (min fz.1 (L.off + o), max fz.2 (L.off + o + (m + 1))))) hb hL (Nat.le_of_ble_eq_true c1) ?_ ?_ ?_ ?_ ?_ ?_
          · simp [World.freeze]
          · intro r hr
            simp only [World.freeze, if_neg (show ¬ m + 1 = 0 from by omega)]
            rw [Array.getElem?_modify, if_neg (fun e => hr e.symm)]
          · simp only [World.freeze, if_neg (show ¬ m + 1 = 0 from by omega)]
            rw [Array.getElem?_modify, if_pos rfl, g1]
            rfl
          · refine ⟨pre, cs, post, _, rfl, g2, g3, g4, frz_ok (by omega) g5, ?_, g7⟩
            unfold hi2
            have eadd : Nat.add o (m + 1) = o + (m + 1) := rfl
            have emax : Nat.max hi (Nat.add o (m + 1)) = max hi (o + (m + 1)) := rfl
            rw [emax, eadd]
            cases Nat.beq lo hi <;> simp only <;> omega
          · simp only [World.freeze, if_neg (show ¬ m + 1 = 0 from by omega)]
          · simp only [World.freeze, if_neg (show ¬ m + 1 = 0 from by omega)]
      · cases h
    · cases h
  · cases h
end
end Go.AM

/-! A16: The operations, one after the other. -/
namespace Go.AM

/-- a deferred call: a mark of a loop over a function, or a call -/
inductive AD where
  | mark (b : Ps)
  | call (f : Nat) (args cap : List AV)
inductive DR (γ : Gm) : AD → Deferred → Prop where
  | mark {b : Ps} {L : Loc} (h : γ b = some L) : DR γ (.mark b) { target := .collected L.blk, args := #[] }
  | call {a c : List AV} {a' c' : List Value} (f : Nat) (h : LR γ a a') (hc : LR γ c c') : DR γ (.call f a c) { target := .fn (.func f) ⟨c'⟩, args := ⟨a'⟩ }
theorem DR.mono {γ γ' : Gm} (hg : Gm.le γ γ') {d : AD} {d' : Deferred} (h : DR γ d d') : DR γ' d d' := by
  cases h with
  | mark h => exact .mark (hg _ _ h)
  | call f h hc => exact .call f (h.mono hg) (hc.mono hg)

/-- what an operation comes to -/
inductive RO where
  | v (x : AV) (S : Hp)
  | call (f : Nat) (args : List AV)
  | yld (l : Ps) (args : List AV)
  | dfr (d : AD)
  | pan (x : AV)
  | rcv

noncomputable def vS (S : Hp) (o : Option AV) : Option RO := Option.rec none (fun x => some (.v x S)) o
noncomputable def vP (o : Option (AV × Hp)) : Option RO := Option.rec none (fun p => some (.v p.1 p.2)) o
noncomputable def vU (o : Option Hp) : Option RO := Option.rec none (fun S => some (.v (.tup []) S)) o
noncomputable def b1 {α : Type} (o : Option AV) (f : AV → Option α) : Option α := Option.rec none f o

abbrev OpF := Env → Tm → Hp → Nat → Option RO
noncomputable def oMove (x : Operand) : OpF := fun E tm S _ => vS S (evX E.ng tm x)
noncomputable def oPick (c a b : Operand) : OpF := fun E tm S _ => b1 (evX E.ng tm c) fun c => match c with | .bool true => vS S (evX E.ng tm a) | .bool false => vS S (evX E.ng tm b) | _ => none
noncomputable def oAlloc (t : Nat) : OpF := fun E _ S _ => vP (allocA E S t)
noncomputable def oBox (t : Nat) (x : Operand) : OpF := fun E tm S _ => b1 (evX E.ng tm x) fun v => some (.v (.ptr S.nx 0) (S.alloc (.cells (cellsA v) t true false 0 0)))
noncomputable def evPs (ng : Nat) (tm : Tm) (l : List (Nat × Operand)) : Option (List (Nat × AV)) :=
  List.rec (some []) (fun p _ ih => Prod.rec (fun i x => Option.rec none (fun y => Option.rec none (fun t => some ((i, y) :: t)) ih) (evX ng tm x)) p) l
noncomputable def oBuild (t : Nat) (ps : Array (Nat × Operand)) : OpF := fun E tm S _ => Option.rec none (fun l => vS S (buildA E t l)) (evPs E.ng tm ps.toList)
noncomputable def oBuildS (t len : Nat) (ps : Array (Nat × Operand)) : OpF := fun E tm S _ => Option.rec none (fun l => vP (buildSA E S t len l)) (evPs E.ng tm ps.toList)
noncomputable def oLoad (t : Nat) (a : Operand) : OpF := fun E tm S _ => b1 (evX E.ng tm a) fun a => vS S (loadA E S t a)
noncomputable def oStore (t : Nat) (a x : Operand) : OpF := fun E tm S _ => b1 (evX E.ng tm a) fun a => b1 (evX E.ng tm x) fun v => vU (storeA E S t a v)
noncomputable def notNil (v : AV) : Bool := match v with | .nilp => false | .nili => false | .nilf => false | _ => true
noncomputable def oNil (x : Operand) : OpF := fun E tm S _ => b1 (evX E.ng tm x) fun v => Bool.rec none (some (.v v S)) (notNil v)
noncomputable def oBin (op : BinOp) (t : Nat) (x y : Operand) (_ : Nat) : OpF := fun E tm S _ => b1 (evX E.ng tm x) fun a => b1 (evX E.ng tm y) fun b => vS S (bin E op t x y a b)
noncomputable def oUn (op : UnOp) (_ : Nat) (x : Operand) : OpF := fun E tm S _ => b1 (evX E.ng tm x) fun a => vS S (un op a)
noncomputable def oConv (s d : Nat) (x : Operand) : OpF := fun E tm S _ => b1 (evX E.ng tm x) fun a => vS S (conv3 E S s d a)
noncomputable def notIfc (d : TypeDesc) : Bool := match d with | .interface _ => false | _ => true
noncomputable def ifcA (E : Env) (t : Nat) (x : AV) : Option AV := match und E t with | some d => Bool.rec none (some (.ifc t x)) (notIfc d) | none => none
noncomputable def oIfc (t : Nat) (x : Operand) : OpF := fun E tm S _ => b1 (evX E.ng tm x) fun a => vS S (ifcA E t a)
noncomputable def oFunc (fn : Fn) (first cap : Array Operand) : OpF := fun E tm S _ =>
  match fn with
  | .func f => Option.rec none (fun a => Option.rec none (fun c => some (.v (.fn f a c) S)) (evXs E.ng tm cap.toList)) (evXs E.ng tm first.toList)
  | _ => none
noncomputable def oMap (_ : Nat) (r : Option Operand) : OpF := fun _ _ S _ => match r with | none => some (.v (.mp S.nx) (S.alloc (.map [] 0))) | some _ => none
noncomputable def oMakeS (t : Nat) (l c : Operand) : OpF := fun E tm S _ => b1 (evX E.ng tm l) fun l => b1 (evX E.ng tm c) fun c => vP (makeSA E S t l c)
noncomputable def evO (ng : Nat) (tm : Tm) (x : Option Operand) : Option (Option AV) := Option.rec (some none) (fun x => Option.rec none (fun v => some (some v)) (evX ng tm x)) x
noncomputable def oSlice (t : Nat) (x : Operand) (lo hi mx : Option Operand) : OpF := fun E tm S _ => b1 (evX E.ng tm x) fun a =>
  match evO E.ng tm lo, evO E.ng tm hi, evO E.ng tm mx with
  | some lo, some hi, some mx => vS S (sliceA E S t a lo hi mx)
  | _, _, _ => none
noncomputable def oFaddr (t : Nat) (x : Operand) (f : Nat) : OpF := fun E tm S _ => b1 (evX E.ng tm x) fun a => vS S (faddrA E t a f)
noncomputable def oField (t : Nat) (x : Operand) (f : Nat) : OpF := fun E tm S _ => b1 (evX E.ng tm x) fun a => vS S (fieldA E t a f)
noncomputable def oIaddr (t : Nat) (x i : Operand) : OpF := fun E tm S _ => b1 (evX E.ng tm x) fun a => b1 (evX E.ng tm i) fun i => vS S (iaddrA E t a i)
noncomputable def oIndex (t : Nat) (x i : Operand) : OpF := fun E tm S _ => b1 (evX E.ng tm x) fun a => b1 (evX E.ng tm i) fun i => vS S (indexA E t a i)
noncomputable def oLook (t : Nat) (x k : Operand) (ok : Bool) : OpF := fun E tm S _ => b1 (evX E.ng tm x) fun a => b1 (evX E.ng tm k) fun k => vS S (lookupA E S t a k ok)
noncomputable def oMapU (t : Nat) (m k x : Operand) : OpF := fun E tm S _ => b1 (evX E.ng tm m) fun m => b1 (evX E.ng tm k) fun k => b1 (evX E.ng tm x) fun x => vU (mapUpdateA E S t m k x)
noncomputable def oExt (x : Operand) (i : Nat) : OpF := fun E tm S _ => b1 (evX E.ng tm x) fun a => match a with | .tup l => vS S (nth l i) | _ => none
noncomputable def tasB (E : Env) (x : AV) (a : Nat) (ok : Bool) : Option AV :=
  match x with
  | .ifc t v => (match Nat.beq t a, ok with
      | true, true => some (.tup [v, .bool true])
      | true, false => some v
      | false, true => (match zeroA E a with | some z => some (.tup [z, .bool false]) | none => none)
      | false, false => none)
  | .nili => (match ok with | true => (match zeroA E a with | some z => some (.tup [z, .bool false]) | none => none) | false => none)
  | _ => none
noncomputable def tasA (E : Env) (x : AV) (a : Nat) (ok : Bool) : Option AV := match und E a with | some d => Bool.rec none (tasB E x a ok) (notIfc d) | none => none
noncomputable def oTas (x : Operand) (_ a : Nat) (ok : Bool) : OpF := fun E tm S _ => b1 (evX E.ng tm x) fun v => vS S (tasA E v a ok)
noncomputable def extA (x : Ext) (args : List AV) : Option AV :=
  match x with
  | .sqrt => (match args with
    | [.flt .f64 b] => (match FloatKind.f64.format.sqrt b with | some r => some (.flt .f64 r) | none => none)
    | _ => none)
  | .noEscape => (match args with | [x] => some x | _ => none)
noncomputable def extV (E : Env) (S : Hp) (f : Nat) (args : List AV) : Option RO :=
  match T.get (Ps.of f) E.ext with
  | some (some x) => vS S (extA x args)
  | _ => none
noncomputable def callV (E : Env) (S : Hp) (f : AV) (args : List AV) : Option RO :=
  match f with
  | .fn f first cap => (match T.get (Ps.of f) E.funcs with | some (some _) => some (.call f (lapp (lapp first args) cap)) | _ => extV E S f (lapp (lapp first args) cap))
  | .yl l => some (.yld l args)
  | _ => none
noncomputable def mm (g : AV → AV → Option AV) (l : List AV) (x : AV) : Option AV := List.rec (motive := fun _ => AV → Option AV) (fun x => some x) (fun y _ ih x => Option.rec none ih (g x y)) l x
noncomputable def builtA (E : Env) (S : Hp) (b : Builtin) (ts : List Nat) (args : List AV) : Option RO :=
  match b with
  | .len => (match ts, args with | t :: _, x :: _ => vS S (lenA E S t x) | _, _ => none)
  | .append => (match ts, args with | s :: t :: _, x :: y :: _ => vP (appA E S s t x y) | _, _ => none)
  | .max => (match args with | x :: l => vS S (mm max2A l x) | [] => none)
  | .min => (match args with | x :: l => vS S (mm min2A l x) | [] => none)
  | .unsafeSliceData => (match args with | [x] => vS S (sdataA x) | _ => none)
  | .unsafeString => (match ts, args with | [t, _], [p, n] => vP (ustrA E S t p n) | _, _ => none)
  | .recover => some .rcv
  | _ => none
noncomputable def oCall (c : Call) : OpF := fun E tm S _ =>
  Option.rec none (fun args => match c.callee with
    | .value f => b1 (evX E.ng tm f) fun f => callV E S f args
    | .builtin b => builtA E S b c.argTypes.toList args
    | .invoke _ _ => none) (evXs E.ng tm c.args.toList)
noncomputable def oDefer (c : Call) : OpF := fun E tm _ _ =>
  Option.rec none (fun args => match c.callee with
    | .value f => b1 (evX E.ng tm f) fun f => match f with
      | .fn f first cap => some (.dfr (.call f (List.append first args) cap))
      | _ => none
    | _ => none) (evXs E.ng tm c.args.toList)
noncomputable def oPanic (x : Operand) : OpF := fun E tm _ _ => b1 (evX E.ng tm x) fun v => match v with | .ifc t v => some (.pan (.ifc t v)) | _ => none
noncomputable def oNo1 {α : Type} (_ : α) : OpF := fun _ _ _ _ => none
noncomputable def oNo2 {α β : Type} (_ : α) (_ : β) : OpF := fun _ _ _ _ => none
noncomputable def oNo3 {α β δ : Type} (_ : α) (_ : β) (_ : δ) : OpF := fun _ _ _ _ => none
noncomputable def oNo4 {α β δ ε : Type} (_ : α) (_ : β) (_ : δ) (_ : ε) : OpF := fun _ _ _ _ => none

noncomputable def evOp (o : Op) : OpF :=
  Op.rec (motive := fun _ => OpF) oMove oMove oPick oAlloc oBox oBuild oBuildS oMapU oLoad oStore oNo1 oNo1 oNil oBin oUn oConv oNo2 oIfc oFunc oMap oNo2 oMakeS oSlice oFaddr oField oIaddr oIndex oLook oMapU oNo3 oNo4
    oNo2 oNo2 oNo1 oTas oExt oCall oNo1 oDefer oPanic oNo2 oNo3 oNo2 o

/-- what the model's operation comes to -/
def OpR (E : Env) (γ : Gm) (S : Hp) (w : World) (s : Sem Next) : RO → Prop
  | .v x S' => ∃ γ' v w', (s.run E.P w = .ok (.value v) w' ∨ (s.run E.P w = .ok .skip w' ∧ v = undef)) ∧ VR γ' x v ∧ HR γ' E.ng S' w' ∧ Pres S γ w S' γ' w'
  | .call f args => ∃ vs, s.run E.P w = .ok (.enter f ⟨vs⟩) w ∧ LR γ args vs ∧ ∃ i, T.get (Ps.of f) E.funcs = some (some i)
  | .yld l args => ∃ L vs, γ l = some L ∧ LR γ args vs ∧ ∀ w, (s.run E.P w = (Instr.yield L.blk ⟨vs⟩).run E.P w)
  | .dfr d => ∃ d', s.run E.P w = .ok (.defer d') w ∧ DR γ d d'
  | .pan x => ∃ v, s.run E.P w = .halt (.panic v) w ∧ VR γ x v
  | .rcv => s.run E.P w = .ok .recover w
end Go.AM

/-! A17: Each operation of the abstract machine is the model's. -/
namespace Go.AM

theorem amap {α β : Type} (f : α → β) (a : Array α) : a.map f = ⟨a.toList.map f⟩ := by rw [← Array.toList_map]
section
variable {E : Env} (hE : E.Ok) {γ : Gm} {S : Hp} {w : World}

theorem OpR.val {s : Sem Value} {x : AV} {S' : Hp} (h : ∃ γ' v w', s.run E.P w = .ok v w' ∧ VR γ' x v ∧ HR γ' E.ng S' w' ∧ Pres S γ w S' γ' w') : OpR E γ S w (do pure (.value (← s))) (.v x S') := by
  obtain ⟨γ', v, w', h1, h2⟩ := h
  exact ⟨γ', v, w', .inl (by simp only [Sem.run_bind, h1, Result.andThen_ok, Sem.run_pure]), h2⟩
theorem OpR.unit {s : Sem Unit} {S' : Hp} (h : ∃ γ' w', s.run E.P w = .ok () w' ∧ HR γ' E.ng S' w' ∧ Pres S γ w S' γ' w') : OpR E γ S w (do s; pure .skip) (.v (.tup []) S') := by
  obtain ⟨γ', w', h1, h2⟩ := h
  exact ⟨γ', undef, w', .inr ⟨by simp only [Sem.run_bind, h1, Result.andThen_ok, Sem.run_pure], rfl⟩, .undef, h2⟩
theorem b1_ok {α : Type} {o : Option AV} {f : AV → Option α} {r : α} (h : b1 o f = some r) : ∃ x, o = some x ∧ f x = some r := by
  cases o with
  | none => cases h
  | some x => exact ⟨x, rfl, h⟩
theorem vS_ok {S : Hp} {o : Option AV} {r : RO} (h : vS S o = some r) : ∃ x, o = some x ∧ r = .v x S := by
  cases o with
  | none => cases h
  | some x => cases h; exact ⟨x, rfl, rfl⟩
theorem vP_ok {o : Option (AV × Hp)} {r : RO} (h : vP o = some r) : ∃ x S, o = some (x, S) ∧ r = .v x S := by
  cases o with
  | none => cases h
  | some p => obtain ⟨x, S⟩ := p; cases h; exact ⟨x, S, rfl, rfl⟩
theorem vU_ok {o : Option Hp} {r : RO} (h : vU o = some r) : ∃ S, o = some S ∧ r = .v (.tup []) S := by
  cases o with
  | none => cases h
  | some S => cases h; exact ⟨S, rfl, rfl⟩
theorem recb_ok {α β : Type} {o : Option α} {f : α → Option β} {r : β} (h : (Option.rec none f o : Option β) = some r) : ∃ x, o = some x ∧ f x = some r := by
  cases o with
  | none => cases h
  | some x => exact ⟨x, rfl, h⟩
theorem Gives.opr {s : Sem Value} {x : AV} (h : Gives E.P γ s x) (hH : HR γ E.ng S w) : OpR E γ S w (do pure (.value (← s))) (.v x S) :=
  OpR.val (let ⟨v, h1, h2⟩ := h w; ⟨γ, v, w, h1, h2, hH, Pres.refl _ _ _⟩)
theorem OpR.here {s : Sem Value} {x : AV} (hH : HR γ E.ng S w) (h : ∃ v, s.run E.P w = .ok v w ∧ VR γ x v) : OpR E γ S w (do pure (.value (← s))) (.v x S) :=
  OpR.val (let ⟨v, h1, h2⟩ := h; ⟨γ, v, w, h1, h2, hH, Pres.refl _ _ _⟩)
theorem Out.opr {s : Sem Value} {x : AV} {S' : Hp} (h : Out E.P γ E.ng S s x S') (hH : HR γ E.ng S w) : OpR E γ S w (do pure (.value (← s))) (.v x S') := OpR.val (h w hH)
theorem OutU.opr {s : Sem Unit} {S' : Hp} (h : OutU E.P γ E.ng S s S') (hH : HR γ E.ng S w) : OpR E γ S w (do s; pure .skip) (.v (.tup []) S') := OpR.unit (h w hH)

variable {tm : Tm} {fr : Frame} (hT : TR γ tm fr.tmps) (hH : HR γ E.ng S w)
include hT hH

theorem ev_ok {x : Operand} {v : AV} (h : evX E.ng tm x = some v) : VR γ v (fr.eval x) := evX_ok hT hH.glob h
theorem evs_ok {l : List Operand} {r : List AV} (h : evXs E.ng tm l = some r) : LR γ r (l.map fr.eval) := evXs_ok hT hH.glob h
theorem evPs_ok {l : List (Nat × Operand)} {r : List (Nat × AV)} (h : evPs E.ng tm l = some r) : PR γ r (l.map fun (i, x) => (i, fr.eval x)) := by
  induction l generalizing r with
  | nil => cases h; exact .nil
  | cons p l ih =>
    have h' : (Option.rec none (fun y => Option.rec none (fun t => some ((p.1, y) :: t)) (evPs E.ng tm l)) (evX E.ng tm p.2) : Option (List (Nat × AV))) = some r := h
    obtain ⟨y, h1, h2⟩ := recb_ok h'
    obtain ⟨t, h3, h4⟩ := recb_ok h2
    cases h4
    exact .cons _ (ev_ok hT hH h1) (ih h3)
theorem evO_ok {x : Option Operand} {v : Option AV} (h : evO E.ng tm x = some v) : OVR γ v (x.map fr.eval) := by
  cases x with
  | none => cases h; trivial
  | some x =>
    obtain ⟨y, h1, h2⟩ := recb_ok (o := evX E.ng tm x) h
    cases h2
    exact ev_ok hT hH h1

include hE
omit hT hH in
theorem tasA_ok {x r : AV} {a : Nat} {ok : Bool} (h : tasA E x a ok = some r) {x' : Value} (hx : VR γ x x') (xT : Nat) : Gives E.P γ (Instr.typeAssert x' xT a ok) r := by
  unfold tasA at h
  cases hu : und E a with
  | none => rw [hu] at h; cases h
  | some D =>
    rw [hu] at h
    obtain ⟨hn, h2⟩ := rec_some h
    have hni : ∀ ms, D ≠ .interface ms := by intro ms e; subst e; cases hn
    clear h
    unfold tasB at h2
    have fails : ∀ z, zeroA E a = some z → r = .tup [z, .bool false] → (∀ w, (Instr.typeAssert x' xT a true).run E.P w = ((Go.zeroValue a).run E.P w).andThen fun v w => .ok (.tuple #[v, .bool false]) w) → Gives E.P γ (Instr.typeAssert x' xT a true) r := by
      intro z hz hr hrun
      subst hr
      obtain ⟨v, hv, hvr⟩ := run_zero hE hz γ
      exact .mk (v := .tuple #[v, .bool false]) (fun w => by rw [hrun, hv]; rfl) (.tup (.cons hvr (.cons (.bool false) .nil)))
    split at h2
    · rename_i t v
      cases hx with
      | ifc _ hv =>
        split at h2
        · rename_i hb
          cases h2
          have := Nat.eq_of_beq_eq_true hb
          subst this
          refine .mk (fun w => ?_) (.tup (.cons hv (.cons (.bool true) .nil)))
          simp only [Instr.typeAssert, Sem.run_bind, run_und hE hu, Result.andThen_ok]
          cases D <;> first | rfl | (simp; done) | exact (hni _ rfl).elim
        · rename_i hb
          cases h2
          have := Nat.eq_of_beq_eq_true hb
          subst this
          refine .mk (fun w => ?_) hv
          simp only [Instr.typeAssert, Sem.run_bind, run_und hE hu, Result.andThen_ok]
          cases D <;> first | rfl | (simp; done) | exact (hni _ rfl).elim
        · rename_i hb
          split at h2
          · rename_i z hz
            cases h2
            have hne : t ≠ a := fun e => by rw [e, nat_beq_decide] at hb; simp at hb
            refine fails z hz rfl (fun w => ?_)
            simp only [Instr.typeAssert, Sem.run_bind, run_und hE hu, Result.andThen_ok]
            cases D <;> first | exact (hni _ rfl).elim | (simp [hne]; done)
          · cases h2
        · cases h2
    · cases hx
      split at h2
      · split at h2
        · rename_i z hz
          cases h2
          refine fails z hz rfl (fun w => ?_)
          simp only [Instr.typeAssert, Sem.run_bind, run_und hE hu, Result.andThen_ok]
          cases D <;> first | exact (hni _ rfl).elim | (simp; done)
        · cases h2
      · cases h2
    · cases h2
omit hT hH in
theorem ifcA_ok {x r : AV} {t : Nat} (h : ifcA E t x = some r) {x' : Value} (hx : VR γ x x') : Gives E.P γ (Instr.makeInterface t x') r := by
  unfold ifcA at h
  split at h
  · rename_i D hu
    obtain ⟨hn, h2⟩ := rec_some h
    cases h2
    refine .mk (fun w => ?_) (.ifc t hx)
    simp only [Instr.makeInterface, Sem.run_bind, run_und hE hu, Result.andThen_ok]
    cases D <;> first | rfl | cases hn
  · cases h
omit hT hH hE in
theorem mm_ok {g : AV → AV → Option AV} {g' : Value → Value → Sem Value} (hg : ∀ {a b r : AV} {a' b' : Value}, g a b = some r → VR γ a a' → VR γ b b' → Gives E.P γ (g' a' b') r) {l : List AV} {l' : List Value} (hl : LR γ l l') :
    ∀ {x r : AV} {x' : Value}, VR γ x x' → mm g l x = some r → Gives E.P γ (l'.foldlM g' x') r := by
  induction l generalizing l' with
  | nil => intro x r x' hx h; cases hl; cases h; exact .mk (fun w => rfl) hx
  | cons y l ih =>
    intro x r x' hx h
    cases hl with
    | @cons _ y' _ l' hy ht =>
      have h' : (Option.rec none (mm g l) (g x y) : Option AV) = some r := h
      obtain ⟨z, h1, h2⟩ := recb_ok h'
      intro w
      obtain ⟨v, hv1, hv2⟩ := hg h1 hx hy w
      obtain ⟨u, hu1, hu2⟩ := ih ht hv2 h2 w
      exact ⟨u, by simp only [List.foldlM_cons, Sem.run_bind, hv1, Result.andThen_ok, hu1], hu2⟩

omit hE hT hH in
theorem extA_ok {x : Ext} {args : List AV} {r : AV} (h : extA x args = some r) {args' : List Value} (ha : LR γ args args') : ∃ v, (x.sem ⟨args'⟩).run E.P w = .ok v w ∧ VR γ r v := by
  cases x with
  | sqrt =>
    unfold extA at h
    simp only at h
    split at h
    · rename_i b
      split at h
      · rename_i r' hr
        cases h
        cases ha with
        | cons hx hn =>
          cases hx
          cases hn
          refine ⟨.float .f64 r', ?_, .flt _ _⟩
          have e : Extern.MathSqrt.sqrt #[.float .f64 b] = (match FloatKind.f64.format.sqrt b with | some r => pure (.float .f64 r) | none => do pure (.float .f64 (← choose (.nanBits .f64 b b)))) := rfl
          show (Extern.MathSqrt.sqrt #[.float .f64 b]).run E.P w = _
          rw [e, hr]
          rfl
      · cases h
    · cases h
  | noEscape =>
    unfold extA at h
    simp only at h
    split at h
    · cases h
      cases ha with
      | cons hx hn =>
        cases hn
        exact ⟨_, rfl, hx⟩
    · cases h
omit hT in
theorem callV_ok {f : AV} {args : List AV} {r : RO} (h : callV E S f args = some r) {f' : Value} {args' : List Value} (hf : VR γ f f') (ha : LR γ args args') :
    OpR E γ S w (do let d ← Deferred.ofValue f' ⟨args'⟩; invoke d.target d.args) r := by
  unfold callV at h
  split at h
  · rename_i f first cap
    split at h
    · rename_i i hi
      cases h
      cases hf with
      | @fn _ _ first' cap' _ h1 h2 =>
        obtain ⟨fn, g1, g2, g3, g4, g5⟩ := hE.funcs f i hi
        refine ⟨first' ++ args' ++ cap', ?_, ?_, i, hi⟩
        · simp only [Deferred.ofValue, Sem.run_bind, Sem.run_pure, Result.andThen_ok, invoke, callFunc, Go.program, Sem.run, g1]
          simp [g5, g2]
        · exact (h1.lapp ha).lapp h2
    · unfold extV at h
      split at h
      · rename_i x hx
        obtain ⟨v, h3, rfl⟩ := vS_ok h
        cases hf with
        | @fn _ _ first' cap' _ h1 h2 =>
          obtain ⟨fn, g1, g2, g3, g4, g5⟩ := hE.ext f x hx
          obtain ⟨v', e1, e2⟩ := extA_ok (E := E) (w := w) h3 ((h1.lapp ha).lapp h2)
          refine ⟨γ, v', w, .inl ?_, e2, hH, Pres.refl _ _ _⟩
          have e1' : (x.sem (first' ++ (args' ++ cap')).toArray).run E.P w = .ok v' w := by rw [List.append_assoc] at e1; exact e1
          simp only [Deferred.ofValue, Sem.run_bind, Sem.run_pure, Result.andThen_ok, invoke, callFunc, Go.program, Sem.run, g1]
          simp [g2, g3, g4, g5, e1', Go.mark, Sem.run]
      · cases h
  · cases h
    cases hf with
    | @yl _ L hL =>
      exact ⟨L, args', hL, ha, fun w => by simp [Deferred.ofValue, invoke]⟩
  · cases h
omit hT in
theorem builtA_ok {b : Builtin} {ts : Array TypeId} {ty : TypeId} {consts : Array Bool} {args : List AV} {r : RO} (h : builtA E S b ts.toList args = some r) {args' : List Value} (ha : LR γ args args') :
    OpR E γ S w (builtin b ts ty consts ⟨args'⟩) r := by
  have hts : ∀ {t : Nat} {l : List Nat}, ts.toList = t :: l → ts[0]? = some t := by
    intro t l e; rw [← Array.getElem?_toList, e]; rfl
  have hts1 : ∀ {t u : Nat} {l : List Nat}, ts.toList = t :: u :: l → ts[1]? = some u := by
    intro t u l e; rw [← Array.getElem?_toList, e]; rfl
  unfold builtA at h
  split at h
  · split at h
    · rename_i t tl x xl e1
      obtain ⟨y, h1, rfl⟩ := vS_ok h
      cases ha with
      | cons hx _ => exact OpR.here hH (lenA_ok hE h1 hx hH (hts e1) rfl)
    · cases h
  · split at h
    · rename_i t u tl x y xl e1
      obtain ⟨z, S', h1, rfl⟩ := vP_ok h
      cases ha with
      | cons hx hl => cases hl with
        | cons hy _ => exact (appA_ok hE h1 hx hy (hts e1) (hts1 e1) ty rfl rfl).opr hH
    · cases h
  · split at h
    · obtain ⟨z, h1, rfl⟩ := vS_ok h
      cases ha with
      | cons hx hl => exact (mm_ok (fun h ha hb => max2A_ok h ha hb) hl hx h1).opr hH
    · cases h
  · split at h
    · obtain ⟨z, h1, rfl⟩ := vS_ok h
      cases ha with
      | cons hx hl => exact (mm_ok (fun h ha hb => min2A_ok h ha hb) hl hx h1).opr hH
    · cases h
  · split at h
    · obtain ⟨z, h1, rfl⟩ := vS_ok h
      cases ha with
      | cons hx hl =>
        cases hl
        exact (sdataA_ok h1 hx ts ty).opr hH
    · cases h
  · split at h
    · rename_i t it p n e1
      obtain ⟨z, S', h1, rfl⟩ := vP_ok h
      cases ha with
      | cons hx hl => cases hl with
        | cons hy hn =>
          cases hn
          have e2 : ts = #[t, it] := by rw [← Array.toArray_toList (xs := ts), e1]
          subst e2
          exact (ustrA_ok hE h1 hx hy ty).opr hH
    · cases h
  · cases h; rfl
  · cases h

set_option maxHeartbeats 4000000 in
theorem evOp_ok {o : Oper} {r : RO} (h : evOp o.op E tm S o.type = some r) : OpR E γ S w (execOp fr.eval o) r := by
  obtain ⟨dst, op, type, pos, after, guard⟩ := o
  have ev := fun {x v} h => ev_ok (E := E) hT hH (x := x) (v := v) h
  cases op with
  | move x =>
    obtain ⟨v, h1, rfl⟩ := vS_ok (o := evX E.ng tm x) h
    exact ⟨γ, fr.eval x, w, .inl rfl, ev h1, hH, Pres.refl _ _ _⟩
  | assign x =>
    obtain ⟨v, h1, rfl⟩ := vS_ok (o := evX E.ng tm x) h
    exact ⟨γ, fr.eval x, w, .inl rfl, ev h1, hH, Pres.refl _ _ _⟩
  | pick c a b =>
    obtain ⟨cv, h1, h2⟩ := b1_ok (o := evX E.ng tm c) h
    have hc := ev h1
    split at h2
    · obtain ⟨v, h3, rfl⟩ := vS_ok h2
      generalize hcv : fr.eval c = cv' at hc
      cases hc
      exact ⟨γ, fr.eval a, w, .inl (by simp [execOp, hcv, asBool]), ev h3, hH, Pres.refl _ _ _⟩
    · obtain ⟨v, h3, rfl⟩ := vS_ok h2
      generalize hcv : fr.eval c = cv' at hc
      cases hc
      exact ⟨γ, fr.eval b, w, .inl (by simp [execOp, hcv, asBool]), ev h3, hH, Pres.refl _ _ _⟩
    · cases h2
  | alloc t =>
    obtain ⟨v, S', h1, rfl⟩ := vP_ok (o := allocA E S t) h
    exact (allocA_ok hE h1).opr hH
  | box t x =>
    obtain ⟨v, h1, h2⟩ := b1_ok (o := evX E.ng tm x) h
    cases h2
    exact (box_ok (ev h1)).opr hH
  | build t ps =>
    obtain ⟨l, h1, h2⟩ := recb_ok (o := evPs E.ng tm ps.toList) h
    obtain ⟨v, h3, rfl⟩ := vS_ok h2
    have := (buildA_ok hE h3 (evPs_ok hT hH h1)).opr hH
    show OpR E γ S w (do pure (.value (← Instr.build t (ps.map fun (i, x) => (i, fr.eval x))))) _
    rw [amap]; exact this
  | buildSlice t len ps =>
    obtain ⟨l, h1, h2⟩ := recb_ok (o := evPs E.ng tm ps.toList) h
    obtain ⟨v, S', h3, rfl⟩ := vP_ok h2
    have := (buildSA_ok hE h3 (evPs_ok hT hH h1)).opr hH
    show OpR E γ S w (do pure (.value (← Instr.buildSlice t len (ps.map fun (i, x) => (i, fr.eval x))))) _
    rw [amap]; exact this
  | insert t m k x =>
    obtain ⟨m', h1, h2⟩ := b1_ok (o := evX E.ng tm m) h
    obtain ⟨k', h3, h4⟩ := b1_ok h2
    obtain ⟨x', h5, h6⟩ := b1_ok h4
    obtain ⟨S', h7, rfl⟩ := vU_ok h6
    exact (mapUpdateA_ok hE h7 (ev h1) (ev h3) (ev h5)).opr hH
  | load t a =>
    obtain ⟨a', h1, h2⟩ := b1_ok (o := evX E.ng tm a) h
    obtain ⟨v, h3, rfl⟩ := vS_ok h2
    exact OpR.here hH (loadA_ok hE hH h3 (ev h1))
  | store t a x =>
    obtain ⟨a', h1, h2⟩ := b1_ok (o := evX E.ng tm a) h
    obtain ⟨x', h3, h4⟩ := b1_ok h2
    obtain ⟨S', h5, rfl⟩ := vU_ok h4
    exact (storeA_ok hE h5 (ev h1) (ev h3)).opr hH
  | ready g => cases h
  | waits g => cases h
  | nilCheck x =>
    obtain ⟨v, h1, h2⟩ := b1_ok (o := evX E.ng tm x) h
    obtain ⟨h3, h4⟩ := rec_some h2
    cases h4
    have hv := ev h1
    refine ⟨γ, fr.eval x, w, .inl ?_, hv, hH, Pres.refl _ _ _⟩
    show (match fr.eval x with
      | .pointer none | .nilIface | .nilFunc => runtimePanic .nilDeref
      | .func (.method name) first captured =>
        match (first[0]? : Option Value) with
        | some .nilIface => runtimePanic .nilDeref
        | some (.iface t w) => do
          if (← nilAhead ((← program).types.size + Made.depth) t w name) != some false then
            unsupported (.noEntry "op/nilCheck.the method's receiver behind this interface value is a nil pointer, or cannot be seen to be none, and the arguments act or may panic (ledger 612)")
          pure (.value (.func (.method name) first captured))
        | _ => pure (.value (.func (.method name) first captured))
      | x => pure (.value x) : Sem Next).run E.P w = _
    generalize fr.eval x = u at hv ⊢
    cases hv <;> first | rfl | cases h3
  | binOp op t x y yt =>
    obtain ⟨a, h1, h2⟩ := b1_ok (o := evX E.ng tm x) h
    obtain ⟨b, h3, h4⟩ := b1_ok h2
    obtain ⟨v, h5, rfl⟩ := vS_ok h4
    exact (bin_ok hE h5 (ev h1) (ev h3)).opr hH
  | unOp op t x =>
    obtain ⟨a, h1, h2⟩ := b1_ok (o := evX E.ng tm x) h
    obtain ⟨v, h5, rfl⟩ := vS_ok h2
    exact (un_ok h5 (ev h1)).opr hH
  | convert s d x =>
    obtain ⟨a, h1, h2⟩ := b1_ok (o := evX E.ng tm x) h
    obtain ⟨v, h5, rfl⟩ := vS_ok h2
    exact OpR.here hH (conv3_ok hE hH h5 (ev h1))
  | sliceToArrayPointer a x => cases h
  | makeInterface t x =>
    obtain ⟨a, h1, h2⟩ := b1_ok (o := evX E.ng tm x) h
    obtain ⟨v, h5, rfl⟩ := vS_ok h2
    exact (ifcA_ok hE h5 (ev h1)).opr hH
  | makeFunc fn first cap =>
    cases fn with
    | func f =>
      obtain ⟨a, h1, h2⟩ := recb_ok (o := evXs E.ng tm first.toList) h
      obtain ⟨c, h3, h4⟩ := recb_ok h2
      cases h4
      refine ⟨γ, .func (.func f) (first.map fr.eval) (cap.map fr.eval), w, .inl (by simp [execOp, Instr.makeFunc]), ?_, hH, Pres.refl _ _ _⟩
      have e1 : first.map fr.eval = ⟨first.toList.map fr.eval⟩ := amap _ _
      have e2 : cap.map fr.eval = ⟨cap.toList.map fr.eval⟩ := amap _ _
      rw [e1, e2]
      exact .fn f (evs_ok hT hH h1) (evs_ok hT hH h3)
    | _ => cases h
  | makeMap t r =>
    cases r with
    | none => cases h; exact makeMap_ok.opr hH
    | some x => cases h
  | makeChan t s => cases h
  | makeSlice t l c =>
    obtain ⟨a, h1, h2⟩ := b1_ok (o := evX E.ng tm l) h
    obtain ⟨b, h3, h4⟩ := b1_ok h2
    obtain ⟨v, S', h5, rfl⟩ := vP_ok h4
    exact (makeSA_ok hE h5 (ev h1) (ev h3)).opr hH
  | slice t x lo hi mx =>
    obtain ⟨a, h1, h2⟩ := b1_ok (o := evX E.ng tm x) h
    split at h2
    · rename_i lo' hi' mx' g1 g2 g3
      obtain ⟨v, h5, rfl⟩ := vS_ok h2
      exact OpR.here hH (sliceA_ok hE hH h5 (ev h1) (evO_ok hT hH g1) (evO_ok hT hH g2) (evO_ok hT hH g3))
    · cases h2
  | fieldAddr t x f =>
    obtain ⟨a, h1, h2⟩ := b1_ok (o := evX E.ng tm x) h
    obtain ⟨v, h5, rfl⟩ := vS_ok h2
    exact (faddrA_ok hE h5 (ev h1)).opr hH
  | field t x f =>
    obtain ⟨a, h1, h2⟩ := b1_ok (o := evX E.ng tm x) h
    obtain ⟨v, h5, rfl⟩ := vS_ok h2
    exact (fieldA_ok hE h5 (ev h1)).opr hH
  | indexAddr t x i =>
    obtain ⟨a, h1, h2⟩ := b1_ok (o := evX E.ng tm x) h
    obtain ⟨b, h3, h4⟩ := b1_ok h2
    obtain ⟨v, h5, rfl⟩ := vS_ok h4
    exact (iaddrA_ok hE h5 (ev h1) (ev h3)).opr hH
  | index t x i =>
    obtain ⟨a, h1, h2⟩ := b1_ok (o := evX E.ng tm x) h
    obtain ⟨b, h3, h4⟩ := b1_ok h2
    obtain ⟨v, h5, rfl⟩ := vS_ok h4
    exact (indexA_ok hE h5 (ev h1) (ev h3)).opr hH
  | lookup t x k ok =>
    obtain ⟨a, h1, h2⟩ := b1_ok (o := evX E.ng tm x) h
    obtain ⟨b, h3, h4⟩ := b1_ok h2
    obtain ⟨v, h5, rfl⟩ := vS_ok h4
    exact OpR.here hH (lookupA_ok hE hH h5 (ev h1) (ev h3))
  | mapUpdate t m k x =>
    obtain ⟨m', h1, h2⟩ := b1_ok (o := evX E.ng tm m) h
    obtain ⟨k', h3, h4⟩ := b1_ok h2
    obtain ⟨x', h5, h6⟩ := b1_ok h4
    obtain ⟨S', h7, rfl⟩ := vU_ok h6
    exact (mapUpdateA_ok hE h7 (ev h1) (ev h3) (ev h5)).opr hH
  | mapEntry t m k => cases h
  | entryStore t m s x => cases h
  | range t x => cases h
  | next i s => cases h
  | entry i => cases h
  | typeAssert x xt a ok =>
    obtain ⟨v, h1, h2⟩ := b1_ok (o := evX E.ng tm x) h
    obtain ⟨u, h5, rfl⟩ := vS_ok h2
    exact (tasA_ok hE h5 (ev h1) xt).opr hH
  | extract x i =>
    obtain ⟨a, h1, h2⟩ := b1_ok (o := evX E.ng tm x) h
    have ha := ev h1
    split at h2
    · rename_i l
      obtain ⟨v, h5, rfl⟩ := vS_ok h2
      rw [nth_eq] at h5
      refine OpR.here hH ?_
      generalize fr.eval x = u at ha ⊢
      cases ha with
      | tup hl =>
        obtain ⟨y, h6, h7⟩ := hl.nth i h5
        exact ⟨y, by simp [Instr.extract, h6], h7⟩
    · cases h2
  | call c =>
    obtain ⟨args, h1, h2⟩ := recb_ok (o := evXs E.ng tm c.args.toList) h
    have ha := evs_ok hT hH h1
    have e1 : c.args.map fr.eval = ⟨c.args.toList.map fr.eval⟩ := amap _ _
    obtain ⟨callee, cargs, ats⟩ := c
    cases callee with
    | value f =>
      obtain ⟨fv, h3, h4⟩ := b1_ok h2
      have := callV_ok hE hH h4 (ev h3) ha
      show OpR E γ S w (do let d ← resolve fr.eval _ type; invoke d.target d.args) r
      simp only [resolve]
      rw [e1]
      exact this
    | invoke a n => cases h2
    | builtin b =>
      show OpR E γ S w (do let d ← resolve fr.eval _ type; invoke d.target d.args) r
      simp only [resolve]
      rw [e1]
      simp only [pure_bind, invoke]
      exact builtA_ok hE hH h2 ha
  | go c => cases h
  | defer c =>
    obtain ⟨args, h1, h2⟩ := recb_ok (o := evXs E.ng tm c.args.toList) h
    have ha := evs_ok hT hH h1
    have e1 : c.args.map fr.eval = ⟨c.args.toList.map fr.eval⟩ := amap _ _
    obtain ⟨callee, cargs, ats⟩ := c
    cases callee with
    | value f =>
      obtain ⟨fv, h3, h4⟩ := b1_ok h2
      have hf := ev h3
      split at h4
      · rename_i f2 first cap
        cases h4
        generalize hfe : fr.eval f = fe at hf
        cases hf with
        | @fn _ _ first' cap' _ g1 g2 =>
          refine ⟨{ target := .fn (.func f2) ⟨cap'⟩, args := ⟨first' ++ cargs.toList.map fr.eval⟩ }, ?_, .call f2 (g1.append ha) g2⟩
          show (do let d ← resolve fr.eval _ type; pure (Next.defer d) : Sem Next).run E.P w = _
          simp only [resolve]
          rw [e1, hfe]
          simp [Deferred.ofValue]
      · cases h4
    | invoke a n => cases h2
    | builtin b => cases h2
  | panic x =>
    obtain ⟨v, h1, h2⟩ := b1_ok (o := evX E.ng tm x) h
    have hv := ev h1
    split at h2
    · cases h2
      generalize hfe : fr.eval x = fe at hv
      have hv' := hv
      cases hv with
      | ifc t hv2 =>
        refine ⟨_, ?_, hv'⟩
        show (do pure (Next.value (← Instr.panic (fr.eval x))) : Sem Next).run E.P w = _
        rw [hfe]
        simp [Instr.panic, goPanic, Sem.run]
    · cases h2
  | send c x => cases h
  | recv t c ok => cases h
  | select cs b => cases h
end
end Go.AM
