import Derived.Test.YtemimkkjkggcoaaGreatDoorGA12
/- New memory: variables, boxes, literal slices, make. -/
namespace Go.AM

section
variable {E : Env} (hE : E.Ok) {γ : Gm}

theorem run_newObj {P : Program} {w : World} {o : Obj} : (Go.newObj o).run P w = .ok w.heap.size { w with heap := w.heap.push o } := rfl
/-- a new row of cells -/
theorem row_ok {P : Program} {ng : Nat} {S : Hp} {w : World} (hH : HR γ ng S w) {cs : List AV} {cs' : List Value} (hc : LR γ cs cs') (t : TypeId) :
    ∃ γ' w', (Go.newRow t ⟨cs'⟩).run P w = .ok ⟨w.heap.size, 0, none⟩ w' ∧ γ' S.nx = some ⟨w.heap.size, 0, cs'.length⟩ ∧ HR γ' ng (S.alloc (.cells cs t true false 0 0)) w' ∧ Pres S γ w (S.alloc (.cells cs t true false 0 0)) γ' w' := by
  have hle : Gm.le γ (γ.with S.nx ⟨w.heap.size, 0, cs'.length⟩) := Gm.le_with hH.nx_none
  refine ⟨γ.with S.nx ⟨w.heap.size, 0, cs'.length⟩, { w with heap := w.heap.push (.cells ⟨cs'⟩ t) }, ?_, Gm.with_same _ _ _, ?_⟩
  · simp only [Go.newRow, Sem.run_bind, run_newObj, Result.andThen_ok]; rfl
  · refine hH.alloc rfl rfl rfl ?_
    refine ⟨[], cs', [], (0, 0), by simp, rfl, by simp, hc.mono hle, ⟨fun p _ h1 h2 => by omega, fun _ => .inl rfl⟩, Nat.zero_le _, fun _ => ⟨rfl, rfl⟩⟩

noncomputable def newA (S : Hp) (t : Nat) (cs : List AV) : AV × Hp := (.ptr S.nx 0, S.alloc (.cells cs t true false 0 0))
theorem newVar_ok {P : Program} {ng : Nat} {S : Hp} {x : AV} {v : Value} (hx : VR γ x v) (t : TypeId) : Out P γ ng S (do pure (.pointer (some (← Go.newVar t v)))) (.ptr S.nx 0) (S.alloc (.cells (cellsA x) t true false 0 0)) := by
  intro w hH
  obtain ⟨γ', w', h1, h2, h3, h4⟩ := row_ok (P := P) hH (cells_ok hx) t
  refine ⟨γ', .pointer (some ⟨w.heap.size, 0, none⟩), w', ?_, ?_, h3, h4⟩
  · simp only [Go.newVar, Sem.run_bind]
    rw [show v.cells = ⟨v.cells.toList⟩ from rfl, h1]; rfl
  · exact .ptr (L := ⟨w.heap.size, 0, _⟩) 0 h2
noncomputable def allocA (E : Env) (S : Hp) (t : Nat) : Option (AV × Hp) := match zeroA E t with | some z => some (newA S t (cellsA z)) | none => none
include hE in
theorem allocA_ok {S S' : Hp} {t : Nat} {r : AV} (h : allocA E S t = some (r, S')) {ng : Nat} : Out E.P γ ng S (Instr.alloc t true (.tuple #[])) r S' := by
  unfold allocA at h
  split at h
  · rename_i z hz
    cases h
    obtain ⟨v, hv, hr⟩ := run_zero hE hz γ
    intro w hH
    obtain ⟨γ', u, w', h1, h2⟩ := newVar_ok (P := E.P) (ng := ng) (S := S) hr t w hH
    refine ⟨γ', u, w', ?_, h2⟩
    simp only [Instr.alloc, Sem.run_bind, hv w, Result.andThen_ok]
    exact h1
  · cases h
theorem box_ok {P : Program} {S : Hp} {t : Nat} {x : AV} {v : Value} (hx : VR γ x v) {ng : Nat} : Out P γ ng S (Instr.box t v) (.ptr S.nx 0) (S.alloc (.cells (cellsA x) t true false 0 0)) := by
  unfold Instr.box; exact newVar_ok hx t

/-! repeated cells -/
noncomputable def zrep (n : Nat) (l : List AV) : List AV := Nat.rec [] (fun _ ih => List.append l ih) n
theorem zrep_LR {l : List AV} {l' : List Value} (h : LR γ l l') (n : Nat) : LR γ (zrep n l) ((List.replicate n l').flatten) := by
  induction n with
  | zero => exact .nil
  | succ n ih => show LR γ (l ++ zrep n l) _; rw [List.replicate_succ, List.flatten_cons]; exact h.append ih
theorem zrep_length (l : List AV) (n : Nat) : (zrep n l).length = n * l.length := by
  induction n with
  | zero => show ([] : List AV).length = _; simp
  | succ n ih => show (l ++ zrep n l).length = _; rw [List.length_append, ih, Nat.succ_mul]; omega
theorem flatten_rep_get {l : List Value} (n i : Nat) (h : i < n * l.length) : ((List.replicate n l).flatten)[i]? = l[i % l.length]? := by
  induction n generalizing i with
  | zero => simp at h
  | succ n ih =>
    rw [List.replicate_succ, List.flatten_cons]
    by_cases e : i < l.length
    · rw [List.getElem?_append_left e, Nat.mod_eq_of_lt e]
    · rw [List.getElem?_append_right (by omega), ih (i - l.length) (by rw [Nat.succ_mul] at h; omega)]
      rw [Nat.mod_eq_sub_mod (a := i) (by omega)]
theorem range_rep (z : Array Value) (n k : Nat) (hk : z.size = k) (h0 : 0 < k) : (Array.range (n * k)).map (fun i => z[i % z.size]!) = ⟨(List.replicate n z.toList).flatten⟩ := by
  apply Array.ext_getElem?
  intro i
  rw [Array.getElem?_map]
  by_cases e : i < n * k
  · rw [Array.getElem?_range, if_pos e]
    have hz : z.toList.length = k := by simpa using hk
    rw [List.getElem?_toArray, flatten_rep_get n i (by rw [hz]; exact e)]
    have hlt : i % z.size < z.size := Nat.mod_lt _ (by omega)
    simp [hlt]
  · rw [Array.getElem?_range, if_neg e]
    rw [List.getElem?_toArray, List.getElem?_eq_none]
    · rfl
    · simp [hk]; omega

noncomputable def buildSA (E : Env) (S : Hp) (t len : Nat) (parts : List (Nat × AV)) : Option (AV × Hp) :=
  match und E t with
  | some (.slice e) => (match sizeA E e, zeroA E e with
      | some z, some zero => (match Nat.beq (cellsA zero).length z, Nat.ble (Nat.mul len z) 16777216, Nat.blt 0 z with
        | true, true, true => (match fillM (fun i => some (Nat.mul i z, z)) parts (zrep len (cellsA zero)) with
            | some cs => some (.sl S.nx 0 len len, S.alloc (.cells cs e true false 0 0))
            | none => none)
        | _, _, _ => none)
      | _, _ => none)
  | _ => none
include hE in
theorem buildSA_ok {S S' : Hp} {t len : Nat} {parts : List (Nat × AV)} {r : AV} (h : buildSA E S t len parts = some (r, S')) {parts' : List (Nat × Value)} (hp : PR γ parts parts') {ng : Nat} :
    Out E.P γ ng S (Instr.buildSlice t len ⟨parts'⟩) r S' := by
  unfold buildSA at h
  simp only [fillM_eq] at h
  split at h
  · rename_i e hu
    split at h
    · rename_i z zero hs hz
      split at h
      · rename_i h1 h2 h3
        split at h
        · rename_i cs hf
          cases h
          intro w hH
          obtain ⟨v, hv, hr⟩ := run_zero hE hz γ
          have e1 := Nat.eq_of_beq_eq_true h1
          have e2 : len * z ≤ 2 ^ 24 := Nat.le_of_ble_eq_true h2
          have e3 : 0 < z := by rw [nat_blt_decide] at h3; exact of_decide_eq_true h3
          have hc := cells_ok hr
          have hzs : v.cells.size = z := by rw [← Array.length_toList, hc.length]; exact e1
          obtain ⟨out, ho, hro⟩ := fillA_ok hp (zrep_LR hc len) hf
          obtain ⟨γ', w', g1, g2, g3, g4⟩ := row_ok (P := E.P) hH hro e
          refine ⟨γ', .slice (some ⟨w.heap.size, 0, none⟩) len len, w', ?_, ?_, g3, g4⟩
          · simp only [Instr.buildSlice, Sem.run_bind, run_und hE hu, Result.andThen_ok, run_size hE hs]
            rw [if_neg (by omega)]
            by_cases hl : len * z = 0
            · have hl0 : len = 0 := by
                rcases Nat.mul_eq_zero.1 hl with h | h
                · exact h
                · omega
              subst hl0
              simp only [Nat.zero_mul, if_true, Sem.run_bind, Sem.run_pure, Result.andThen_ok]
              rw [show ((Array.range 0).map fun x => (#[] : Array Value)[x % (#[] : Array Value).size]!) = ⟨(List.replicate 0 v.cells.toList).flatten⟩ from by simp]
              rw [show (fun i => some (i * z, z)) = (fun i => some (Nat.mul i z, z)) from rfl, ho]
              simp only [Sem.run_bind, g1, Result.andThen_ok]; rfl
            · rw [if_neg hl]
              simp only [Sem.run_bind, hv w, Sem.run_pure, Result.andThen_ok]
              rw [range_rep v.cells len z hzs e3]
              rw [show (fun i => some (i * z, z)) = (fun i => some (Nat.mul i z, z)) from rfl, ho]
              simp only [Sem.run_bind, g1, Result.andThen_ok]; rfl
          · exact .sl (L := ⟨w.heap.size, 0, _⟩) 0 len len g2
        · cases h
      · cases h
    · cases h
  · cases h

noncomputable def nat? (x : AV) : Option Nat := match x with | .int _ z => Int.rec (fun n => some n) (fun _ => none) z | _ => none
theorem nat?_ok {x : AV} {n : Nat} (h : nat? x = some n) {v : Value} (hx : VR γ x v) : ∃ k, v = .int k (Int.ofNat n) := by
  unfold nat? at h
  cases hx with
  | int k z => cases z with
    | ofNat m => cases h; exact ⟨k, rfl⟩
    | negSucc m => cases h
  | _ => cases h
noncomputable def makeSA (E : Env) (S : Hp) (t : Nat) (l c : AV) : Option (AV × Hp) :=
  match und E t with
  | some (.slice e) => (match info E e, zeroA E e, nat? l, nat? c with
      | some i, some zero, some l, some c => (match Nat.beq (cellsA zero).length i.size, Nat.ble c 1099511627776, Nat.ble (Nat.mul i.bytes c) 1099511627776, Nat.ble l c, Nat.blt 0 i.size with
        | true, true, true, true, true => some (.sl S.nx 0 l c, S.alloc (.cells (zrep c (cellsA zero)) e true false 0 0))
        | _, _, _, _, _ => none)
      | _, _, _, _ => none)
  | _ => none
theorem run_askRoom {P : Program} {n : Nat} {w : World} : (Go.askRoom n).run P w = .ok () w := by
  unfold Go.askRoom; split <;> rfl
include hE in
theorem makeSA_ok {S S' : Hp} {t : Nat} {l c r : AV} (h : makeSA E S t l c = some (r, S')) {l' c' : Value} (hl : VR γ l l') (hc : VR γ c c') {ng : Nat} : Out E.P γ ng S (Instr.makeSlice t l' c') r S' := by
  unfold makeSA at h
  split at h
  · rename_i e hu
    split at h
    · rename_i i zero n m hi hz hn hm
      split at h
      · rename_i h1 h2 h3 h4 h5
        cases h
        intro w hH
        obtain ⟨k1, rfl⟩ := nat?_ok hn hl
        obtain ⟨k2, rfl⟩ := nat?_ok hm hc
        obtain ⟨v, hv, hr⟩ := run_zero hE hz γ
        have e1 := Nat.eq_of_beq_eq_true h1
        have e2 := Nat.le_of_ble_eq_true h2
        have e3 : i.bytes * m ≤ 1099511627776 := Nat.le_of_ble_eq_true h3
        have e4 := Nat.le_of_ble_eq_true h4
        have e5 : 0 < i.size := by rw [nat_blt_decide] at h5; exact of_decide_eq_true h5
        have hcl := cells_ok hr
        have hzs : v.cells.size = i.size := by rw [← Array.length_toList, hcl.length]; exact e1
        have hs : sizeA E e = some i.size := by unfold sizeA; rw [hi]
        obtain ⟨γ', w', g1, g2, g3, g4⟩ := row_ok (P := E.P) hH (zrep_LR hcl m) e
        have wn : IntKind.i64.wrap (Int.ofNat n) = n := by
          rw [wrap_of_range]
          · rfl
          · rw [show IntKind.i64.min = -9223372036854775808 from by decide]; simp only [Int.ofNat_eq_natCast]; omega
          · rw [show IntKind.i64.max = 9223372036854775807 from by decide]; simp only [Int.ofNat_eq_natCast]; omega
        have wm : IntKind.i64.wrap (Int.ofNat m) = m := by
          rw [wrap_of_range]
          · rfl
          · rw [show IntKind.i64.min = -9223372036854775808 from by decide]; simp only [Int.ofNat_eq_natCast]; omega
          · rw [show IntKind.i64.max = 9223372036854775807 from by decide]; simp only [Int.ofNat_eq_natCast]; omega
        have hb : ¬ (((i.bytes : Int) * m) > 2 ^ 48) := by
          have : ((i.bytes * m : Nat) : Int) ≤ ((1099511627776 : Nat) : Int) := Int.ofNat_le.2 e3
          rw [Int.natCast_mul] at this
          omega
        refine ⟨γ', .slice (some ⟨w.heap.size, 0, none⟩) n m, w', ?_, ?_, g3, g4⟩
        · simp only [Instr.makeSlice, Sem.run_bind, run_und hE hu, Result.andThen_ok, Go.asInt, Go.asIntOf, Sem.run_pure, run_info hE hi, wn, wm]
          rw [if_neg ?_]
          · simp only [Sem.run_bind, run_askRoom, Result.andThen_ok, Int.toNat_natCast, run_size hE hs]
            by_cases hl : m * i.size = 0
            · have hl0 : m = 0 := by
                rcases Nat.mul_eq_zero.1 hl with h | h
                · exact h
                · omega
              subst hl0
              simp only [Nat.zero_mul, if_true, Sem.run_bind, Sem.run_pure, Result.andThen_ok]
              rw [show ((Array.range 0).map fun x => (#[] : Array Value)[x % (#[] : Array Value).size]!) = ⟨(List.replicate 0 v.cells.toList).flatten⟩ from by simp, g1]
              rfl
            · rw [if_neg hl]
              simp only [Sem.run_bind, hv w, Sem.run_pure, Result.andThen_ok]
              rw [range_rep v.cells m i.size hzs e5, g1]
              rfl
          · simp only [Bool.or_eq_true, decide_eq_true_eq, not_or]
            exact ⟨⟨⟨by omega, hb⟩, by omega⟩, by omega⟩
        · exact .sl (L := ⟨w.heap.size, 0, _⟩) 0 n m g2
      · cases h
    · cases h
  · cases h
end
end Go.AM
