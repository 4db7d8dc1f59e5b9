import Derived.Test.YtemimkkjkggcoaaGreatDoorGA10
import Derived.Lib.SlBytesConst
/- Slice expressions; type assertions. -/
namespace Go.AM

def OVR (γ : Gm) : Option AV → Option Value → Prop
  | none, none => True
  | some a, some b => VR γ a b
  | _, _ => False

section
variable {E : Env} (hE : E.Ok) {γ : Gm}

noncomputable def leB (i : AV) (n : Nat) : Option Nat :=
  match i with
  | .int _ z => Int.rec (fun m => Bool.rec none (some m) (Nat.ble m n)) (fun _ => none) z
  | _ => none
theorem leB_ok {i : AV} {n m : Nat} (h : leB i n = some m) {i' : Value} (hi : VR γ i i') : ∃ k, i' = .int k (Int.ofNat m) ∧ m ≤ n := by
  unfold leB at h
  cases hi with
  | int k z =>
    cases z with
    | ofNat q =>
      obtain ⟨h1, h2⟩ := rec_some (b := Nat.ble q n) h
      cases h2
      exact ⟨k, rfl, Nat.le_of_ble_eq_true h1⟩
    | negSucc q => cases h
  | _ => cases h
noncomputable def bnd (i : Option AV) (d n : Nat) : Option Nat := match i with | none => some d | some v => leB v n

theorem run_sliceBound {P : Program} {k : IntKind} {m y : Nat} (h : m ≤ y) (code : BoundsCode) (w : World) : (Instr.sliceBound (.int k (Int.ofNat m)) y code).run P w = .ok m w := by
  simp only [Instr.sliceBound, asIntOf, Sem.run_bind, Sem.run_pure, Result.andThen_ok]
  rw [if_pos ⟨Int.natCast_nonneg m, Int.ofNat_le.2 h⟩]; rfl
/-- the three bounds -/
theorem run_bounds {P : Program} {isSlice : Bool} {len cap : Nat} {lo hi mx : Option AV} {lo' hi' mx' : Option Value} (hlo : OVR γ lo lo') (hhi : OVR γ hi hi') (hmx : OVR γ mx mx') (hm3 : mx.isSome = true → hi.isSome = true)
    {l h m : Nat} (hcm : ∀ v, mx = some v → leB v m = some m ∧ m ≤ cap) (hcm' : mx = none → m = cap) (hch : (hi = none → h = len) ∧ ∀ v, hi = some v → leB v h = some h ∧ h ≤ m) (hcl : bnd lo 0 h = some l) (w : World) :
    (Instr.sliceBounds isSlice len cap lo' hi' mx').run P w = .ok (l, h, m) w := by
  have hlo2 : ∀ code : BoundsCode, (match lo' with | some v => Instr.sliceBound v h code | none => (pure 0 : Sem Nat)).run P w = .ok l w := by
    intro code
    cases lo with
    | none => cases lo' with
      | none => cases hcl; rfl
      | some v => exact hlo.elim
    | some a => cases lo' with
      | none => exact hlo.elim
      | some v =>
        obtain ⟨k, rfl, hle⟩ := leB_ok hcl hlo
        exact run_sliceBound hle code w
  cases mx with
  | none => cases mx' with
    | some v => exact hmx.elim
    | none =>
      obtain rfl := hcm' rfl
      cases hi with
      | none => cases hi' with
        | some v => exact hhi.elim
        | none =>
          obtain rfl := hch.1 rfl
          have := hlo2 .sliceB
          unfold Instr.sliceBounds
          simp only [Sem.run_bind, Sem.run_pure, Result.andThen_ok]
          cases lo' <;> simp_all
      | some a => cases hi' with
        | none => exact hhi.elim
        | some v =>
          obtain ⟨hle1, hle⟩ := hch.2 a rfl
          obtain ⟨k, rfl, _⟩ := leB_ok hle1 hhi
          have := hlo2 .sliceB
          unfold Instr.sliceBounds
          simp only [Sem.run_bind, Sem.run_pure, Result.andThen_ok, run_sliceBound hle]
          cases lo' <;> simp_all
  | some b => cases mx' with
    | none => exact hmx.elim
    | some u =>
      obtain ⟨hm1, hm2⟩ := hcm b rfl
      obtain ⟨k, rfl, _⟩ := leB_ok hm1 hmx
      cases hi with
      | none => simp at hm3
      | some a => cases hi' with
        | none => exact hhi.elim
        | some v =>
          obtain ⟨hle1, hle⟩ := hch.2 a rfl
          obtain ⟨k2, rfl, _⟩ := leB_ok hle1 hhi
          have := hlo2 .slice3C
          unfold Instr.sliceBounds
          simp only [Sem.run_bind, Result.andThen_ok, run_sliceBound hle, run_sliceBound hm2]
          cases lo' <;> simp_all

/-- bounds in a known capacity -/
noncomputable def bnds (len cap : Nat) (lo hi mx : Option AV) : Option (Nat × Nat × Nat) :=
  match bnd mx cap cap with
  | none => none
  | some m => (match bnd hi len m with
    | none => none
    | some h => (match bnd lo 0 h with
      | none => none
      | some l => (match mx, hi with | some _, none => none | _, _ => Bool.rec none (some (l, h, m)) (Nat.ble h m))))
theorem leB_self {v : AV} {n m : Nat} (h : leB v n = some m) : leB v m = some m ∧ m ≤ n := by
  unfold leB at *
  cases v with
  | int k z =>
    cases z with
    | ofNat q =>
      obtain ⟨h1, h2⟩ := rec_some (b := Nat.ble q n) h
      cases h2
      refine ⟨?_, Nat.le_of_ble_eq_true h1⟩
      show (Bool.rec none (some m) (Nat.ble m m) : Option Nat) = some m
      rw [nat_ble_decide]; simp
    | negSucc q => cases h
  | _ => cases h
noncomputable def top3 (mx : Option AV) (cap m : Nat) : Nat := match mx with | none => cap | some _ => m
theorem bnds_wide {P : Program} {isSlice : Bool} {len lim cap : Nat} {lo hi mx : Option AV} {lo' hi' mx' : Option Value} (hlo : OVR γ lo lo') (hhi : OVR γ hi hi') (hmx : OVR γ mx mx') (hlim : lim ≤ cap) {l h m : Nat}
    (hb : bnds len lim lo hi mx = some (l, h, m)) (w : World) : (Instr.sliceBounds isSlice len cap lo' hi' mx').run P w = .ok (l, h, top3 mx cap m) w ∧ l ≤ h ∧ h ≤ m ∧ m ≤ lim ∧ (mx = none → m = lim) := by
  unfold bnds at hb
  cases h1 : bnd mx lim lim with
  | none => rw [h1] at hb; cases hb
  | some m1 =>
    rw [h1] at hb
    simp only at hb
    cases h2 : bnd hi len m1 with
    | none => rw [h2] at hb; cases hb
    | some h' =>
      rw [h2] at hb
      simp only at hb
      cases h3 : bnd lo 0 h' with
      | none => rw [h3] at hb; cases hb
      | some l' =>
        rw [h3] at hb
        simp only at hb
        have hno : ∀ v, mx = some v → hi = none → False := by
          intro v e1 e2
          subst e1; subst e2
          cases hb
        have hb' : (Bool.rec none (some (l', h', m1)) (Nat.ble h' m1) : Option (Nat × Nat × Nat)) = some (l, h, m) := by
          cases mx <;> cases hi <;> first | exact hb | cases hb
        obtain ⟨hble, hb2⟩ := rec_some hb'
        cases hb2
        have hlh : l ≤ h := by
          cases lo with
          | none => cases h3; exact Nat.zero_le _
          | some v => exact (leB_self h3).2
        have hmc : m ≤ lim := by
          cases mx with
          | none => cases h1; exact Nat.le_refl _
          | some v => exact (leB_self h1).2
        have hhm := Nat.le_of_ble_eq_true hble
        refine ⟨run_bounds hlo hhi hmx ?_ ?_ ?_ ⟨?_, ?_⟩ h3 w, hlh, hhm, hmc, ?_⟩
        · intro hs
          cases mx with
          | none => cases hs
          | some v => cases hi with
            | none => exact (hno v rfl rfl).elim
            | some u => rfl
        · intro v e; subst e
          exact ⟨(leB_self h1).1, Nat.le_trans hmc hlim⟩
        · intro e; subst e; rfl
        · intro e; subst e; cases h2; rfl
        · intro v e; subst e
          refine ⟨(leB_self h2).1, ?_⟩
          cases mx with
          | none => exact Nat.le_trans hhm (Nat.le_trans hmc hlim)
          | some v => exact hhm
        · intro e; subst e; cases h1; rfl
theorem bnds_ok {P : Program} {isSlice : Bool} {len cap : Nat} {lo hi mx : Option AV} {lo' hi' mx' : Option Value} (hlo : OVR γ lo lo') (hhi : OVR γ hi hi') (hmx : OVR γ mx mx') {l h m : Nat}
    (hb : bnds len cap lo hi mx = some (l, h, m)) (w : World) : (Instr.sliceBounds isSlice len cap lo' hi' mx').run P w = .ok (l, h, m) w ∧ l ≤ h ∧ h ≤ m ∧ m ≤ cap := by
  obtain ⟨h1, h2, h3, h4, h5⟩ := bnds_wide (P := P) (isSlice := isSlice) hlo hhi hmx (Nat.le_refl cap) hb w
  refine ⟨?_, h2, h3, h4⟩
  rw [h1]
  cases mx with
  | none => rw [h5 rfl]; rfl
  | some v => rfl

noncomputable def mulz (c : Bool) (o n : Nat) : Nat := Bool.rec (Nat.add o n) o c
/-- how far an alive block of unknown length surely goes, in elements, from an offset on -/
noncomputable def sure (S : Hp) (b : Ps) (o z len : Nat) : Nat :=
  match T.get b S.hp with
  | some (.cells c _ _ _ _ _) => Nat.max len (Nat.div (Nat.sub c.length o) z)
  | _ => len
noncomputable def sliceA (E : Env) (S : Hp) (t : Nat) (x : AV) (lo hi mx : Option AV) : Option AV :=
  match und E t with
  | some .string => (match x, mx with
      | .str s, none => (match bnds s.length s.length lo hi none with | some (l, h, _) => some (.str ((ldrop l s).take (Nat.sub h l))) | none => none)
      | _, _ => none)
  | some (.slice e) => (match sizeA E e with
      | none => none
      | some z => (match x with
        | .nils => (match bnds 0 0 lo hi mx with | some _ => some .nils | none => none)
        | .sl b o len cap => (match bnds len cap lo hi mx with | some (l, h, m) => some (.sl b (mulz (Nat.beq m l) o (Nat.mul l z)) (Nat.sub h l) (Nat.sub m l)) | none => none)
        | .su b o len z' => Bool.rec none (match mx with
            | some _ => (match bnds len (sure S b o z len) lo hi mx with | some (l, h, m) => some (.sl b (mulz (Nat.beq m l) o (Nat.mul l z)) (Nat.sub h l) (Nat.sub m l)) | none => none)
            | none => (match bnds len (sure S b o z len) lo hi none with
                | some (l, h, _) => Bool.rec none (some (.su b (Nat.add o (Nat.mul l z)) (Nat.sub h l) z)) (Bool.or (Nat.beq l 0) (Nat.blt l (sure S b o z len)))
                | none => none)) (Nat.beq z z')
        | _ => none))
  | some (.array n e) => (match sizeA E e, x with
      | some z, .ptr b o => (match bnds n n lo hi mx with | some (l, h, m) => some (.sl b (mulz (Nat.beq m l) o (Nat.mul l z)) (Nat.sub h l) (Nat.sub m l)) | none => none)
      | _, _ => none)
  | _ => none
theorem bytes_extract (s : ByteArray) (l h : Nat) : bytesOf (s.extract l h) = ((bytesOf s).drop l).take (h - l) := by
  unfold bytesOf
  rw [ByteArray.data_extract, Array.toList_extract, List.map_take, List.map_drop]
theorem sl_addr {b : Ps} {L : Loc} (hb : γ b = some L) {o l h m z : Nat} :
    VR γ (.sl b (mulz (Nat.beq m l) o (Nat.mul l z)) (Nat.sub h l) (Nat.sub m l)) (.slice (some (if m = l then (⟨L.blk, L.off + o, none⟩ : Addr) else (⟨L.blk, L.off + o, none⟩ : Addr).add (l * z))) (h - l) (m - l)) := by
  rw [nat_beq_decide]
  by_cases e : m = l
  · rw [decide_eq_true e, if_pos e]; exact .sl _ _ _ hb
  · rw [decide_eq_false e, if_neg e, addr_add, Nat.add_assoc]; exact .sl _ _ _ hb
theorem HR.sure {ng : Nat} {S : Hp} {w : World} (hH : HR γ ng S w) {b : Ps} {L : Loc} (hb : γ b = some L) {o z len cap : Nat} (hl : len ≤ cap) (hz : 0 < z) (he : L.off + o + cap * z = L.siz) : sure S b o z len ≤ cap := by
  unfold AM.sure
  split
  · rename_i c elem ex sty lo hi hc
    obtain ⟨M, ob, h1, h2, pre, cs, post, fz, rfl, h4, h5, h6, _⟩ := hH.obj b _ hc
    rw [hb] at h1; cases h1
    have e1 := h6.length
    simp at h5
    show max len ((c.length - o) / z) ≤ cap
    refine Nat.max_le.2 ⟨hl, ?_⟩
    rw [Nat.div_le_iff_le_mul_add_pred hz]
    have : z * cap = cap * z := Nat.mul_comm _ _
    omega
  · exact hl
include hE in
theorem sliceA_ok {S : Hp} {ng : Nat} {w : World} (hH : HR γ ng S w) {t : Nat} {x r : AV} {lo hi mx : Option AV} (h : sliceA E S t x lo hi mx = some r) {x' : Value} {lo' hi' mx' : Option Value} (hx : VR γ x x') (hlo : OVR γ lo lo')
    (hhi : OVR γ hi hi') (hmx : OVR γ mx mx') : ∃ v, (Instr.sliceAt t x' lo' hi' mx').run E.P w = .ok v w ∧ VR γ r v := by
  unfold sliceA at h
  split at h
  · rename_i hu
    split at h
    · rename_i s
      split at h
      · rename_i l hh m hb
        cases h
        cases hx with
        | str s =>
          cases mx' with
          | some v => exact hmx.elim
          | none =>
            obtain ⟨hr, _⟩ := bnds_ok (P := E.P) (isSlice := false) (mx := none) (mx' := none) hlo hhi trivial hb w
            rw [bytesOf_length] at hr
            refine ⟨.string (s.extract l hh), ?_, ?_⟩
            · simp only [Instr.sliceAt, Instr.slice, Sem.run_bind, run_und hE hu, Result.andThen_ok]
              simp [hr]
            · rw [ldrop_eq, show Nat.sub hh l = hh - l from rfl, ← bytes_extract]; exact .str _
      · cases h
    · cases h
  · rename_i e hu
    split at h
    · cases h
    · rename_i z hs
      split at h
      · split at h
        · rename_i q hb
          cases h
          cases hx
          obtain ⟨l, hh, m⟩ := q
          obtain ⟨hr, h1, h2, h3⟩ := bnds_ok (P := E.P) (isSlice := true) hlo hhi hmx hb w
          have : m = 0 := by omega
          have : hh = 0 := by omega
          have : l = 0 := by omega
          subst_vars
          refine ⟨.slice none 0 0, ?_, .nils⟩
          simp only [Instr.sliceAt, Instr.slice, Sem.run_bind, run_und hE hu, Result.andThen_ok, hr, run_size hE hs]
          rfl
        · cases h
      · rename_i b o len cap
        split at h
        · rename_i l hh m hb
          cases h
          cases hx with
          | @sl _ L _ _ _ hL =>
            obtain ⟨hr, h1, h2, h3⟩ := bnds_ok (P := E.P) (isSlice := true) hlo hhi hmx hb w
            refine ⟨_, ?_, sl_addr hL⟩
            simp only [Instr.sliceAt, Instr.slice, Sem.run_bind, run_und hE hu, Result.andThen_ok, hr, run_size hE hs]
            by_cases e2 : m = l
            · simp [e2]
            · simp [e2]
        · cases h
      · rename_i b o len z'
        obtain ⟨hzz, h9⟩ := rec_some h
        clear h
        have hz := Nat.eq_of_beq_eq_true hzz
        subst hz
        cases hx with
        | @su _ L _ _ cap _ hL hlc hz0 he =>
          have hsure := hH.sure hL hlc hz0 he
          split at h9
          · rename_i u
            split at h9
            · rename_i l hh m hb
              cases h9
              obtain ⟨hr, h1, h2, h3, _⟩ := bnds_wide (P := E.P) (isSlice := true) hlo hhi hmx hsure hb w
              refine ⟨_, ?_, sl_addr hL⟩
              simp only [Instr.sliceAt, Instr.slice, Sem.run_bind, run_und hE hu, Result.andThen_ok, hr, run_size hE hs, top3]
              by_cases e2 : m = l
              · simp [e2]
              · simp [e2]
            · cases h9
          · split at h9
            · rename_i l hh m hb
              obtain ⟨hor, h8⟩ := rec_some h9
              cases h8
              cases mx' with
              | some v => exact hmx.elim
              | none =>
                obtain ⟨hr, h1, h2, h3, hm⟩ := bnds_wide (P := E.P) (isSlice := true) hlo hhi hmx hsure hb w
                have hlm : l ≤ cap := by omega
                refine ⟨.slice (some ⟨L.blk, L.off + (o + l * z), none⟩) (hh - l) (cap - l), ?_, ?_⟩
                · simp only [Instr.sliceAt, Instr.slice, Sem.run_bind, run_und hE hu, Result.andThen_ok, hr, run_size hE hs, top3]
                  rw [nat_beq_decide, nat_blt_decide] at hor
                  simp only [Bool.or_eq_true, decide_eq_true_eq] at hor
                  rcases hor with h0 | h0
                  · subst h0
                    by_cases e2 : cap = 0
                    · simp [e2]
                    · simp [e2, addr_add]
                  · have e2 : ¬ cap = l := by omega
                    simp [e2, addr_add, Nat.add_assoc]
                · refine .su _ _ _ _ hL (show Nat.sub hh l ≤ cap - l from Nat.sub_le_sub_right (by omega) l) hz0 ?_
                  show L.off + (o + l * z) + (cap - l) * z = L.siz
                  rw [← he, Nat.sub_mul]
                  have : l * z ≤ cap * z := Nat.mul_le_mul_right z hlm
                  omega
            · cases h9
      · cases h
  · rename_i n e hu
    split at h
    · rename_i z b o hs
      split at h
      · rename_i l hh m hb
        cases h
        cases hx with
        | @ptr _ L _ hL =>
          obtain ⟨hr, h1, h2, h3⟩ := bnds_ok (P := E.P) (isSlice := false) hlo hhi hmx hb w
          refine ⟨_, ?_, sl_addr hL⟩
          simp only [Instr.sliceAt, Instr.sureAddr, Sem.run_bind, Sem.run_pure, run_und hE hu, Result.andThen_ok, hr, run_size hE hs]
      · cases h
    · cases h
  · cases h
end
end Go.AM
