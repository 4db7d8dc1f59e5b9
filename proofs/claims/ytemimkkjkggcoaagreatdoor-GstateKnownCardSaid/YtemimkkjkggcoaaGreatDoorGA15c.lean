import Derived.Test.YtemimkkjkggcoaaGreatDoorGA15
import Derived.Laws.BytesString
/- The string of a slice of bytes. -/
namespace Go.AM

noncomputable def byt (x : AV) : Option Nat := match x with | .int .u8 z => Int.rec (fun n => Bool.rec none (some n) (Nat.blt n 256)) (fun _ => none) z | _ => none
noncomputable def bys (l : List AV) : Option (List Nat) := List.rec (some []) (fun x _ ih => Option.rec none (fun n => Option.rec none (fun t => some (n :: t)) ih) (byt x)) l
theorem byt_ok {γ : Gm} {x : AV} {n : Nat} (h : byt x = some n) {v : Value} (hx : VR γ x v) : v = .int .u8 (Int.ofNat n) ∧ n < 256 := by
  unfold byt at h
  split at h
  · rename_i z
    cases z with
    | ofNat m =>
      obtain ⟨h1, h2⟩ := rec_some (b := Nat.blt m 256) h
      cases h2
      rw [nat_blt_decide] at h1
      cases hx
      exact ⟨rfl, of_decide_eq_true h1⟩
    | negSucc m => cases h
  · cases h
theorem bys_ok {γ : Gm} : ∀ {l : List AV} {r : List Nat}, bys l = some r → ∀ {vs : List Value}, LR γ l vs → vs = (r.map Int.ofNat).map (Value.int .u8) ∧ ∀ n ∈ r, n < 256
  | [], r, h, vs, hl => by cases h; cases hl; exact ⟨rfl, fun n hn => by cases hn⟩
  | x :: l, r, h, vs, hl => by
    have h' : (Option.rec none (fun n => Option.rec none (fun t => some (n :: t)) (bys l)) (byt x) : Option (List Nat)) = some r := h
    cases h1 : byt x with
    | none => rw [h1] at h'; cases h'
    | some n =>
      rw [h1] at h'
      cases h2 : bys l with
      | none => rw [h2] at h'; cases h'
      | some t =>
        rw [h2] at h'; cases h'
        cases hl with
        | cons hx ht =>
          obtain ⟨e1, e2⟩ := byt_ok h1 hx
          obtain ⟨e3, e4⟩ := bys_ok h2 ht
          refine ⟨by rw [e1, e3]; rfl, fun m hm => ?_⟩
          rcases List.mem_cons.1 hm with rfl | hm
          · exact e2
          · exact e4 m hm
theorem bytes_push : ∀ (r : List Nat) (s : ByteArray), (∀ n ∈ r, n < 256) → bytesOf ((r.map Int.ofNat).foldl (fun r n => r.push (UInt8.ofNat n.toNat)) s) = bytesOf s ++ r
  | [], s, _ => by simp
  | n :: r, s, h => by
    rw [List.map_cons, List.foldl_cons, bytes_push r _ (fun m hm => h m (List.mem_cons_of_mem _ hm))]
    have hn := h n (List.mem_cons_self ..)
    have : bytesOf (s.push (UInt8.ofNat (Int.ofNat n).toNat)) = bytesOf s ++ [n] := by
      unfold bytesOf
      simp [ByteArray.push, Nat.mod_eq_of_lt hn]
    rw [this]; simp
/-- the bytes of a slice -/
theorem rec1_ok {α β : Type} {o : Option α} {f : α → Option β} {r : β} (h : (Option.rec none f o : Option β) = some r) : ∃ x, o = some x ∧ f x = some r := by
  cases o with
  | none => cases h
  | some x => exact ⟨x, rfl, h⟩
noncomputable def rdB (S : Hp) (x : AV) : Option (List Nat) :=
  match x with
  | .nils => some []
  | .sl b o len _ => (match T.get b S.hp with | some (.cells c _ _ _ _ _) => Option.rec none bys (ltake len (ldrop o c)) | _ => none)
  | .su b o len _ => (match T.get b S.hp with | some (.cells c _ _ _ _ _) => Option.rec none bys (ltake len (ldrop o c)) | _ => none)
  | _ => none
noncomputable def isSl (x : AV) : Bool := match x with | .nils => true | .sl _ _ _ _ => true | .su _ _ _ _ => true | _ => false
noncomputable def conv2 (E : Env) (S : Hp) (s d : Nat) (x : AV) : Option AV :=
  match isSl x with
  | false => convA E s d x
  | true => (match und E s, und E d with
    | some (.slice e), some .string => (match und E e with | some (.int .u8) => Option.rec none (fun l => some (.str l)) (rdB S x) | _ => none)
    | _, _ => none)
theorem conv2_ok {E : Env} (hE : E.Ok) {γ : Gm} {S : Hp} {w : World} (hH : HR γ E.ng S w) {s d : Nat} {x r : AV} (h : conv2 E S s d x = some r) {x' : Value} (hx : VR γ x x') : ∃ v, (convert s d x').run E.P w = .ok v w ∧ VR γ r v := by
  unfold conv2 at h
  split at h
  · obtain ⟨v, h1, h2⟩ := convA_ok hE h hx w
    exact ⟨v, h1, h2⟩
  · split at h
    · rename_i e h1 h2
      split at h
      · rename_i h3
        obtain ⟨l, h4, h5⟩ := rec1_ok (o := rdB S x) h
        cases h5
        have key : ∀ (b : Ps) (o len cap : Nat) (L : Loc), γ b = some L → (match T.get b S.hp with | some (.cells c _ _ _ _ _) => Option.rec none bys (ltake len (ldrop o c)) | _ => (none : Option (List Nat))) = some l →
            ∃ v, (convert s d (.slice (some ⟨L.blk, L.off + o, none⟩) len cap)).run E.P w = .ok v w ∧ VR γ (.str l) v := by
          intro b o len cap L hL hb
          split at hb
          · rename_i c elem ex sty lo hi hg
            obtain ⟨l2, g1, g2⟩ := rec1_ok (o := ltake len (ldrop o c)) hb
            obtain ⟨vs, g3, g4, g5⟩ := hH.range hg hL g1 E.P
            obtain ⟨g6, g7⟩ := bys_ok g2 g4
            have hr := run_bytesToString (P := E.P) w ⟨L.blk, L.off + o, none⟩ len cap (l.map Int.ofNat) (by rw [g3, g6])
            refine ⟨_, (run_convert_bytes_string w s d e _ len cap (und_ok hE h1) (und_ok hE h3) (und_ok hE h2)).trans hr, ?_⟩
            have := bytes_push l ByteArray.empty g7
            have h0 : bytesOf ByteArray.empty = [] := rfl
            rw [h0, List.nil_append] at this
            have hv := VR.str (γ := γ) ((l.map Int.ofNat).foldl (fun r n => r.push (UInt8.ofNat n.toNat)) ByteArray.empty)
            rw [this] at hv
            exact hv
          · cases hb
        cases hx with
        | nils =>
          cases h4
          refine ⟨.string ByteArray.empty, ?_, VR.str ByteArray.empty⟩
          rw [run_convert_bytes_string w s d e _ 0 0 (und_ok hE h1) (und_ok hE h3) (und_ok hE h2)]
          rfl
        | sl o len cap hL => exact key _ o len cap _ hL h4
        | su o len cap z hL _ _ _ => exact key _ o len cap _ hL h4
        | _ => cases h4
      · cases h
    · cases h
end Go.AM
