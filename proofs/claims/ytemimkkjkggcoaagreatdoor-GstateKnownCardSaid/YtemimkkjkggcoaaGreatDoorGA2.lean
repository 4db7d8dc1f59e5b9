import Derived.Test.YtemimkkjkggcoaaGreatDoorGA1
/- The relation between abstract values, objects, heaps and the model's own. -/
namespace Go.AM

/-- where a block of the abstract heap lies: the model's block, the first cell, how many cells the block has -/
structure Loc where
  blk : Nat
  off : Nat
  siz : Nat

abbrev Gm := Ps → Option Loc
def Gm.le (γ γ' : Gm) : Prop := ∀ a L, γ a = some L → γ' a = some L
theorem Gm.le_refl (γ : Gm) : Gm.le γ γ := fun _ _ h => h
theorem Gm.le_trans {a b c : Gm} (h : Gm.le a b) (h' : Gm.le b c) : Gm.le a c := fun x L e => h' x L (h x L e)

def bytesOf (s : ByteArray) : List Nat := s.data.toList.map UInt8.toNat

mutual
inductive VR (γ : Gm) : AV → Value → Prop where
  | int (k : IntKind) (n : Int) : VR γ (.int k n) (.int k n)
  | bool (b : Bool) : VR γ (.bool b) (.bool b)
  | flt (k : FloatKind) (b : Nat) : VR γ (.flt k b) (.float k b)
  | str (s : ByteArray) : VR γ (.str (bytesOf s)) (.string s)
  | nilp : VR γ .nilp (.pointer none)
  | ptr {b : Ps} {L : Loc} (o : Nat) (h : γ b = some L) : VR γ (.ptr b o) (.pointer (some ⟨L.blk, L.off + o, none⟩))
  | nils : VR γ .nils (.slice none 0 0)
  | sl {b : Ps} {L : Loc} (o len cap : Nat) (h : γ b = some L) : VR γ (.sl b o len cap) (.slice (some ⟨L.blk, L.off + o, none⟩) len cap)
  | su {b : Ps} {L : Loc} (o len cap z : Nat) (h : γ b = some L) (hl : len ≤ cap) (hz : 0 < z) (he : L.off + o + cap * z = L.siz) :
      VR γ (.su b o len z) (.slice (some ⟨L.blk, L.off + o, none⟩) len cap)
  | nilm : VR γ .nilm (.map none)
  | mp {b : Ps} {L : Loc} (h : γ b = some L) : VR γ (.mp b) (.map (some L.blk))
  | fn {l c : List AV} {l' c' : List Value} (f : Nat) (h : LR γ l l') (hc : LR γ c c') : VR γ (.fn f l c) (.func (.func f) ⟨l'⟩ ⟨c'⟩)
  | yl {b : Ps} {L : Loc} (h : γ b = some L) : VR γ (.yl b) (.func (.yield L.blk) #[] #[])
  | nilf : VR γ .nilf .nilFunc
  | ifc {v : AV} {v' : Value} (t : Nat) (h : VR γ v v') : VR γ (.ifc t v) (.iface t v')
  | nili : VR γ .nili .nilIface
  | agg {l : List AV} {l' : List Value} (h : LR γ l l') : VR γ (.agg l) (.agg ⟨l'⟩)
  | tup {l : List AV} {l' : List Value} (h : LR γ l l') : VR γ (.tup l) (.tuple ⟨l'⟩)
inductive LR (γ : Gm) : List AV → List Value → Prop where
  | nil : LR γ [] []
  | cons {x : AV} {y : Value} {l : List AV} {l' : List Value} (h : VR γ x y) (t : LR γ l l') : LR γ (x :: l) (y :: l')
end

theorem VR.mono {γ γ' : Gm} (hg : Gm.le γ γ') {x : AV} {y : Value} (h : VR γ x y) : VR γ' x y :=
  VR.rec (γ := γ) (motive_1 := fun x y _ => VR γ' x y) (motive_2 := fun l l' _ => LR γ' l l')
    (fun k n => .int k n) (fun b => .bool b) (fun k b => .flt k b) (fun s => .str s) .nilp (fun o h => .ptr o (hg _ _ h)) .nils (fun o l c h => .sl o l c (hg _ _ h))
    (fun o l c z h hl hz he => .su o l c z (hg _ _ h) hl hz he) .nilm (fun h => .mp (hg _ _ h)) (fun f _ _ h hc => .fn f h hc) (fun h => .yl (hg _ _ h)) .nilf
    (fun t _ h => .ifc t h) .nili (fun _ h => .agg h) (fun _ h => .tup h) .nil (fun _ _ h t => .cons h t) h
theorem LR.mono {γ γ' : Gm} (hg : Gm.le γ γ') {l : List AV} {l' : List Value} (h : LR γ l l') : LR γ' l l' := by
  induction l generalizing l' with
  | nil => cases h; exact .nil
  | cons x l ih => cases h with | cons h t => exact .cons (h.mono hg) (ih t)

theorem LR.length {γ : Gm} {l : List AV} {l' : List Value} (h : LR γ l l') : l'.length = l.length := by
  induction l generalizing l' with
  | nil => cases h; rfl
  | cons x l ih => cases h with | cons h t => simp [ih t]
theorem LR.nth {γ : Gm} {l : List AV} {l' : List Value} (h : LR γ l l') (n : Nat) {x : AV} (hx : l[n]? = some x) : ∃ y, l'[n]? = some y ∧ VR γ x y := by
  induction l generalizing l' n with
  | nil => simp at hx
  | cons a l ih => cases h with
    | cons h t => cases n with
      | zero => simp at hx; subst hx; exact ⟨_, rfl, h⟩
      | succ m => simp at hx; simpa using ih t m hx
theorem LR.drop {γ : Gm} {l : List AV} {l' : List Value} (h : LR γ l l') (n : Nat) : LR γ (l.drop n) (l'.drop n) := by
  induction n generalizing l l' with
  | zero => exact h
  | succ n ih => cases h with
    | nil => exact .nil
    | cons h t => exact ih t
theorem LR.take {γ : Gm} {l : List AV} {l' : List Value} (h : LR γ l l') (n : Nat) : LR γ (l.take n) (l'.take n) := by
  induction n generalizing l l' with
  | zero => exact .nil
  | succ n ih => cases h with
    | nil => exact .nil
    | cons h t => exact .cons h (ih t)
theorem LR.append {γ : Gm} {a b : List AV} {a' b' : List Value} (h : LR γ a a') (k : LR γ b b') : LR γ (a ++ b) (a' ++ b') := by
  induction a generalizing a' with
  | nil => cases h; exact k
  | cons x a ih => cases h with | cons h t => exact .cons h (ih t)
theorem LR.lapp {γ : Gm} {a b : List AV} {a' b' : List Value} (h : LR γ a a') (k : LR γ b b') : LR γ (lapp a b) (a' ++ b') := by rw [lapp_eq]; exact h.append k
theorem LR.set {γ : Gm} {l : List AV} {l' : List Value} (h : LR γ l l') (n : Nat) {x : AV} {y : Value} (hx : VR γ x y) : LR γ (l.set n x) (l'.set n y) := by
  induction l generalizing l' n with
  | nil => cases h; exact .nil
  | cons a l ih => cases h with
    | cons h t => cases n with
      | zero => exact .cons hx t
      | succ m => exact .cons h (ih t m)

/-- the temporaries -/
def TR (γ : Gm) (tm : Tm) (tmps : Array Value) : Prop := ∀ i, VR γ (tget tm i) (tmps.getD i undef)
theorem TR.mono {γ γ' : Gm} (hg : Gm.le γ γ') {tm : Tm} {tmps : Array Value} (h : TR γ tm tmps) : TR γ' tm tmps := fun i => (h i).mono hg
theorem VR.undef {γ : Gm} : VR γ (.tup []) undef := .tup .nil
theorem TR.set {γ : Gm} {tm : Tm} {tmps : Array Value} (h : TR γ tm tmps) {d : Nat} (hd : d < tmps.size) {x : AV} {y : Value} (hx : VR γ x y) :
    TR γ (tset d x tm) (tmps.setIfInBounds d y) := by
  intro i
  by_cases e : d = i
  · subst e
    have h1 : tget (tset d x tm) d = x := tget_same _ _ _
    have h2 : (tmps.setIfInBounds d y).getD d Go.undef = y := by simp [Array.getD, hd]
    rw [h1, h2]; exact hx
  · have h1 : tget (tset d x tm) i = tget tm i := tget_ne e _ _
    have h2 : (tmps.setIfInBounds d y).getD i Go.undef = tmps.getD i Go.undef := by
      simp only [Array.getD_eq_getD_getElem?]
      rw [Array.getElem?_setIfInBounds_ne (by exact e)]
    rw [h1, h2]; exact h i

/-- a map's entries -/
inductive ER (γ : Gm) : List (AV × AV × Nat) → List MapEntry → Prop where
  | nil : ER γ [] []
  | cons {k v : AV} {k' v' : Value} {l : List (AV × AV × Nat)} {l' : List MapEntry} (n : Nat) (hk : VR γ k k') (hv : VR γ v v') (t : ER γ l l') :
      ER γ ((k, v, n) :: l) (⟨k', v', n⟩ :: l')
theorem ER.mono {γ γ' : Gm} (hg : Gm.le γ γ') {l : List (AV × AV × Nat)} {l' : List MapEntry} (h : ER γ l l') : ER γ' l l' := by
  induction h with
  | nil => exact .nil
  | cons n hk hv _ ih => exact .cons n (hk.mono hg) (hv.mono hg) ih

/-- the frozen range of a block: what it holds of the block's cells lies within the abstract range -/
def FzR (L : Loc) (sty : Bool) (lo hi : Nat) (fz : Nat × Nat) : Prop :=
  (∀ p, L.off ≤ p → fz.1 ≤ p → p < fz.2 → L.siz ≤ p ∨ (L.off + lo ≤ p ∧ p < L.off + hi)) ∧ (sty = false → fz.1 = fz.2 ∨ (lo < hi ∧ (lo = 0 ∨ L.off + lo ≤ fz.1) ∧ fz.2 ≤ L.off + hi))

/-- an abstract object and the model's -/
def OR (γ : Gm) (L : Loc) : AO → Obj → Prop
  | .cells c elem ex sty lo hi, ob => ∃ pre cs post fz, ob = .cells ⟨pre ++ cs ++ post⟩ elem fz ∧ pre.length = L.off ∧ (pre ++ cs ++ post).length = L.siz ∧ LR γ c cs ∧
      FzR L sty lo hi fz ∧ hi ≤ c.length ∧ (ex = true → pre = [] ∧ post = [])
  | .map es clock, ob => ∃ es', ob = .map ⟨es'⟩ clock ∧ ER γ es es'
  | .siter s pos, ob => ∃ b, ob = .stringIter b pos ∧ s = bytesOf b
  | .loop st pend fn nt tm ps assign body dfr, ob => ∃ tmps D, ob = .loop { state := st, pending := pend, fn := fn, tmps := tmps, params := ⟨ps⟩, assign := assign, body := body, defers := D.blk } ∧
      TR γ tm tmps ∧ γ dfr = some D ∧ tmps.size = nt
  | .dfr tk, ob => ob = .deferred (if tk then none else some [])
theorem OR.mono {γ γ' : Gm} (hg : Gm.le γ γ') {L : Loc} {o : AO} {ob : Obj} (h : OR γ L o ob) : OR γ' L o ob := by
  cases o with
  | cells c elem ex sty lo hi => obtain ⟨pre, cs, post, fz, h1, h2, h3, h4, h5⟩ := h; exact ⟨pre, cs, post, fz, h1, h2, h3, h4.mono hg, h5⟩
  | map es clock => obtain ⟨es', h1, h2⟩ := h; exact ⟨es', h1, h2.mono hg⟩
  | siter s pos => exact h
  | loop st pend fn nt tm ps assign body dfr => obtain ⟨tmps, D, h1, h2, h3, h4⟩ := h; exact ⟨tmps, D, h1, h2.mono hg, hg _ _ h3, h4⟩
  | dfr tk => exact h

/-- the heap. ng: so many global variables lie at their own places -/
structure HR (γ : Gm) (ng : Nat) (S : Hp) (w : World) : Prop where
  obj : ∀ a o, S.hp.get a = some o → ∃ L ob, γ a = some L ∧ w.heap[L.blk]? = some ob ∧ OR γ L o ob
  inj : ∀ a a' o o' L L', S.hp.get a = some o → S.hp.get a' = some o' → γ a = some L → γ a' = some L' → L.blk = L'.blk → a = a'
  fresh : ∀ a L, γ a = some L → a.idx < S.nx.idx
  glob : ∀ g, g < ng → ∃ s, γ (Ps.of g) = some ⟨g, 0, s⟩

/-- what a step leaves alone, and what it may have written -/
structure Pres (S : Hp) (γ : Gm) (w : World) (S' : Hp) (γ' : Gm) (w' : World) : Prop where
  ext : Gm.le γ γ'
  size : w.heap.size ≤ w'.heap.size
  keep : ∀ r, r < w.heap.size → (∀ a o L, S.hp.get a = some o → S.fl ≤ a.idx → γ a = some L → L.blk ≠ r) → w'.heap[r]? = w.heap[r]?
  desc : ∀ a o L, S'.hp.get a = some o → S'.fl ≤ a.idx → γ' a = some L → w.heap.size ≤ L.blk ∨ ∃ a₀ o₀ L₀, S.hp.get a₀ = some o₀ ∧ S.fl ≤ a₀.idx ∧ γ a₀ = some L₀ ∧ L₀.blk = L.blk
  old : ∀ a o, S.hp.get a = some o → a.idx < S.fl → S'.hp.get a = some o
  fl : S'.fl = S.fl
  nx : S.nx.idx ≤ S'.nx.idx
  new : ∀ a L, γ' a = some L → a.idx < S.nx.idx → γ a = some L
  os : (w'.os, w'.tape) = (w.os, w.tape)
  out : w'.output = w.output
  back : ∀ a o, S'.hp.get a = some o → a.idx < S.fl → a.idx < S.nx.idx → S.hp.get a = some o

theorem Pres.refl (S : Hp) (γ : Gm) (w : World) : Pres S γ w S γ w :=
  ⟨Gm.le_refl γ, Nat.le_refl _, fun _ _ _ => rfl, fun a o L h1 h2 h3 => .inr ⟨a, o, L, h1, h2, h3, rfl⟩, fun _ _ h _ => h, rfl, Nat.le_refl _, fun _ _ h _ => h, rfl, rfl, fun _ _ h _ _ => h⟩
theorem Pres.trans {S S' S'' : Hp} {γ γ' γ'' : Gm} {w w' w'' : World} (h : Pres S γ w S' γ' w') (k : Pres S' γ' w' S'' γ'' w'') : Pres S γ w S'' γ'' w'' where
  ext := Gm.le_trans h.ext k.ext
  size := Nat.le_trans h.size k.size
  keep := fun r hr hn => by
    rw [k.keep r (Nat.lt_of_lt_of_le hr h.size) ?_, h.keep r hr hn]
    intro a o L h1 h2 h3 e
    rcases h.desc a o L h1 h2 h3 with h4 | ⟨a₀, o₀, L₀, g1, g2, g3, g4⟩
    · omega
    · exact hn a₀ o₀ L₀ g1 g2 g3 (g4.trans e)
  desc := fun a o L h1 h2 h3 => by
    rcases k.desc a o L h1 h2 h3 with h4 | ⟨a₀, o₀, L₀, g1, g2, g3, g4⟩
    · exact .inl (Nat.le_trans h.size h4)
    · rw [h.fl] at g2
      rcases h.desc a₀ o₀ L₀ g1 (by rw [h.fl]; exact g2) g3 with h5 | ⟨a₁, o₁, L₁, f1, f2, f3, f4⟩
      · exact .inl (by omega)
      · exact .inr ⟨a₁, o₁, L₁, f1, f2, f3, f4.trans g4⟩
  old := fun a o h1 h2 => k.old a o (h.old a o h1 h2) (by rw [h.fl]; exact h2)
  fl := k.fl.trans h.fl
  nx := Nat.le_trans h.nx k.nx
  new := fun a L h1 h2 => h.new a L (k.new a L h1 (Nat.lt_of_lt_of_le h2 h.nx)) h2
  os := k.os.trans h.os
  out := k.out.trans h.out
  back := fun a o h1 h2 h3 => h.back a o (k.back a o h1 (by rw [h.fl]; exact h2) (Nat.lt_of_lt_of_le h3 h.nx)) h2 h3

end Go.AM
