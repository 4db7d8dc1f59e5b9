import Derived.Test.YtemimkkjkggcoaaGreatDoorGA2
/- The three ways in which the abstract heap changes: a new object, an object turned in place, an object that goes over to a new key. -/
namespace Go.AM

noncomputable def Hp.alloc (S : Hp) (o : AO) : Hp := Hp.rec (fun hp nx fl => ⟨T.set nx o hp, Ps.succ nx, fl⟩) S
noncomputable def Hp.put (S : Hp) (a : Ps) (o : AO) : Hp := Hp.rec (fun hp nx fl => ⟨T.set a o hp, nx, fl⟩) S
/-- a goes, the next key comes -/
noncomputable def Hp.move (S : Hp) (a : Ps) (o : AO) : Hp := Hp.rec (fun hp nx fl => ⟨T.set nx o (T.del a hp), Ps.succ nx, fl⟩) S

noncomputable def Gm.with (γ : Gm) (a : Ps) (L : Loc) : Gm := fun b => if b = a then some L else γ b
theorem Gm.with_same (γ : Gm) (a : Ps) (L : Loc) : Gm.with γ a L a = some L := by simp [Gm.with]
theorem Gm.with_ne (γ : Gm) {a b : Ps} (L : Loc) (h : b ≠ a) : Gm.with γ a L b = γ b := by simp [Gm.with, h]
theorem Gm.le_with {γ : Gm} {a : Ps} {L : Loc} (h : γ a = none) : Gm.le γ (Gm.with γ a L) := by
  intro b M hb
  by_cases e : b = a
  · subst e; rw [h] at hb; cases hb
  · rw [Gm.with_ne _ _ e]; exact hb

theorem HR.nx_none {γ : Gm} {ng : Nat} {S : Hp} {w : World} (h : HR γ ng S w) : γ S.nx = none := by
  cases e : γ S.nx with
  | none => rfl
  | some L => have := h.fresh _ _ e; omega
theorem HR.lt {γ : Gm} {ng : Nat} {S : Hp} {w : World} (h : HR γ ng S w) {a : Ps} {o : AO} (ha : S.hp.get a = some o) : a.idx < S.nx.idx := by
  obtain ⟨L, ob, h1, _⟩ := h.obj a o ha; exact h.fresh _ _ h1

theorem HR.alloc {γ : Gm} {ng : Nat} {S : Hp} {w w' : World} (h : HR γ ng S w) {o : AO} {ob : Obj} {siz : Nat} (hh : w'.heap = w.heap.push ob) (hos : (w'.os, w'.tape) = (w.os, w.tape)) (hout : w'.output = w.output)
    (ho : OR (γ.with S.nx ⟨w.heap.size, 0, siz⟩) ⟨w.heap.size, 0, siz⟩ o ob) :
    HR (γ.with S.nx ⟨w.heap.size, 0, siz⟩) ng (S.alloc o) w' ∧ Pres S γ w (S.alloc o) (γ.with S.nx ⟨w.heap.size, 0, siz⟩) w' := by
  have hn := h.nx_none
  have hle : Gm.le γ (γ.with S.nx ⟨w.heap.size, 0, siz⟩) := Gm.le_with hn
  have hold : ∀ r, r < w.heap.size → w'.heap[r]? = w.heap[r]? := fun r hr => by rw [hh, Array.getElem?_push_lt hr, Array.getElem?_eq_getElem hr]
  have hnew : w'.heap[w.heap.size]? = some ob := by rw [hh]; simp
  have hlt : ∀ (L : Loc) (ob : Obj), w.heap[L.blk]? = some ob → L.blk < w.heap.size := fun L ob e => (Array.getElem?_eq_some_iff.1 e).1
  have hget : ∀ a x, (S.alloc o).hp.get a = some x → (a = S.nx ∧ x = o) ∨ (a ≠ S.nx ∧ S.hp.get a = some x) := fun a x e => by
    by_cases ea : a = S.nx
    · left; subst ea; rw [show (S.alloc o).hp.get S.nx = some o from T.get_set_same _ _ _] at e; cases e; exact ⟨rfl, rfl⟩
    · right; rw [show (S.alloc o).hp.get a = S.hp.get a from T.get_set_ne (fun e' => ea e'.symm) _ _] at e; exact ⟨ea, e⟩
  refine ⟨⟨?_, ?_, ?_, ?_⟩, ⟨hle, by rw [hh]; simp, fun r hr _ => hold r hr, ?_, ?_, rfl, ?_, ?_, hos, hout, ?_⟩⟩
  · intro a x hx
    rcases hget a x hx with ⟨rfl, rfl⟩ | ⟨ea, hz⟩
    · exact ⟨_, ob, Gm.with_same _ _ _, hnew, ho⟩
    · obtain ⟨L, ob', h1, h2, h3⟩ := h.obj a x hz
      exact ⟨L, ob', hle _ _ h1, by rw [hold _ (hlt L ob' h2)]; exact h2, h3.mono hle⟩
  · intro a a' x x' L L' hx hx' hL hL' e
    rcases hget a x hx with ⟨rfl, rfl⟩ | ⟨ea, hz⟩
    · rcases hget a' x' hx' with ⟨rfl, rfl⟩ | ⟨ea', hz'⟩
      · rfl
      · obtain ⟨M, ob', h1, h2, _⟩ := h.obj a' x' hz'
        rw [Gm.with_same] at hL; cases hL
        rw [Gm.with_ne _ _ ea', h1] at hL'; cases hL'
        have := hlt _ _ h2; simp at e; omega
    · obtain ⟨M, ob', h1, h2, _⟩ := h.obj a x hz
      rw [Gm.with_ne _ _ ea, h1] at hL; cases hL
      rcases hget a' x' hx' with ⟨rfl, rfl⟩ | ⟨ea', hz'⟩
      · rw [Gm.with_same] at hL'; cases hL'
        have := hlt _ _ h2; simp at e; omega
      · rw [Gm.with_ne _ _ ea'] at hL'
        exact h.inj a a' x x' _ L' hz hz' h1 hL' e
  · intro a L e
    show a.idx < (Ps.succ S.nx).idx
    rw [Ps.idx_succ]
    by_cases ea : a = S.nx
    · subst ea; omega
    · rw [Gm.with_ne _ _ ea] at e; have := h.fresh _ _ e; omega
  · intro g hg
    obtain ⟨s, hs⟩ := h.glob g hg; exact ⟨s, hle _ _ hs⟩
  · intro a x L hx hfl' hL
    rcases hget a x hx with ⟨rfl, rfl⟩ | ⟨ea, hz⟩
    · rw [Gm.with_same] at hL; cases hL; exact .inl (Nat.le_refl _)
    · rw [Gm.with_ne _ _ ea] at hL; exact .inr ⟨a, x, L, hz, hfl', hL, rfl⟩
  · intro a x hx _
    have : a ≠ S.nx := fun e => by have := h.lt hx; rw [e] at this; omega
    show T.get a (T.set S.nx o S.hp) = _
    rw [T.get_set_ne (fun e' => this e'.symm)]; exact hx
  · show S.nx.idx ≤ (Ps.succ S.nx).idx; rw [Ps.idx_succ]; omega
  · intro a L e hlt'
    by_cases ea : a = S.nx
    · subst ea; omega
    · rw [Gm.with_ne _ _ ea] at e; exact e
  · intro a x hx _ hlt'
    rcases hget a x hx with ⟨rfl, rfl⟩ | ⟨ea, hz⟩
    · omega
    · exact hz

theorem HR.put {γ : Gm} {ng : Nat} {S : Hp} {w w' : World} (h : HR γ ng S w) {a : Ps} {o o' : AO} {ob' : Obj} {L : Loc} (ha : S.hp.get a = some o) (hL : γ a = some L) (hfl : S.fl ≤ a.idx)
    (hsz : w'.heap.size = w.heap.size) (hne : ∀ r, r ≠ L.blk → w'.heap[r]? = w.heap[r]?) (hat : w'.heap[L.blk]? = some ob') (ho : OR γ L o' ob') (hos : (w'.os, w'.tape) = (w.os, w.tape)) (hout : w'.output = w.output) :
    HR γ ng (S.put a o') w' ∧ Pres S γ w (S.put a o') γ w' := by
  have hget : ∀ b x, (S.put a o').hp.get b = some x → (b = a ∧ x = o') ∨ (b ≠ a ∧ S.hp.get b = some x) := fun b x e => by
    by_cases ea : b = a
    · left; subst ea; rw [show (S.put b o').hp.get b = some o' from T.get_set_same _ _ _] at e; cases e; exact ⟨rfl, rfl⟩
    · right; rw [show (S.put a o').hp.get b = S.hp.get b from T.get_set_ne (fun e' => ea e'.symm) _ _] at e; exact ⟨ea, e⟩
  refine ⟨⟨?_, ?_, h.fresh, h.glob⟩, ⟨Gm.le_refl _, by omega, ?_, ?_, ?_, rfl, Nat.le_refl _, fun _ _ e _ => e, hos, hout, ?_⟩⟩
  · intro b x hx
    rcases hget b x hx with ⟨rfl, rfl⟩ | ⟨eb, hz⟩
    · exact ⟨L, ob', hL, hat, ho⟩
    · obtain ⟨M, ob, h1, h2, h3⟩ := h.obj b x hz
      refine ⟨M, ob, h1, ?_, h3⟩
      rw [hne _ (fun e => eb (h.inj b a x o M L hz ha h1 hL e))]; exact h2
  · intro b b' x x' M M' hx hx' hM hM' e
    rcases hget b x hx with ⟨rfl, rfl⟩ | ⟨eb, hz⟩
    · rcases hget b' x' hx' with ⟨rfl, rfl⟩ | ⟨eb', hz'⟩
      · rfl
      · exact h.inj b b' o x' M M' ha hz' hM hM' e
    · rcases hget b' x' hx' with ⟨rfl, rfl⟩ | ⟨eb', hz'⟩
      · exact h.inj b b' x o M M' hz ha hM hM' e
      · exact h.inj b b' x x' M M' hz hz' hM hM' e
  · intro r _ hr
    by_cases e : r = L.blk
    · exact absurd e.symm (hr a o L ha hfl hL)
    · exact hne r e
  · intro b x M hx hf hM
    rcases hget b x hx with ⟨rfl, rfl⟩ | ⟨eb, hz⟩
    · exact .inr ⟨b, o, M, ha, hf, hM, rfl⟩
    · exact .inr ⟨b, x, M, hz, hf, hM, rfl⟩
  · intro b x hx hb
    have : b ≠ a := fun e => by rw [e] at hb; omega
    show T.get b (T.set a o' S.hp) = _
    rw [T.get_set_ne (fun e' => this e'.symm)]; exact hx
  · intro b x hx hb _
    rcases hget b x hx with ⟨rfl, rfl⟩ | ⟨eb, hz⟩
    · omega
    · exact hz

theorem HR.move {γ : Gm} {ng : Nat} {S : Hp} {w w' : World} (h : HR γ ng S w) {a : Ps} {o o' : AO} {ob' : Obj} {L L' : Loc} (ha : S.hp.get a = some o) (hL : γ a = some L) (hfl : S.fl ≤ a.idx)
    (hblk : L'.blk = L.blk)
    (hsz : w'.heap.size = w.heap.size) (hne : ∀ r, r ≠ L.blk → w'.heap[r]? = w.heap[r]?) (hat : w'.heap[L.blk]? = some ob') (ho : OR (γ.with S.nx L') L' o' ob') (hos : (w'.os, w'.tape) = (w.os, w.tape)) (hout : w'.output = w.output) :
    HR (γ.with S.nx L') ng (S.move a o') w' ∧ Pres S γ w (S.move a o') (γ.with S.nx L') w' := by
  have hn := h.nx_none
  have hle : Gm.le γ (γ.with S.nx L') := Gm.le_with hn
  have hana : a ≠ S.nx := fun e => by have := h.lt ha; rw [e] at this; omega
  have hget : ∀ b x, (S.move a o').hp.get b = some x → (b = S.nx ∧ x = o') ∨ (b ≠ S.nx ∧ b ≠ a ∧ S.hp.get b = some x) := fun b x e => by
    by_cases ea : b = S.nx
    · left; subst ea; rw [show (S.move a o').hp.get S.nx = some o' from T.get_set_same _ _ _] at e; cases e; exact ⟨rfl, rfl⟩
    · right
      rw [show (S.move a o').hp.get b = T.get b (T.del a S.hp) from T.get_set_ne (fun e' => ea e'.symm) _ _] at e
      by_cases eb : b = a
      · subst eb; rw [T.get_del_same] at e; cases e
      · rw [T.get_del_ne (fun e' => eb e'.symm)] at e; exact ⟨ea, eb, e⟩
  refine ⟨⟨?_, ?_, ?_, ?_⟩, ⟨hle, by omega, ?_, ?_, ?_, rfl, ?_, ?_, hos, hout, ?_⟩⟩
  · intro b x hx
    rcases hget b x hx with ⟨rfl, rfl⟩ | ⟨eb, eb', hz⟩
    · exact ⟨L', ob', Gm.with_same _ _ _, by rw [hblk]; exact hat, ho⟩
    · obtain ⟨M, ob, h1, h2, h3⟩ := h.obj b x hz
      refine ⟨M, ob, hle _ _ h1, ?_, h3.mono hle⟩
      rw [hne _ (fun e => eb' (h.inj b a x o M L hz ha h1 hL e))]; exact h2
  · intro b b' x x' M M' hx hx' hM hM' e
    have key : ∀ b x M, b ≠ S.nx → b ≠ a → S.hp.get b = some x → γ.with S.nx L' b = some M → M.blk ≠ L.blk := fun b x M e1 e2 hx hM e => by
      rw [Gm.with_ne _ _ e1] at hM
      exact e2 (h.inj b a x o M L hx ha hM hL e)
    rcases hget b x hx with ⟨rfl, rfl⟩ | ⟨eb, eb2, hz⟩
    · rcases hget b' x' hx' with ⟨rfl, rfl⟩ | ⟨eb', eb2', hz'⟩
      · rfl
      · rw [Gm.with_same] at hM; cases hM
        exact absurd (e.symm.trans hblk) (key b' x' M' eb' eb2' hz' hM')
    · rcases hget b' x' hx' with ⟨rfl, rfl⟩ | ⟨eb', eb2', hz'⟩
      · rw [Gm.with_same] at hM'; cases hM'
        exact absurd (e.trans hblk) (key b x M eb eb2 hz hM)
      · rw [Gm.with_ne _ _ eb] at hM; rw [Gm.with_ne _ _ eb'] at hM'
        exact h.inj b b' x x' M M' hz hz' hM hM' e
  · intro b M e
    show b.idx < (Ps.succ S.nx).idx
    rw [Ps.idx_succ]
    by_cases ea : b = S.nx
    · subst ea; omega
    · rw [Gm.with_ne _ _ ea] at e; have := h.fresh _ _ e; omega
  · intro g hg
    obtain ⟨s, hs⟩ := h.glob g hg; exact ⟨s, hle _ _ hs⟩
  · intro r _ hr
    by_cases e : r = L.blk
    · exact absurd e.symm (hr a o L ha hfl hL)
    · exact hne r e
  · intro b x M hx hf hM
    rcases hget b x hx with ⟨rfl, rfl⟩ | ⟨eb, eb2, hz⟩
    · rw [Gm.with_same] at hM; cases hM; exact .inr ⟨a, o, L, ha, hfl, hL, hblk.symm⟩
    · rw [Gm.with_ne _ _ eb] at hM; exact .inr ⟨b, x, M, hz, hf, hM, rfl⟩
  · intro b x hx hb
    have h1 : b ≠ S.nx := fun e => by have := h.lt hx; rw [e] at this; omega
    have h2 : b ≠ a := fun e => by rw [e] at hb; omega
    show T.get b (T.set S.nx o' (T.del a S.hp)) = _
    rw [T.get_set_ne (fun e' => h1 e'.symm), T.get_del_ne (fun e' => h2 e'.symm)]; exact hx
  · show S.nx.idx ≤ (Ps.succ S.nx).idx; rw [Ps.idx_succ]; omega
  · intro b M e hlt'
    by_cases ea : b = S.nx
    · subst ea; omega
    · rw [Gm.with_ne _ _ ea] at e; exact e
  · intro b x hx _ hlt'
    rcases hget b x hx with ⟨rfl, rfl⟩ | ⟨eb, eb2, hz⟩
    · omega
    · exact hz

/-- cells of an object at its place in the model's block -/
theorem HR.cell {γ : Gm} {ng : Nat} {S : Hp} {w : World} (h : HR γ ng S w) {a : Ps} {c : List AV} {elem lo hi : Nat} {ex sty : Bool} {L : Loc} (ha : S.hp.get a = some (.cells c elem ex sty lo hi)) (hL : γ a = some L)
    {i : Nat} {x : AV} (hx : c[i]? = some x) : ∃ v, w.cell? ⟨L.blk, L.off + i, none⟩ = some v ∧ VR γ x v := by
  obtain ⟨M, ob, h1, h2, pre, cs, post, fz, rfl, h4, h5, h6, h7⟩ := h.obj a _ ha
  rw [hL] at h1; cases h1
  obtain ⟨v, hv, hr⟩ := h6.nth i hx
  refine ⟨v, ?_, hr⟩
  unfold World.cell?
  rw [h2]
  have hi : i < cs.length := (List.getElem?_eq_some_iff.1 hv).1
  simp only [Option.isSome_none, Bool.false_eq_true, if_false]
  rw [← h4, List.getElem?_toArray, List.append_assoc, List.getElem?_append_right (by omega)]
  rw [show pre.length + i - pre.length = i from by omega, List.getElem?_append_left hi]; exact hv

end Go.AM
