import Derived.Test.YtemimkkjkggcoaaGreatDoorGA34
/- The heap while a drawn region runs. -/
namespace Go.AM

noncomputable def Gm.cut (γ : Gm) (k : Nat) : Gm := fun a => if a.idx < k then γ a else none
theorem Gm.cut_le (γ : Gm) (k : Nat) : Gm.le (γ.cut k) γ := by
  intro a L h
  unfold Gm.cut at h
  split at h
  · exact h
  · cases h
theorem Gm.cut_some {γ : Gm} {k : Nat} {a : Ps} {L : Loc} : γ.cut k a = some L ↔ a.idx < k ∧ γ a = some L := by
  unfold Gm.cut
  split
  · rename_i h; exact ⟨fun e => ⟨h, e⟩, fun e => e.2⟩
  · rename_i h; exact ⟨fun e => (by cases e), fun e => absurd e.1 h⟩
theorem Gm.cut_mono {γ γ' : Gm} {k k' : Nat} (h : Gm.le γ γ') (hk : k ≤ k') : Gm.le (γ.cut k) (γ'.cut k') := by
  intro a L e
  obtain ⟨h1, h2⟩ := Gm.cut_some.1 e
  exact Gm.cut_some.2 ⟨by omega, h _ _ h2⟩

/-- objects: key, object, and a bound on the keys that lie in it; D: keys that are taken -/
structure HInv (S : Hp) (γ0 : Gm) (w0 : World) (ng : Nat) (O : Ps → AO → Nat → Prop) (D : Nat → Prop) (γ : Gm) (w : World) : Prop where
  obj : ∀ a b c, O a b c → a.idx < c ∧ ∃ L ob, γ a = some L ∧ w.heap[L.blk]? = some ob ∧ OR (γ.cut c) L b ob
  inj : ∀ a a' b b' c c' L L', O a b c → O a' b' c' → γ a = some L → γ a' = some L' → L.blk = L'.blk → a = a'
  glob : ∀ g, g < ng → ∃ s, γ (Ps.of g) = some ⟨g, 0, s⟩
  dom : ∀ a L, γ a = some L → D a.idx
  ext : Gm.le γ0 γ
  size : w0.heap.size ≤ w.heap.size
  keep : ∀ r, r < w0.heap.size → (∀ a o L, S.hp.get a = some o → S.fl ≤ a.idx → γ0 a = some L → L.blk ≠ r) → w.heap[r]? = w0.heap[r]?
  desc : ∀ a b c L, O a b c → S.fl ≤ a.idx → γ a = some L → w0.heap.size ≤ L.blk ∨ ∃ a₀ o₀ L₀, S.hp.get a₀ = some o₀ ∧ S.fl ≤ a₀.idx ∧ γ0 a₀ = some L₀ ∧ L₀.blk = L.blk
  back : ∀ a b c, O a b c → a.idx < S.fl → S.hp.get a = some b
  new : ∀ a L, γ a = some L → a.idx < S.nx.idx → γ0 a = some L
  os : (w.os, w.tape) = (w0.os, w0.tape)
  out : w.output = w0.output

section
variable {S : Hp} {γ0 : Gm} {w0 : World} {ng : Nat} {O : Ps → AO → Nat → Prop} {D : Nat → Prop} {γ : Gm} {w : World}
theorem HInv.start (hH : HR γ ng S w) (c : Nat) (hc : S.nx.idx ≤ c) (D : Nat → Prop) (hD : ∀ n, n < S.nx.idx → D n) : HInv S γ w ng (fun a b k => T.get a S.hp = some b ∧ k = c) D γ w := by
  refine ⟨fun a b c' h => ?_, fun a a' b b' c c' L L' h h' => hH.inj a a' b b' L L' h.1 h'.1, hH.glob, fun a L e => hD _ (hH.fresh a L e), Gm.le_refl _, Nat.le_refl _, fun _ _ _ => rfl,
    fun a b c L h1 h2 h3 => .inr ⟨a, b, L, h1.1, h2, h3, rfl⟩, fun a b c h _ => h.1, fun _ _ e _ => e, rfl, rfl⟩
  obtain ⟨h1, rfl⟩ := h
  obtain ⟨L, ob, g1, g2, g3⟩ := hH.obj a b h1
  have := hH.fresh _ _ g1
  refine ⟨by omega, L, ob, g1, g2, g3.mono ?_⟩
  intro x L hx
  have := hH.fresh _ _ hx
  exact Gm.cut_some.2 ⟨by omega, hx⟩
/-- a part of the heap, as a heap -/
theorem HInv.sub (h : HInv S γ0 w0 ng O D γ w) {H : T AO} {k : Ps} {f : Nat} (hs : ∀ a b, T.get a H = some b → ∃ c, O a b c ∧ c ≤ k.idx) (hg : ng ≤ k.idx) : HR (γ.cut k.idx) ng ⟨H, k, f⟩ w := by
  refine ⟨fun a b hb => ?_, fun a a' b b' L L' hb hb' hL hL' e => ?_, fun a L e => (Gm.cut_some.1 e).1, fun g hgl => ?_⟩
  · obtain ⟨c, h1, h2⟩ := hs a b hb
    obtain ⟨h3, L, ob, h4, h5, h6⟩ := h.obj a b c h1
    exact ⟨L, ob, Gm.cut_some.2 ⟨by omega, h4⟩, h5, h6.mono (Gm.cut_mono (Gm.le_refl _) h2)⟩
  · obtain ⟨c, h1, h2⟩ := hs a b hb
    obtain ⟨c', h1', h2'⟩ := hs a' b' hb'
    exact h.inj a a' b b' c c' L L' h1 h1' (Gm.cut_some.1 hL).2 (Gm.cut_some.1 hL').2 e
  · obtain ⟨s, hs⟩ := h.glob g hgl
    exact ⟨s, Gm.cut_some.2 ⟨by rw [Ps.idx_of]; omega, hs⟩⟩

/-- the keys of a run are joined to the others -/
noncomputable def Gm.glue (γ γr : Gm) (k k' : Nat) : Gm := fun a => if k ≤ a.idx ∧ a.idx < k' then γr a else γ a

theorem HInv.next (h : HInv S γ0 w0 ng O D γ w) {H : T AO} {k : Ps} {f : Nat} {S' : Hp} {γr : Gm} {w' : World} {O' : Ps → AO → Nat → Prop}
    (hs : ∀ a b, T.get a H = some b → ∃ c, O a b c ∧ c ≤ k.idx) (hf : f ≤ k.idx) (hk : S.nx.idx ≤ k.idx) (hfl : S.fl ≤ k.idx)
    (hfH : ∀ a b, T.get a H = some b → f ≤ a.idx → S.fl ≤ a.idx)
    (hH' : HR γr ng S' w') (hP : Pres ⟨H, k, f⟩ (γ.cut k.idx) w S' γr w')
    (hD : ∀ n, D n → ¬ (k.idx ≤ n ∧ n < S'.nx.idx))
    (hO : ∀ a b c, O' a b c → (T.get a S'.hp = some b ∧ S'.nx.idx ≤ c ∧ (f = S.fl ∨ k.idx ≤ a.idx)) ∨ (O a b c ∧ (T.get a H = none ∨ k.idx ≤ f))) :
    HInv S γ0 w0 ng O' (fun n => D n ∨ (k.idx ≤ n ∧ n < S'.nx.idx)) (γ.glue γr k.idx S'.nx.idx) w' ∧ Gm.le γ (γ.glue γr k.idx S'.nx.idx) ∧ Gm.le γr ((γ.glue γr k.idx S'.nx.idx).cut S'.nx.idx) ∧
    ∀ a b c, O a b c → T.get a H = none → T.get a S'.hp = none := by
  have g1 : Gm.le γ (γ.glue γr k.idx S'.nx.idx) := by
    intro a L e
    unfold Gm.glue
    rw [if_neg (hD _ (h.dom a L e))]; exact e
  have g0 : ∀ a L, γr a = some L → a.idx < k.idx → γ a = some L := fun a L e hlt => (Gm.cut_some.1 (hP.new a L e hlt)).2
  have g2 : Gm.le γr ((γ.glue γr k.idx S'.nx.idx).cut S'.nx.idx) := by
    intro a L e
    have hlt := hH'.fresh a L e
    refine Gm.cut_some.2 ⟨hlt, ?_⟩
    unfold Gm.glue
    split
    · exact e
    · rename_i hn
      exact g0 a L e (by omega)
  have g3 : ∀ a L, (γ.glue γr k.idx S'.nx.idx) a = some L → γ a = some L ∨ (k.idx ≤ a.idx ∧ a.idx < S'.nx.idx ∧ γr a = some L) := by
    intro a L e
    unfold Gm.glue at e
    split at e
    · rename_i hh; exact .inr ⟨hh.1, hh.2, e⟩
    · exact .inl e
  have g4 : ∀ a b L, T.get a S'.hp = some b → (γ.glue γr k.idx S'.nx.idx) a = some L → γr a = some L := by
    intro a b L hb e
    obtain ⟨M, ob, h1, _⟩ := hH'.obj a b hb
    have := (Gm.cut_some.1 (g2 a M h1)).2
    rw [e] at this; cases this; exact h1
  -- the blocks of those that are left alone
  have g5 : ∀ a b c L, O a b c → (T.get a H = none ∨ k.idx ≤ f) → γ a = some L → w'.heap[L.blk]? = w.heap[L.blk]? := by
    intro a b c L ho hc hL
    obtain ⟨_, M, ob, h1, h2, _⟩ := h.obj a b c ho
    rw [hL] at h1; cases h1
    refine hP.keep L.blk (Array.getElem?_eq_some_iff.1 h2).1 (fun a1 b1 L1 hb1 hf1 hL1 e => ?_)
    obtain ⟨c1, ho1, hc1⟩ := hs a1 b1 hb1
    have hL1' := (Gm.cut_some.1 hL1).2
    rcases hc with hc | hc
    · have := h.inj a1 a b1 b c1 c L1 L ho1 ho hL1' hL e
      subst this
      have hb1 : T.get a1 H = some b1 := hb1
      rw [hc] at hb1; cases hb1
    · have := (Gm.cut_some.1 hL1).1
      have hf1 : f ≤ a1.idx := hf1
      omega
  -- a new one and an old one do not share a block
  have g6 : ∀ a b L a' b' c' L', T.get a S'.hp = some b → (f = S.fl ∨ k.idx ≤ a.idx) → γr a = some L → O a' b' c' → (T.get a' H = none ∨ k.idx ≤ f) → γ a' = some L' → L.blk = L'.blk → a = a' := by
    intro a b L a' b' c' L' hb hka hL ho' hc' hL' e
    by_cases hfa : f ≤ a.idx
    · rcases hP.desc a b L hb (by rw [hP.fl]; exact hfa) hL with hd | ⟨a0, o0, L0, d1, d2, d3, d4⟩
      · obtain ⟨_, M, ob, h1, h2, _⟩ := h.obj a' b' c' ho'
        rw [hL'] at h1; cases h1
        have := (Array.getElem?_eq_some_iff.1 h2).1
        omega
      · obtain ⟨c0, ho0, hc0⟩ := hs a0 o0 d1
        have := h.inj a0 a' o0 b' c0 c' L0 L' ho0 ho' (Gm.cut_some.1 d3).2 hL' (d4.trans e)
        subst this
        rcases hc' with hc' | hc'
        · have d1 : T.get a0 H = some o0 := d1
          rw [hc'] at d1; cases d1
        · have := (Gm.cut_some.1 d3).1
          have d2 : f ≤ a0.idx := d2
          omega
    · have hlt : a.idx < k.idx := by omega
      have hb0 := hP.back a b hb (by show a.idx < f; omega) hlt
      obtain ⟨c0, ho0, hc0⟩ := hs a b hb0
      exact h.inj a a' b b' c0 c' L L' ho0 ho' (g0 a L hL hlt) hL' e
  have g7 : ∀ a b c, O a b c → T.get a H = none → T.get a S'.hp = none := by
    intro a b c ho hn
    cases hb : T.get a S'.hp with
    | none => rfl
    | some b2 =>
      obtain ⟨_, M, ob, h1, h2, _⟩ := h.obj a b c ho
      have hg := g4 a b2 M hb (g1 _ _ h1)
      by_cases hfa : f ≤ a.idx
      · rcases hP.desc a b2 M hb (by rw [hP.fl]; exact hfa) hg with hd | ⟨a0, o0, L0, d1, d2, d3, d4⟩
        · have := (Array.getElem?_eq_some_iff.1 h2).1
          omega
        · obtain ⟨c0, ho0, hc0⟩ := hs a0 o0 d1
          have := h.inj a0 a o0 b c0 c L0 M ho0 ho (Gm.cut_some.1 d3).2 h1 d4
          subst this
          have d1 : T.get a0 H = some o0 := d1
          rw [hn] at d1; cases d1
      · have hb0 : T.get a H = some b2 := hP.back a b2 hb (by show a.idx < f; omega) (by show a.idx < k.idx; omega)
        rw [hn] at hb0; cases hb0
  refine ⟨⟨?_, ?_, ?_, ?_, Gm.le_trans h.ext g1, Nat.le_trans h.size hP.size, ?_, ?_, ?_, ?_, hP.os.trans h.os, hP.out.trans h.out⟩, g1, g2, g7⟩
  · intro a b c ho
    rcases hO a b c ho with ⟨h1, h2, h3⟩ | ⟨h1, h2⟩
    · obtain ⟨L, ob, e1, e2, e3⟩ := hH'.obj a b h1
      have := hH'.fresh _ _ e1
      refine ⟨by omega, L, ob, (Gm.cut_some.1 (g2 a L e1)).2, e2, e3.mono (Gm.le_trans g2 (Gm.cut_mono (Gm.le_refl _) h2))⟩
    · obtain ⟨e0, L, ob, e1, e2, e3⟩ := h.obj a b c h1
      exact ⟨e0, L, ob, g1 _ _ e1, by rw [g5 a b c L h1 h2 e1]; exact e2, e3.mono (Gm.cut_mono g1 (Nat.le_refl _))⟩
  · intro a a' b b' c c' L L' ho ho' hL hL' e
    have old : ∀ a b c L, O a b c → (γ.glue γr k.idx S'.nx.idx) a = some L → γ a = some L := fun a b c L ho hL => by
      obtain ⟨_, M, ob, h1, _⟩ := h.obj a b c ho
      have := g1 _ _ h1
      rw [hL] at this; cases this; exact h1
    rcases hO a b c ho with ⟨h1, h2, h3⟩ | ⟨h1, h2⟩
    · rcases hO a' b' c' ho' with ⟨h1', h2', h3'⟩ | ⟨h1', h2'⟩
      · exact hH'.inj a a' b b' L L' h1 h1' (g4 a b L h1 hL) (g4 a' b' L' h1' hL') e
      · exact g6 a b L a' b' c' L' h1 h3 (g4 a b L h1 hL) h1' h2' (old a' b' c' L' h1' hL') e
    · rcases hO a' b' c' ho' with ⟨h1', h2', h3'⟩ | ⟨h1', h2'⟩
      · exact (g6 a' b' L' a b c L h1' h3' (g4 a' b' L' h1' hL') h1 h2 (old a b c L h1 hL) e.symm).symm
      · exact h.inj a a' b b' c c' L L' h1 h1' (old a b c L h1 hL) (old a' b' c' L' h1' hL') e
  · intro g hgl
    obtain ⟨s, hs⟩ := h.glob g hgl
    exact ⟨s, g1 _ _ hs⟩
  · intro a L e
    rcases g3 a L e with e1 | ⟨e1, e2, _⟩
    · exact .inl (h.dom a L e1)
    · exact .inr ⟨e1, e2⟩
  · intro r hr hn
    rw [← h.keep r hr hn]
    refine hP.keep r (Nat.lt_of_lt_of_le hr h.size) (fun a b L hb hfa hL e => ?_)
    obtain ⟨c, ho, _⟩ := hs a b hb
    rcases h.desc a b c L ho (hfH a b hb hfa) (Gm.cut_some.1 hL).2 with d | ⟨a0, o0, L0, d1, d2, d3, d4⟩
    · omega
    · exact hn a0 o0 L0 d1 d2 d3 (d4.trans e)
  · intro a b c L ho hfa hL
    rcases hO a b c ho with ⟨h1, h2, h3⟩ | ⟨h1, h2⟩
    · have hL := g4 a b L h1 hL
      by_cases hff : f ≤ a.idx
      · rcases hP.desc a b L h1 (by rw [hP.fl]; exact hff) hL with hd | ⟨a0, o0, L0, d1, d2, d3, d4⟩
        · exact .inl (Nat.le_trans h.size hd)
        · obtain ⟨c0, ho0, _⟩ := hs a0 o0 d1
          rcases h.desc a0 o0 c0 L0 ho0 (hfH a0 o0 d1 d2) (Gm.cut_some.1 d3).2 with d | ⟨a1, o1, L1, f1, f2, f3, f4⟩
          · exact .inl (by omega)
          · exact .inr ⟨a1, o1, L1, f1, f2, f3, f4.trans d4⟩
      · have hlt : a.idx < k.idx := by omega
        have hb0 := hP.back a b h1 (by show a.idx < f; omega) hlt
        obtain ⟨c0, ho0, _⟩ := hs a b hb0
        exact h.desc a b c0 L ho0 hfa (g0 a L hL hlt)
    · obtain ⟨_, M, ob, e1, _⟩ := h.obj a b c h1
      have e2 := g1 _ _ e1
      rw [hL] at e2; cases e2
      exact h.desc a b c L h1 hfa e1
  · intro a b c ho hlt
    rcases hO a b c ho with ⟨h1, h2, h3⟩ | ⟨h1, h2⟩
    · rcases h3 with h3 | h3
      · have hb0 := hP.back a b h1 (by show a.idx < f; omega) (by show a.idx < k.idx; omega)
        obtain ⟨c0, ho0, _⟩ := hs a b hb0
        exact h.back a b c0 ho0 hlt
      · omega
    · exact h.back a b c h1 hlt
  · intro a L e hlt
    rcases g3 a L e with e1 | ⟨e1, e2, _⟩
    · exact h.new a L e1 hlt
    · omega
theorem HInv.weaken (h : HInv S γ0 w0 ng O D γ w) {O' : Ps → AO → Nat → Prop} {D' : Nat → Prop} (hO : ∀ a b c, O' a b c → O a b c) (hD : ∀ n, D n → D' n) : HInv S γ0 w0 ng O' D' γ w :=
  ⟨fun a b c ho => h.obj a b c (hO a b c ho), fun a a' b b' c c' L L' ho ho' => h.inj a a' b b' c c' L L' (hO _ _ _ ho) (hO _ _ _ ho'), h.glob, fun a L e => hD _ (h.dom a L e), h.ext, h.size, h.keep,
    fun a b c L ho => h.desc a b c L (hO _ _ _ ho), fun a b c ho => h.back a b c (hO _ _ _ ho), h.new, h.os, h.out⟩
/-- at the end: a heap again -/
theorem HInv.final (h : HInv S γ0 w0 ng O D γ w) {H : T AO} {k : Ps} (hs : ∀ a b, T.get a H = some b → ∃ c, O a b c) (hold : ∀ a b, T.get a S.hp = some b → a.idx < S.fl → T.get a H = some b)
    (hD : ∀ n, D n → n < k.idx) (hk : S.nx.idx ≤ k.idx) : HR γ ng ⟨H, k, S.fl⟩ w ∧ Pres S γ0 w0 ⟨H, k, S.fl⟩ γ w := by
  refine ⟨⟨fun a b hb => ?_, fun a a' b b' L L' hb hb' hL hL' e => ?_, fun a L e => hD _ (h.dom a L e), h.glob⟩, ⟨h.ext, h.size, h.keep, fun a b L hb hf hL => ?_, hold, rfl, hk, h.new, h.os, h.out, fun a b hb hlt _ => ?_⟩⟩
  · obtain ⟨c, ho⟩ := hs a b hb
    obtain ⟨_, L, ob, e1, e2, e3⟩ := h.obj a b c ho
    exact ⟨L, ob, e1, e2, e3.mono (Gm.cut_le _ _)⟩
  · obtain ⟨c, ho⟩ := hs a b hb
    obtain ⟨c', ho'⟩ := hs a' b' hb'
    exact h.inj a a' b b' c c' L L' ho ho' hL hL' e
  · obtain ⟨c, ho⟩ := hs a b hb
    exact h.desc a b c L ho hf hL
  · obtain ⟨c, ho⟩ := hs a b hb
    exact h.back a b c ho hlt
end
end Go.AM
