import Derived.Test.YtemimkkjkggcoaaGreatDoorGA25
/- The steps of the abstract machine: frames that end; the step itself; runs. -/
namespace Go.AM

section
variable {E : Env} (hE : E.Ok) {γ : Gm} {S : Hp} {fr : Frame} {frs : List Frame} {w : World}

theorem MR.not_run {m : AMd} {m' : FrameMode} (h : MR γ m m') (hn : m ≠ .run) : m' = .returning ∨ ∃ c, m' = .panicking c := by
  cases h with
  | run => exact absurd rfl hn
  | ret => exact .inl rfl
  | pan r h => exact .inr ⟨_, rfl⟩

include hE in
theorem sDefers_ok {fn nt : Nat} {tm : Tm} {todo : List AI} {dfs : List AD} {md : AMd} {lost dk : Bool} {rd : Option Ps} {cs : List AF} {last : SR}
    (hf : FR γ E ⟨fn, nt, tm, todo, dfs, md, lost, dk, rd⟩ fr) (hn : md ≠ .run) (hcs : CsR γ E cs frs) (hH : HR γ E.ng S w) (hl : dfs = [] → fr.defers = [] → StepQ E γ S fr frs w last) :
    StepQ E γ S fr frs w (sDefers E fn nt tm todo dfs md lost dk rd cs S last) := by
  have hd := hf.dfs
  have hmd := hf.md.not_run hn
  simp only at hd
  unfold sDefers
  generalize hfd : fr.defers = fd at hd
  cases hd with
  | nil => exact hl rfl hfd
  | @cons x y l l' hx htl =>
    cases hx with
    | @mark b L hL =>
      simp only
      split
      · rename_i h1 h2
        obtain ⟨M, ob, g1, g2, g3⟩ := hH.obj b _ h1
        rw [hL] at g1; cases g1
        have g3' : ob = .deferred (some []) := g3
        subst g3'
        have hlt : L.blk < w.heap.size := (Array.getElem?_eq_some_iff.1 g2).1
        obtain ⟨p1, p2⟩ := hH.put (w' := { w with heap := w.heap.setIfInBounds L.blk (.deferred none) }) (o' := .dfr true) (ob' := .deferred none) h1 hL (Nat.le_of_ble_eq_true h2) (by simp)
          (fun r hr => by
            show (w.heap.setIfInBounds L.blk _)[r]? = _
            rw [Array.getElem?_setIfInBounds_ne (fun e => hr e.symm)])
          (by
            show (w.heap.setIfInBounds L.blk _)[L.blk]? = _
            rw [Array.getElem?_setIfInBounds_self_of_lt hlt]) rfl rfl rfl
        refine Goes.here hf hcs rfl rfl (fun cs => ⟨γ, { fr with defers := l' }, _, Steps.one (st_take hmd hfd g2), ?_, p1, p2⟩)
        exact ⟨hf.fn, hf.nt, hf.tm, fun e => absurd e hn, htl, hf.md, hf.kind, hf.rd, hf.fi⟩
      · trivial
    | @call a c a' c' f ha hc =>
      simp only
      cases hen : enterA E f (lapp a c) true with
      | none => trivial
      | some f' =>
        obtain ⟨i, hi⟩ := enterA_fi hen
        rw [← hen]
        refine pushA_ok hE (dk := true) (c' := { fr with defers := l' }) rfl (args' := a' ++ c') (ha.lapp hc) ?_ hcs hH (Pres.refl _ _ _) (fun cs => Steps.one ?_) rfl rfl
        · exact ⟨hf.fn, hf.nt, hf.tm, fun e => absurd e hn, htl, hf.md, hf.kind, hf.rd, hf.fi⟩
        · have := st_deferred (P := E.P) (fr := fr) (cs := cs) (w := w) hmd hfd (fun w => callFunc_run hE hi _ w)
          simpa using this

include hE in
theorem sReturn_ok {fn nt : Nat} {tm : Tm} {todo : List AI} {lost dk : Bool} {rd : Option Ps} {cs : List AF}
    (hf : FR γ E ⟨fn, nt, tm, todo, [], .ret, lost, dk, rd⟩ fr) (hcs : CsR γ E cs frs) (hH : HR γ E.ng S w) (hd : fr.defers = []) : StepQ E γ S fr frs w (sReturn E fn tm lost dk cs S) := by
  unfold sReturn
  split
  · rename_i i hi
    cases lost with
    | true => trivial
    | false =>
      simp only
      cases hv : resA E S tm i.res with
      | none => trivial
      | some v =>
        obtain ⟨fu, g1, g2, g3, g4, g5⟩ := hE.funcs fn i hi
        rw [← g4] at hv
        obtain ⟨v', r1, r2⟩ := resA_ok hH (hf.tm rfl) hE hv
        have hfu : E.P.funcs[fr.fn]? = some fu := by rw [hf.fn]; exact g1
        have hm : fr.mode = .returning := by
          have := hf.md
          simp only at this
          generalize fr.mode = m at this
          cases this; rfl
        cases dk with
        | false =>
          have hk : fr.kind = .normal := hf.kind
          exact backA_ok hcs r2 hH (Pres.refl _ _ _) (fun c cs => Steps.one (st_return hm hd hfu hk r1)) (fun _ bot => ⟨fr, fu, Steps.refl _ _, hm, hd, hk, rfl, hfu, r1⟩)
        | true =>
          have hk : fr.kind = .deferred := hf.kind
          cases hcs with
          | nil => trivial
          | @cons x y l l' hx ht =>
            obtain ⟨xfn, xnt, xtm, xtodo, xdfs, xmd, xlost, xdk, xrd⟩ := x
            have hst := fun cs => st_returnD (P := E.P) (c := y) (cs := cs) hm hd hfu hk r1
            have hmd := hx.md
            simp only at hmd
            have same : (∀ cs, step E.P (lone fr (y :: cs) w) = .next (lone y cs w)) → StepQ E γ S fr (y :: l') w (.next ⟨xfn, xnt, xtm, xtodo, xdfs, xmd, xlost, xdk, xrd⟩ l S) := fun hs bot =>
              ⟨γ, y, l', w, Steps.one (hs (l' ++ bot)), hx, ht, hH, Pres.refl _ _ _, rfl⟩
            cases xmd with
            | run =>
              refine same (fun cs => ?_)
              rw [hst]
              have : y.mode = .run := hx.mode rfl
              rw [this]
            | ret =>
              refine same (fun cs => ?_)
              rw [hst]
              generalize y.mode = m at hmd
              cases hmd; rfl
            | pan u r =>
              generalize hym : y.mode = m at hmd
              cases hmd with
              | @pan _ u' _ hu =>
                cases r with
                | false =>
                  refine same (fun cs => ?_)
                  rw [hst, hym]
                | true =>
                  intro bot
                  refine ⟨γ, { y with mode := .returning }, l', w, Steps.one ?_, ⟨hx.fn, hx.nt, hx.tm, fun e => (by cases e), hx.dfs, .ret, hx.kind, hx.rd, hx.fi⟩, ht, hH, Pres.refl _ _ _, ?_⟩
                  · show step E.P (lone fr (y :: (l' ++ bot)) w) = _
                    rw [hst, hym]
                    rfl
                  · show lastF { y with mode := .returning } l' = lastF y l'
                    exact lastF_eq (fr := y) (fr' := { y with mode := .returning }) rfl rfl l'
  · trivial

include hE in
theorem sRaise_ok {fn nt : Nat} {tm : Tm} {todo : List AI} {lost dk : Bool} {rd : Option Ps} {cs : List AF} {v : AV}
    (hf : FR γ E ⟨fn, nt, tm, todo, [], .pan v false, lost, dk, rd⟩ fr) (hcs : CsR γ E cs frs) (hH : HR γ E.ng S w) (hd : fr.defers = []) : StepQ E γ S fr frs w (sRaise v cs S) := by
  obtain ⟨i, hi⟩ := hf.fi
  obtain ⟨fu, g1, _⟩ := hE.funcs fn i hi
  have hfu : E.P.funcs[fr.fn]? = some fu := by rw [hf.fn]; exact g1
  have hmd := hf.md
  simp only at hmd
  generalize hfm : fr.mode = m at hmd
  cases hmd with
  | @pan _ v' _ hv =>
    unfold sRaise
    cases hcs with
    | nil => exact ⟨rfl, fun c bot => ⟨γ, v', w, Steps.one (st_raise hfm hd hfu), hv, hH, Pres.refl _ _ _⟩⟩
    | @cons x y l l' hx ht =>
      obtain ⟨xfn, xnt, xtm, xtodo, xdfs, xmd, xlost, xdk, xrd⟩ := x
      cases xmd with
      | ret => trivial
      | pan _ _ => trivial
      | run =>
        have hym : y.mode = .run := hx.mode rfl
        have hr : y.raise [{ v := v', recovered := false }] = { y with mode := .panicking [{ v := v', recovered := false }] } := by simp [Frame.raise, hym]
        intro bot
        refine ⟨γ, { y with mode := .panicking [{ v := v', recovered := false }] }, l', w, Steps.one ?_, ⟨hx.fn, hx.nt, hx.tm, fun e => (by cases e), hx.dfs, .pan false hv, hx.kind, hx.rd, hx.fi⟩, ht, hH, Pres.refl _ _ _, ?_⟩
        · show step E.P (lone fr (y :: (l' ++ bot)) w) = _
          rw [st_raise hfm hd hfu, hr]
        · show lastF { y with mode := .panicking _ } l' = lastF y l'
          exact lastF_eq (fr := y) (fr' := { y with mode := .panicking _ }) rfl rfl l'
end
end Go.AM
