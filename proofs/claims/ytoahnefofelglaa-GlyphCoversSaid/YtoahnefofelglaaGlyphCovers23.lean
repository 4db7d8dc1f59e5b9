/- GlyphCovers is proved (glyphCovers_holds): for every draft, numbers, flag, origin and pixels the call returns true and its arguments read as before. No condition. -/
import Derived.Test.YtoahnefofelglaaGlyphCovers17
import Derived.Test.YtoahnefofelglaaGlyphCovers06
import Derived.WalkKit
import Derived.ProofKit
import Derived.OpenShut
import Derived.Test.YtoahnefofelglaaGlyphCovers22
import Derived.WideKeyArgs
set_option linter.unusedVariables false
set_option linter.unusedSimpArgs false
set_option linter.unusedSectionVars false
noncomputable section
section
namespace Go.Proofs.Ytoahnefofelglaa.gm
open Go Go.AM Go.ChangeShapes Go.WideShapes Go.ChangeAt Go.RowKit
theorem finish {X:St} {args:List AV} {vs:List Value} {γ:Gm} {w:World} (hX:a7 En 3 X (fun v H=>v=.bool true∧H.nx=.o (.o .h))) (hen:d9 En 3 args false=some X.f) (hcs:X.cs = []) (hfl:X.fl=3)
 (hlt:∀ p ∈ X.os,p.1.idx < 3) (ha:LR γ args vs) (hH:HR γ En.ng X.S w):Calls Try.prog 3 ⟨vs⟩ w fun e w'=>e=.returned (.bool true)∧Below w.heap.size w w':=by
 unfold a7 at hX
 rw [hcs] at hX
 refine (i6.calls cY hen hX ha hH).mono fun e w' ⟨v,v',γ',S',he,⟨hv,_⟩,hr,_,hk⟩=>⟨?_,hk.below (fun a o ho=>?_)⟩
 ·subst hv
  cases hr;exact he
 ·show a.idx < X.fl
  rw [hfl]
  exact hlt _ (P9 ho)
theorem jK {os:List (Ps × AO)} {γ:Gm} {w:World} {nx:Ps} (hn:nx.idx=3) (hobj:∀ p ∈ os,∃ L ob,γ p.1=some L∧w.heap[L.blk]? = some ob∧OR γ L p.2 ob) (hlt:∀ p ∈ os,p.1.idx < 3) (hγ:∀ a L,γ a=some L→a.idx < 3):HR γ En.ng ⟨nO os,nx,3⟩ w:=
 ⟨fun a o h=>hobj (a,o) (P9 h),fun a a' o o' _ _ h h' _ _ _=>.inr ⟨hlt _ (P9 h),hlt _ (P9 h')⟩,fun a L h=>by show a.idx < nx.idx;rw [hn];exact hγ a L h,fun g hg=>absurd hg (by rw [Iy];omega)⟩
def g3 (L0 L1 L2:Option AM.Loc):Gm:=fun a=>match a with|.h=>L0|.o .h=>L1|.i .h=>L2|_=>none
theorem jL {L0 L1 L2:Option AM.Loc}:∀ a L,g3 L0 L1 L2 a=some L→a.idx < 3:=fun a L h=>by
 unfold g3 at h
 split at h
 ·exact (by decide:Ps.idx .h < 3)
 ·exact (by decide:Ps.idx (.o .h) < 3)
 ·exact (by decide:Ps.idx (.i .h) < 3)
 ·cases h
theorem xY:Ps.idx .h < 3:=by decide
theorem jM:Ps.idx (.o .h) < 3:=by decide
theorem jN:Ps.idx (.i .h) < 3:=by decide
theorem Kk {w:World} {s0 s1 s2:Value} {n0 n1 n2 n3:Int} {up:Bool} {x y:Int}
 (h0:s0=.slice none 0 0∨∃ blk off len cap ob el D,s0=.slice (some ⟨blk,off,none⟩) len cap∧len≤cap∧w.heap[blk]? = some ob∧(∀ γ,OR γ ⟨blk,off,off+cap * 7⟩ (.arr len 7 (a8 [.u8,.i16,.i16,.i16,.i16,.i16,.i16] D) none el false true) ob) ∧
  ∀ j k,D j k=0∨∃ q,[IntKind.u8,.i16,.i16,.i16,.i16,.i16,.i16][k]? = some q∧(Lit.int q (D j k)).wf=true)
 (h1:s1=.slice none 0 0∨∃ blk off len cap ob el D,s1=.slice (some ⟨blk,off,none⟩) len cap∧len≤cap∧w.heap[blk]? = some ob∧(∀ γ,OR γ ⟨blk,off,off+cap * 2⟩ (.arr len 2 (a8 [.u8,.u8] D) none el false true) ob) ∧
  ∀ j k,D j k=0∨∃ q,[IntKind.u8,.u8][k]? = some q∧(Lit.int q (D j k)).wf=true)
 (h2:s2=.slice none 0 0∨∃ blk off len cap ob el D,s2=.slice (some ⟨blk,off,none⟩) len cap∧len≤cap∧w.heap[blk]? = some ob∧(∀ γ,OR γ ⟨blk,off,off+cap * 2⟩ (.arr len 2 (a8 [.i8,.i8] D) none el false true) ob) ∧
  ∀ j k,D j k=0∨∃ q,[IntKind.i8,.i8][k]? = some q∧(Lit.int q (D j k)).wf=true)
 (hn0 : -32768≤n0∧n0≤32767) (hn1 : -32768≤n1∧n1≤32767) (hn2 : -32768≤n2∧n2≤32767) (hn3 : -32768≤n3∧n3≤32767) (hx : -128≤x∧x≤127) (hy : -128≤y∧y≤127) :
 Calls Try.prog 3 #[.agg #[s0,s1],.agg #[.int .i16 n0,.int .i16 n1,.int .i16 n2,.int .i16 n3],.bool up,.agg #[.int .i8 x,.int .i8 y],s2] w fun e w'=>e=.returned (.bool true)∧Below w.heap.size w w':=by
 have hD':∀ {D:Nat→Nat→Int},(∀ j k,D j k=0∨∃ q,[IntKind.u8,.i16,.i16,.i16,.i16,.i16,.i16][k]? = some q∧(Lit.int q (D j k)).wf=true)→(∀ j k,-32768≤D j k∧D j k≤32767)∧∀ j,0≤D j 0:=fun {D} hD=>by
  have a1:IntKind.min .u8=0:=by decide
  have a2:IntKind.max .u8=255:=by decide
  have a3:IntKind.min .i16 = -32768:=by decide
  have a4:IntKind.max .i16=32767:=by decide
  refine ⟨fun j k=>?_,fun j=>?_⟩
  ·rcases hD j k with h|⟨q,h,h'⟩
   ·omega
   ·rw [Lit.wf_int_iff] at h'
    have hm:=List.mem_of_getElem? h
    simp only [List.mem_cons,List.not_mem_nil,or_false] at hm
    have:q=.u8∨q=.i16:=by rcases hm with rfl|rfl|rfl|rfl|rfl|rfl|rfl <;> simp
    rcases this with rfl|rfl
    ·rw [a1,a2] at h';omega
    ·rw [a3,a4] at h';exact h'
  ·rcases hD j 0 with h|⟨q,h,h'⟩
   ·omega
   ·obtain rfl:IntKind.u8=q:=by simpa using h
    rw [Lit.wf_int_iff,a1] at h';exact h'.1
 have hT':∀ {D:Nat→Nat→Int},(∀ j k,D j k=0∨∃ q,[IntKind.u8,.u8][k]? = some q∧(Lit.int q (D j k)).wf=true)→∀ j k,0≤D j k∧D j k≤255:=fun {D} hD j k=>by
  have a1:IntKind.min .u8=0:=by decide
  have a2:IntKind.max .u8=255:=by decide
  rcases hD j k with h|⟨q,h,h'⟩
  ·omega
  ·rw [Lit.wf_int_iff] at h'
   have hm:=List.mem_of_getElem? h
   simp only [List.mem_cons,List.not_mem_nil,or_false] at hm
   have:q=.u8:=by rcases hm with rfl|rfl <;> rfl
   subst this
   rw [a1,a2] at h';exact h'
 have hQ':∀ {D:Nat→Nat→Int},(∀ j k,D j k=0∨∃ q,[IntKind.i8,.i8][k]? = some q∧(Lit.int q (D j k)).wf=true)→∀ j k,-128≤D j k∧D j k≤127:=fun {D} hD j k=>by
  have a1:IntKind.min .i8 = -128:=by decide
  have a2:IntKind.max .i8=127:=by decide
  rcases hD j k with h|⟨q,h,h'⟩
  ·omega
  ·rw [Lit.wf_int_iff] at h'
   have hm:=List.mem_of_getElem? h
   simp only [List.mem_cons,List.not_mem_nil,or_false] at hm
   have:q=.i8:=by rcases hm with rfl|rfl <;> rfl
   subst this
   rw [a1,a2] at h';exact h'
 have hrest:∀ {γ:Gm} {qa:AV},VR γ qa s2→LR γ [.agg [.int .i16 n0,.int .i16 n1,.int .i16 n2,.int .i16 n3],.bool up,.agg [.int .i8 x,.int .i8 y],qa] [.agg #[.int .i16 n0,.int .i16 n1,.int .i16 n2,.int .i16 n3],.bool up,.agg #[.int .i8 x,.int .i8 y],s2]:=
  fun {γ qa} hq=>.cons (.agg (.cons (.int ..) (.cons (.int ..) (.cons (.int ..) (.cons (.int ..) .nil))))) (.cons (.bool up) (.cons (.agg (.cons (.int ..) (.cons (.int ..) .nil))) (.cons hq .nil)))
 rcases h0 with rfl|⟨b0,o0,l0,c0,ob0,e0,D,rfl,hl0,hb0,hO0,hD⟩ <;> rcases h1 with rfl|⟨b1,o1,l1,c1,OS,e1,T,rfl,hl1,hb1,hO1,hT⟩ <;> rcases h2 with rfl|⟨b2,o2,l2,c2,ob2,e2,Q,rfl,hl2,hb2,hO2,hQ⟩
 ·exact finish (γ:=g3 none none none) (Kj (up:=up) (nd:=0) (D:=fun _ _=>0) (dx:=false) (dy:=false) (de:=0) (md:=0) (T:=fun _ _=>0) (tx:=false) (ty:=false) (te:=0) (nq:=0) (Q:=fun _ _=>0) (qx:=false) (qy:=false) (qe:=0) hn0 hn1 hn2 hn3 hx hy bQ) (by kernel_rfl) rfl rfl (fun p hp=>by cases hp)
   (.cons (.agg (.cons .nils (.cons .nils .nil))) (hrest .nils))
   (jK rfl (fun p hp=>by cases hp) (fun p hp=>by cases hp) jL)
 ·exact finish (γ:=g3 none none (some ⟨b2,o2,o2+c2 * 2⟩)) (Ke (up:=up) (nq:=l2) (Q:=Q) (qx:=false) (qy:=true) (qe:=e2) hn0 hn1 hn2 hn3 hx hy (hQ' hQ) bQ) (by kernel_rfl) rfl rfl (fun p hp=>by
   rw [List.mem_singleton.1 hp];exact jN)
   (.cons (.agg (.cons .nils (.cons .nils .nil))) (hrest (VR.sa (b:=.i .h) (L:=⟨b2,o2,o2+c2 * 2⟩) 0 l2 c2 2 rfl hl2 (by decide) (by show o2+0 * 2+c2 * 2=o2+c2 * 2;omega))))
   (jK rfl (fun p hp=>by
    rw [List.mem_singleton.1 hp];exact ⟨_,ob2,rfl,hb2,hO2 _⟩) (fun p hp=>by
    rw [List.mem_singleton.1 hp];exact jN) jL)
 ·exact finish (γ:=g3 none (some ⟨b1,o1,o1+c1 * 2⟩) none) (Ki (up:=up) (nd:=0) (D:=fun _ _=>0) (dx:=false) (dy:=false) (de:=0) (md:=l1) (T:=T) (tx:=false) (ty:=true) (te:=e1) (nq:=0) (Q:=fun _ _=>0) (qx:=false) (qy:=false) (qe:=0) (hT' hT) hn0 hn1 hn2 hn3 hx hy bQ) (by kernel_rfl) rfl rfl (fun p hp=>by
   rw [List.mem_singleton.1 hp];exact jM)
   (.cons (.agg (.cons .nils (.cons (VR.sa (b:=.o .h) (L:=⟨b1,o1,o1+c1 * 2⟩) 0 l1 c1 2 rfl hl1 (by decide) (by show o1+0 * 2+c1 * 2=o1+c1 * 2;omega)) .nil))) (hrest .nils))
   (jK rfl (fun p hp=>by
    rw [List.mem_singleton.1 hp];exact ⟨_,OS,rfl,hb1,hO1 _⟩) (fun p hp=>by
    rw [List.mem_singleton.1 hp];exact jM) jL)
 ·exact finish (γ:=g3 none (some ⟨b1,o1,o1+c1 * 2⟩) (some ⟨b2,o2,o2+c2 * 2⟩)) (Kc (up:=up) (nd:=0) (D:=fun _ _=>0) (dx:=false) (dy:=false) (de:=0) (md:=l1) (T:=T) (tx:=false) (ty:=true) (te:=e1) (nq:=l2) (Q:=Q) (qx:=false) (qy:=true) (qe:=e2) (hT' hT) hn0 hn1 hn2 hn3 hx hy (hQ' hQ) bQ) (by kernel_rfl) rfl rfl (fun p hp=>by
   rcases List.mem_cons.1 hp with rfl|hp
   ·exact jM
   rw [List.mem_singleton.1 hp];exact jN)
   (.cons (.agg (.cons .nils (.cons (VR.sa (b:=.o .h) (L:=⟨b1,o1,o1+c1 * 2⟩) 0 l1 c1 2 rfl hl1 (by decide) (by show o1+0 * 2+c1 * 2=o1+c1 * 2;omega)) .nil))) (hrest (VR.sa (b:=.i .h) (L:=⟨b2,o2,o2+c2 * 2⟩) 0 l2 c2 2 rfl hl2 (by decide) (by show o2+0 * 2+c2 * 2=o2+c2 * 2;omega))))
   (jK rfl (fun p hp=>by
    rcases List.mem_cons.1 hp with rfl|hp
    ·exact ⟨_,OS,rfl,hb1,hO1 _⟩
    rw [List.mem_singleton.1 hp];exact ⟨_,ob2,rfl,hb2,hO2 _⟩) (fun p hp=>by
    rcases List.mem_cons.1 hp with rfl|hp
    ·exact jM
    rw [List.mem_singleton.1 hp];exact jN) jL)
 ·exact finish (γ:=g3 (some ⟨b0,o0,o0+c0 * 7⟩) none none) (Kh (up:=up) (nd:=l0) (D:=D) (dx:=false) (dy:=true) (de:=e0) (md:=0) (T:=fun _ _=>0) (tx:=false) (ty:=false) (te:=0) (nq:=0) (Q:=fun _ _=>0) (qx:=false) (qy:=false) (qe:=0) (hD' hD).1 (hD' hD).2 hn0 hn1 hn2 hn3 hx hy bQ) (by kernel_rfl) rfl rfl (fun p hp=>by
   rw [List.mem_singleton.1 hp];exact xY)
   (.cons (.agg (.cons (VR.sa (b:=.h) (L:=⟨b0,o0,o0+c0 * 7⟩) 0 l0 c0 7 rfl hl0 (by decide) (by show o0+0 * 7+c0 * 7=o0+c0 * 7;omega)) (.cons .nils .nil))) (hrest .nils))
   (jK rfl (fun p hp=>by
    rw [List.mem_singleton.1 hp];exact ⟨_,ob0,rfl,hb0,hO0 _⟩) (fun p hp=>by
    rw [List.mem_singleton.1 hp];exact xY) jL)
 ·exact finish (γ:=g3 (some ⟨b0,o0,o0+c0 * 7⟩) none (some ⟨b2,o2,o2+c2 * 2⟩)) (Kb (up:=up) (nd:=l0) (D:=D) (dx:=false) (dy:=true) (de:=e0) (md:=0) (T:=fun _ _=>0) (tx:=false) (ty:=false) (te:=0) (nq:=l2) (Q:=Q) (qx:=false) (qy:=true) (qe:=e2) (hD' hD).1 (hD' hD).2 hn0 hn1 hn2 hn3 hx hy (hQ' hQ) bQ) (by kernel_rfl) rfl rfl (fun p hp=>by
   rcases List.mem_cons.1 hp with rfl|hp
   ·exact xY
   rw [List.mem_singleton.1 hp];exact jN)
   (.cons (.agg (.cons (VR.sa (b:=.h) (L:=⟨b0,o0,o0+c0 * 7⟩) 0 l0 c0 7 rfl hl0 (by decide) (by show o0+0 * 7+c0 * 7=o0+c0 * 7;omega)) (.cons .nils .nil))) (hrest (VR.sa (b:=.i .h) (L:=⟨b2,o2,o2+c2 * 2⟩) 0 l2 c2 2 rfl hl2 (by decide) (by show o2+0 * 2+c2 * 2=o2+c2 * 2;omega))))
   (jK rfl (fun p hp=>by
    rcases List.mem_cons.1 hp with rfl|hp
    ·exact ⟨_,ob0,rfl,hb0,hO0 _⟩
    rw [List.mem_singleton.1 hp];exact ⟨_,ob2,rfl,hb2,hO2 _⟩) (fun p hp=>by
    rcases List.mem_cons.1 hp with rfl|hp
    ·exact xY
    rw [List.mem_singleton.1 hp];exact jN) jL)
 ·exact finish (γ:=g3 (some ⟨b0,o0,o0+c0 * 7⟩) (some ⟨b1,o1,o1+c1 * 2⟩) none) (Kg (up:=up) (nd:=l0) (D:=D) (dx:=false) (dy:=true) (de:=e0) (md:=l1) (T:=T) (tx:=false) (ty:=true) (te:=e1) (nq:=0) (Q:=fun _ _=>0) (qx:=false) (qy:=false) (qe:=0) (hD' hD).1 (hD' hD).2 (hT' hT) hn0 hn1 hn2 hn3 hx hy bQ) (by kernel_rfl) rfl rfl (fun p hp=>by
   rcases List.mem_cons.1 hp with rfl|hp
   ·exact xY
   rw [List.mem_singleton.1 hp];exact jM)
   (.cons (.agg (.cons (VR.sa (b:=.h) (L:=⟨b0,o0,o0+c0 * 7⟩) 0 l0 c0 7 rfl hl0 (by decide) (by show o0+0 * 7+c0 * 7=o0+c0 * 7;omega)) (.cons (VR.sa (b:=.o .h) (L:=⟨b1,o1,o1+c1 * 2⟩) 0 l1 c1 2 rfl hl1 (by decide) (by show o1+0 * 2+c1 * 2=o1+c1 * 2;omega)) .nil))) (hrest .nils))
   (jK rfl (fun p hp=>by
    rcases List.mem_cons.1 hp with rfl|hp
    ·exact ⟨_,ob0,rfl,hb0,hO0 _⟩
    rw [List.mem_singleton.1 hp];exact ⟨_,OS,rfl,hb1,hO1 _⟩) (fun p hp=>by
    rcases List.mem_cons.1 hp with rfl|hp
    ·exact xY
    rw [List.mem_singleton.1 hp];exact jM) jL)
 ·exact finish (γ:=g3 (some ⟨b0,o0,o0+c0 * 7⟩) (some ⟨b1,o1,o1+c1 * 2⟩) (some ⟨b2,o2,o2+c2 * 2⟩)) (Ka (up:=up) (nd:=l0) (D:=D) (dx:=false) (dy:=true) (de:=e0) (md:=l1) (T:=T) (tx:=false) (ty:=true) (te:=e1) (nq:=l2) (Q:=Q) (qx:=false) (qy:=true) (qe:=e2) (hD' hD).1 (hD' hD).2 (hT' hT) hn0 hn1 hn2 hn3 hx hy (hQ' hQ) bQ) (by kernel_rfl) rfl rfl (fun p hp=>by
   rcases List.mem_cons.1 hp with rfl|hp
   ·exact xY
   rcases List.mem_cons.1 hp with rfl|hp
   ·exact jM
   rw [List.mem_singleton.1 hp];exact jN)
   (.cons (.agg (.cons (VR.sa (b:=.h) (L:=⟨b0,o0,o0+c0 * 7⟩) 0 l0 c0 7 rfl hl0 (by decide) (by show o0+0 * 7+c0 * 7=o0+c0 * 7;omega)) (.cons (VR.sa (b:=.o .h) (L:=⟨b1,o1,o1+c1 * 2⟩) 0 l1 c1 2 rfl hl1 (by decide) (by show o1+0 * 2+c1 * 2=o1+c1 * 2;omega)) .nil))) (hrest (VR.sa (b:=.i .h) (L:=⟨b2,o2,o2+c2 * 2⟩) 0 l2 c2 2 rfl hl2 (by decide) (by show o2+0 * 2+c2 * 2=o2+c2 * 2;omega))))
   (jK rfl (fun p hp=>by
    rcases List.mem_cons.1 hp with rfl|hp
    ·exact ⟨_,ob0,rfl,hb0,hO0 _⟩
    rcases List.mem_cons.1 hp with rfl|hp
    ·exact ⟨_,OS,rfl,hb1,hO1 _⟩
    rw [List.mem_singleton.1 hp];exact ⟨_,ob2,rfl,hb2,hO2 _⟩) (fun p hp=>by
    rcases List.mem_cons.1 hp with rfl|hp
    ·exact xY
    rcases List.mem_cons.1 hp with rfl|hp
    ·exact jM
    rw [List.mem_singleton.1 hp];exact jN) jL)
end Go.Proofs.Ytoahnefofelglaa.gm
end
section
namespace Go.Proofs.Ytoahnefofelglaa.glyphCovers
open Go.ChangeShapes Go.WideShapes Go.ChangeAt Go.RowKit Go.AM gm
theorem own:ownKnob Try.prog.godebug=none:=by kernel_rfl
theorem GA {H:Type} {enc:TypeId × Value→H} {P:Program} (hl:laidOutB P=true) {W W':World} (hb:Below W.heap.size W W') {sp':Nat→Bool} :
 ∀ {ts:List TypeId} {vs:List Value} {ds:List (DataW H)} {ps:List MemPlace},(∀ t ∈ ts,P.readableRec t=true∧t < P.types.size)→DataW.TrodAll enc P W 0 (fun _=>true) true ts vs ds ps→(∀ p ∈ ps,p.block < W.heap.size)→(∀ p ∈ ps,sp' p.block=true) →
   DataW.TrodAll enc P W' 0 sp' true ts vs ds ps
 | [],[],[],_,_,h,_,_=>h
 | _ :: _,_::_,_::_,_,hT,⟨p,q,h1,h2,e⟩,hlt,hs =>
   ⟨p,q,WideElems.Trod_stays hl (hT _ (List.mem_cons_self ..)).1 (hT _ (List.mem_cons_self ..)).2 h1 (fun x hx=>hb.same (hlt x (by rw [e];exact List.mem_append_left _ hx))) (fun x hx=>hs x (by rw [e];exact List.mem_append_left _ hx)),
    GA hl hb (fun t ht=>hT t (List.mem_cons_of_mem _ ht)) h2 (fun x hx=>hlt x (by rw [e];exact List.mem_append_right _ hx)) (fun x hx=>hs x (by rw [e];exact List.mem_append_right _ hx)),e⟩
set_option maxRecDepth 100000 in
theorem Uk (H:Type) (enc:TypeId × Value→H) (W:World) (base:Nat) (args:Array Value) (ds gs:List (DataW H)) (before:List MemPlace)
 (hval0:∀ (j:Nat) t v,Try.f3.params[j]? = some t→args[j]? = some v→Value.okWide Try.prog W .any base t v)
 (hW:DataW.Whole enc Try.prog Try.f3.params.toList Rows.glyphCoversSpec.vars false W args.toList ds gs before) :
 Calls Try.prog 3 args W fun e W'=>∃ v,e=.returned v∧Rows.glyphCoversSpec.post enc Try.prog Try.f3 false true false false W args v W':=by
 have hval:=hval0
 have hW':=hW
 have hWlt:=hW.lt
 obtain ⟨p,q,hA0,hV,rfl,hfz,hnd⟩:=hW
 have hA:DataW.TrodAll enc Try.prog W 0 (fun _=>true) true Try.f3.params.toList args.toList ds p:=hA0
 have hAk:=hA0
 rw [Try.params3] at hA hval
 obtain ⟨v0,vs0,d0,ds0,p0,q0,hargs,rfl,rfl,h0,r0⟩:=trodAll_cons hA
 obtain ⟨v1,vs1,d1,ds1,p1,q1,rfl,rfl,rfl,h1,r1⟩:=trodAll_cons r0
 obtain ⟨v2,vs2,d2,ds2,p2,q2,rfl,rfl,rfl,h2,r2⟩:=trodAll_cons r1
 obtain ⟨v3,vs3,d3,ds3,p3,q3,rfl,rfl,rfl,h3,r3⟩:=trodAll_cons r2
 obtain ⟨v4,vs4,d4,ds4,p4,q4,rfl,rfl,rfl,h4,r4⟩:=trodAll_cons r3
 obtain ⟨rfl,rfl,rfl⟩:=trodAll_nil r4
 obtain rfl:args = #[v0,v1,v2,v3,v4]:=by cases args;simp_all
 obtain ⟨rfl,rfl⟩:=trodVars_none hV
 obtain ⟨up,rfl,_,_⟩:=open_bool Try.underlying4 (hval 2 4 v2 rfl rfl) h2
 have k1:=hval 1 27 v1 rfl rfl
 unfold Value.okWide at k1
 rw [Try.underlying27] at k1
 obtain ⟨jZ,rfl,hs1,_⟩:=k1
 obtain ⟨f1,ht1⟩:=h1
 obtain ⟨l,hl,hLR,hb⟩:=(NY _ _ _ _ _ _ _ _ _ ht1).row
 match l,hl with
 | [n0,n1,n2,n3],_ =>
 have b16:∀ (k:Nat) (n:Int),[n0,n1,n2,n3][k]? = some n→-32768≤n∧n≤32767:=fun k n hk=>by
  obtain ⟨q,g1,g2⟩:=hb k n hk
  have hm:=List.mem_of_getElem? g1
  simp only [List.mem_cons,List.not_mem_nil,or_false] at hm
  have:q=.i16:=by rcases hm with rfl|rfl|rfl|rfl <;> rfl
  subst this
  rw [Lit.wf_int_iff] at g2
  exact g2
 have e1:jZ = #[.int .i16 n0,.int .i16 n1,.int .i16 n2,.int .i16 n3]:=by
  have hL:LR (fun _=>none) (bJ [.i16,.i16,.i16,.i16] [n0,n1,n2,n3]) jZ.toList:=hLR _
  obtain ⟨jZ⟩:=jZ
  cases hL with|cons a hL=>cases hL with|cons b hL=>cases hL with|cons c hL=>cases hL with|cons d hL=>cases hL;cases a;cases b;cases c;cases d;rfl
 subst e1
 have k3:=hval 3 29 v3 rfl rfl
 unfold Value.okWide at k3
 rw [Try.underlying29] at k3
 obtain ⟨Ju,rfl,hs3,_⟩:=k3
 obtain ⟨f3,ht3⟩:=h3
 obtain ⟨l3,hl3,hLR3,hb3⟩:=(Ui _ _ _ _ _ _ _ _ _ ht3).row
 match l3,hl3 with
 | [x,y],_ =>
 have b8:∀ (k:Nat) (n:Int),[x,y][k]? = some n→-128≤n∧n≤127:=fun k n hk=>by
  obtain ⟨q,g1,g2⟩:=hb3 k n hk
  have hm:=List.mem_of_getElem? g1
  simp only [List.mem_cons,List.not_mem_nil,or_false] at hm
  have:q=.i8:=by rcases hm with rfl|rfl <;> rfl
  subst this
  rw [Lit.wf_int_iff] at g2
  exact g2
 have e3:Ju = #[.int .i8 x,.int .i8 y]:=by
  have hL:LR (fun _=>none) (bJ [.i8,.i8] [x,y]) Ju.toList:=hLR3 _
  obtain ⟨Ju⟩:=Ju
  cases hL with|cons a hL=>cases hL with|cons b hL=>cases hL;cases a;cases b;rfl
 subst e3
 have k0:=hval 0 25 v0 rfl rfl
 unfold Value.okWide at k0
 rw [Try.underlying25] at k0
 obtain ⟨yG,rfl,hs0,ts,hts,_,hcell⟩:=k0
 obtain rfl:ts = [22,23]:=Option.some.inj (hts.symm.trans (show Try.prog.cellTypes Try.prog.depth 25=some [22,23] by kernel_rfl))
 have hc25:Try.prog.cellsOf 25=2:=by kernel_rfl
 rw [hc25] at hs0
 obtain ⟨s0,s1,rfl⟩:∃ s0 s1,yG = #[s0,s1]:=by
  obtain ⟨yG⟩:=yG
  match yG,hs0 with
  | [a,b],_=>exact ⟨a,b,rfl⟩
 obtain ⟨f0,ht0⟩:=h0
 obtain ⟨y0,y1,n,hd0,_,g0,g1⟩:=trod_struct2 Try.underlying25 ht0
 have c22:Try.prog.cellsOf 22=1:=by kernel_rfl
 have c23:Try.prog.cellsOf 23=1:=by kernel_rfl
 dsimp only at g0 g1
 rw [c22] at g0
 rw [c23] at g1
 have g0:DataW.trod enc Try.prog W 0 (fun _=>true) true n 22 [s0]=some y0:=g0
 have g1:DataW.trod enc Try.prog W 0 (fun _=>true) true n 23 [s1]=some y1:=g1
 obtain ⟨_,hu0,ho0⟩:=hcell 0 s0 rfl
 obtain rfl:=Option.some.inj (show some 22=some _ from hu0)
 obtain ⟨_,hu1,ho1⟩:=hcell 1 s1 rfl
 obtain rfl:=Option.some.inj (show some 23=some _ from hu1)
 have hp0:p0=y0.2++y1.2:=(Prod.ext_iff.1 hd0).2
 have hr0:=iU Try.underlying22 OA (by kernel_rfl) (by decide) g0 ho0 (fun b off hm=>hfz b off (by rw [hp0];simp [hm]))
 have hr1:=iU Try.underlying23 NX (by kernel_rfl) (by decide) g1 ho1 (fun b off hm=>hfz b off (by rw [hp0];simp [hm]))
 have k4:=hval 4 30 v4 rfl rfl
 unfold Value.okWide at k4
 rw [Try.underlying30] at k4
 obtain ⟨f4,ht4⟩:=h4
 have DW:v4.cells.toList = [v4]:=by
  cases v4 <;> first
   | rfl
   | (exfalso;unfold Cell.okWide at k4;rw [Try.underlying30] at k4;unfold Cell.ok at k4;dsimp only at k4;rw [Try.underlying30] at k4;exact k4)
 rw [DW] at ht4
 have hr2:=iU Try.underlying30 Ui (by kernel_rfl) (by decide) ht4 k4 (fun b off hm=>hfz b off (by have hm:MemPlace.cell b off ∈ p4:=hm;simp [hm]))
 refine (Kk (up:=up) hr0 hr1 hr2 (b16 0 n0 rfl) (b16 1 n1 rfl) (b16 2 n2 rfl) (b16 3 n3 rfl) (b8 0 x rfl) (b8 1 y rfl)).mono fun e W' ⟨he,hg⟩=>?_
 subst he
 have hb:∀ sp:Nat→Bool,(∀ z ∈ p0++(p1++(p2++(p3++(p4++[]))))++[],sp z.block=true)→DataW.TrodAll enc Try.prog W' 0 sp true Try.f3.params.toList _ _ (p0++(p1++(p2++(p3++(p4++[]))))):=fun sp hsp =>
  GA (by kernel_rfl) hg (by rw [Try.params3];intro t ht;simp only [List.mem_cons,List.not_mem_nil,or_false] at ht;rcases ht with rfl|rfl|rfl|rfl|rfl <;> exact ⟨by kernel_rfl,of_decide_eq_true (by kernel_rfl)⟩) hAk (fun z hz=>hWlt z (List.mem_append_left _ hz)) (fun z hz=>hsp z (List.mem_append_left _ hz))
 refine ⟨_,rfl,_,_,_,[],p0++(p1++(p2++(p3++(p4++[])))),[],hW',trodAll_cons_mk (shut_bool Try.underlying4 _) trodAll_mk0,hb _ ?_,rfl,World.keptBut_mono (fun z hz=>⟨hz,?_⟩) (hg.frame _),fun h=>by cases h⟩
 ·intro z hz;simpa using hWlt z hz
 ·exact .inr (by simpa using hz)
set_option maxRecDepth 100000 in
theorem OB (os:Os) (started:os.Started) (H:Type) (enc:TypeId × Value→H) :
 ReturnsInHanded {} Try.checked os 3 .any (Rows.glyphCoversSpec.pre6 enc Try.prog Try.f3 Rows.glyphCoversRow.domain false) (Rows.glyphCoversSpec.post enc Try.prog Try.f3 false true false false):=by
 refine returnsInHanded_of_change (C:=Try.checked) own started (by kernel_rfl) Try.func3
  (ChangeSpec.witness6 (enc:=enc) (C:=Try.checked) false ⟨#[],#[.agg #[.slice none 0 0,.slice none 0 0],.agg #[.int .i16 0,.int .i16 0,.int .i16 0,.int .i16 0],.bool false,.agg #[.int .i8 0,.int .i8 0],.slice none 0 0],[]⟩ 8 (by kernel_rfl) (by kernel_rfl) (by kernel_rfl) (by kernel_rfl)) ?_
 intro W base args ds gs before hval0 hW _ _
 exact Uk H enc W base args ds gs before hval0 hW
theorem said:Rows.GlyphCoversSaid:=
 OpenClaim.holds_of_wide 3 Try.f3 rfl rfl rfl rfl rfl rfl rfl ⟨rfl,rfl,rfl,rfl,rfl⟩ rfl rfl rfl rfl rfl (by kernel_rfl) Try.func3 UW
  (of_decide_eq_true (by kernel_rfl)) (by unfold Func.isWrapper;first|(rw [if_pos (by decide +kernel)];kernel_rfl)|(rw [if_neg (by decide +kernel)];exact ⟨rfl,rfl⟩))
  (fun os started H enc _=>OB os started H enc)
end Go.Proofs.Ytoahnefofelglaa.glyphCovers
namespace Go.Proofs.Ytoahnefofelglaa
theorem glyphCovers_holds:Rows.GlyphCoversSaid:=glyphCovers.said
#print axioms glyphCovers_holds
end Go.Proofs.Ytoahnefofelglaa
end
