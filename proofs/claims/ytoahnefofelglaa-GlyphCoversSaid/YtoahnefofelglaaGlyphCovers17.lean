/- A part of the proof of GlyphCovers; no condition. -/
import Derived.Test.YtoahnefofelglaaGlyphCovers15
import Derived.Test.YtoahnefofelglaaGlyphCovers16
import Derived.Test.YtoahnefofelglaaGlyphCovers07
import Derived.ChangeSame
import Derived.ChangeArms
import Derived.OpenShut
import Derived.Carry
import Derived.DataShut
import Derived.Deep.Slices
import Derived.Test.YtoahnefofelglaaRows
set_option linter.unusedVariables false
set_option linter.unusedSimpArgs false
set_option linter.unusedSectionVars false
noncomputable section
section
namespace Go.Proofs.Ytoahnefofelglaa.gm
open Go Go.AM
theorem i6.scalar {E:i3} {f:AF} {S:Hp} {v0:AV} (hv:vN E.ng v0=true) (hfl:S.fl=E.ng) (h:i6 E E.ng f [] S (fun v _=>v=v0)):i6 E E.ng f [] S (fun v H=>v=v0∧H=H0 E):=by
 obtain ⟨v,S',e,h⟩:=h
 subst e
 refine ⟨v,H0 E,⟨rfl,rfl⟩,fun γ fr frs w a b c=>?_⟩
 obtain ⟨h1,h2⟩:=h γ fr frs w a b c
 have kn:∀ {γ':Gm} {w':World},Kn E.ng S γ w S' γ' w'→Kn E.ng S γ w (H0 E) (γ'.cut E.ng) w':=fun {γ' w'} k =>
  ⟨fun a L ha=>⟨fun e=>Gm.cut_some.2 ⟨ha,(k.same a L ha).1 e⟩,fun e=>(k.same a L ha).2 (Gm.cut_some.1 e).2⟩,k.size,k.keep,k.os,k.out,fun a o L g=>(by rw [tE] at g;cases g),hfl.symm⟩
 refine ⟨fun hl bot=>?_,fun c bot=>?_⟩
 ·obtain ⟨γ',v',fr',w',fn,k1,k2,k3,k4,k5,k6,k7,k8,k9,k10⟩:=h1 hl bot
  exact ⟨γ'.cut E.ng,v',fr',w',fn,k1,k2,k3,k4,k5,k6,k7,mW k8 hv,k9.h0,kn k10⟩
 ·obtain ⟨γ',v',w',k1,k2,k3,k4⟩:=h2 c bot
  exact ⟨γ'.cut E.ng,v',w',k1,mW k2 hv,k3.h0,kn k4⟩
theorem YH:E0.Ok:=qO _ Try.prog
theorem NV:E0.P.follows .mixedOrders=true:=I4
theorem UQ {γ:Gm} {f:AF} {fr:Frame} (h:FR γ En f fr):FR γ E0 f fr:=⟨h.fn,h.nt,h.tm,h.todo,h.dfs,h.md,h.kind,h.rd,h.fi⟩
theorem uD {E:i3} (hE:E.Ok) (hmix:E.P.follows .mixedOrders=true) {N n K:Nat} {f:AF} {S:Hp} (h:AM.isTrue (Af (Eu N n) E K f [] S)=true):i6 E 0 f [] S (fun v _=>v=.bool true):=by
 unfold AM.isTrue at h
 generalize hr:Af (Eu N n) E K f [] S=r at h
 split at h
 ·rename_i b S'
  subst h
  refine ⟨.bool true,S',rfl,fun γ fr frs w hf hc hH=>?_⟩
  have h1:=Ek hE (Pr hE hmix N n) K hf hc hH
  rw [hr] at h1
  refine ⟨fun hl bot=>?_,fun c bot=>?_⟩
  ·obtain ⟨γ',v',fr',w',fn,g1,g2,g3,g4,g5,g6,g7,g8,g9,g10⟩:=h1.1 hl bot
   exact ⟨γ',v',fr',w',fn,g1,g2,g3,g4,g5,g6,g7,g8,g9,g10.kd.kn (Nat.zero_le _)⟩
  ·obtain ⟨γ',v',w',g1,g2,g3,g4⟩:=h1.2 c bot
   exact ⟨γ',v',w',g1,g2,g3,g4.kd.kn (Nat.zero_le _)⟩
 ·cases h
theorem CL:i6 E0 0 WI [] ⟨.e,.h,0⟩ (fun v _=>v=.bool true):=uD YH NV NU
theorem UR {γ:Gm} {frs:List Frame} (h:M7 γ En [] frs):M7 γ E0 [] frs:=by cases h;exact .nil
theorem bQ:a7 En 0 r5 (fun v H=>v=.bool true∧H.nx=.h):=by
 have h0:i6 E0 E0.ng WI [] ⟨.e,.h,0⟩ (fun v H=>v=.bool true∧H=H0 E0):=i6.scalar (by kernel_rfl) (show (0:Nat)=E0.ng from Iy.symm) (by rw [show E0.ng=0 from Iy];exact CL)
 rw [show E0.ng=0 from Iy] at h0
 obtain ⟨v,S',⟨e1,e2⟩,h⟩:=h0
 have ef:r5.f=WI:=by kernel_rfl
 show i6 En 0 r5.f [] ⟨.e,.h,0⟩ _
 rw [ef]
 refine ⟨v,S',⟨e1,by rw [e2];kernel_rfl⟩,fun γ fr frs w a b c=>?_⟩
 exact h γ fr frs w (UQ a) (UR b) c
end Go.Proofs.Ytoahnefofelglaa.gm
end
section
namespace Go.Proofs.Ytoahnefofelglaa.gm
open Go Go.AM Go.ChangeShapes
section
inductive IA:List IntKind→List Value→Prop where
 | nil:IA [] []
 | cons {k:IntKind} {n:Int} {ks:List IntKind} {cs:List Value} (h:(Lit.int k n).wf=true) (t:IA ks cs):IA (k::ks) (.int k n::cs)
theorem IA.append {ks ks':List IntKind} {cs cs':List Value} (h:IA ks cs) (h':IA ks' cs'):IA (ks++ks') (cs++cs'):=by
 induction h with
 | nil=>exact h'
 | cons a _ ih=>exact .cons a ih
theorem IA.row {ks:List IntKind} {cs:List Value} (h:IA ks cs):∃ l:List Int,l.length=ks.length∧(∀ γ,LR γ (bJ ks l) cs)∧∀ (k:Nat) (n:Int),l[k]? = some n→∃ q,ks[k]? = some q∧(Lit.int q n).wf=true:=by
 induction h with
 | nil=>exact ⟨[],rfl,fun _=>.nil,fun k n h=>by simp at h⟩
 | @cons k n ks cs hw _ ih =>
   obtain ⟨l,h1,h2,h3⟩:=ih
   refine ⟨n::l,by simp [h1],fun γ=>.cons (.int k n) (h2 γ),fun j m hj=>?_⟩
   cases j with
   | zero=>simp at hj;subst hj;exact ⟨k,rfl,hw⟩
   | succ j=>exact h3 j m (by simpa using hj)
theorem IA.rows {ks:List IntKind}:∀ (n:Nat) (cs:List Value),cs.length=n * ks.length→(∀ i,i < n→IA ks ((cs.drop (i * ks.length)).take ks.length))→IA (List.replicate n ks).flatten cs
 | 0,cs,hl,_=>by
   have:cs = []:=List.eq_nil_of_length_eq_zero (by simpa using hl)
   subst this;exact .nil
 | n + 1,cs,hl,h=>by
   have h0:=h 0 (by omega)
   rw [Nat.zero_mul,List.drop_zero] at h0
   have hr:=IA.rows (ks:=ks) n (cs.drop ks.length) (by rw [List.length_drop,hl,Nat.succ_mul];omega) (fun i hi=>by
    have:=h (i+1) (by omega)
    rw [List.drop_drop,Nat.add_comm,← Nat.succ_mul];exact this)
   rw [List.replicate_succ,List.flatten_cons]
   have:=h0.append hr
   rwa [List.take_append_drop] at this
def O5 (P:Program) (t:TypeId) (ks:List IntKind):Prop:=∀ (H:Type) (enc:TypeId × Value→H) (w:World) (base:Nat) (sp:Nat→Bool) (hd:Bool) (fuel:Nat) (cs:List Value) (x:DataW H × List MemPlace),
 DataW.trod enc P w base sp hd fuel t cs=some x→IA ks cs
theorem oJ {P:Program} {t:TypeId} {k:IntKind} (ht:P.underlying t=some (.int k)):O5 P t [k]:=fun H enc w base sp hd fuel cs x h=>by
 obtain ⟨n,rfl,_,hw⟩:=DataW.trod_int ht h
 exact .cons hw .nil
theorem Y9 {P:Program} {t e:TypeId} {n:Nat} {ks:List IntKind} (ht:P.underlying t=some (.array n e)) (he:O5 P e ks) (hz:P.cellsOf e=ks.length) (hc:P.cellsOf t=n * ks.length):O5 P t (List.replicate n ks).flatten:=
 fun H enc w base sp hd fuel cs x h=>by
  obtain ⟨xs,m,_,_,hl,hx,hi⟩:=DataW.trod_array ht h
  refine IA.rows n cs (by rw [hl,hc]) (fun i hi'=>?_)
  have h1:=hi i hi'
  rw [hz,List.getElem?_eq_getElem (by omega)] at h1
  exact he _ _ _ _ _ _ _ _ _ h1
theorem FZ:O5 Try.prog 5 [.u8]:=oJ (by kernel_rfl)
theorem Uh:O5 Try.prog 26 [.i16]:=oJ (by kernel_rfl)
theorem NW:O5 Try.prog 65 [.i16,.i16,.i16,.i16,.i16,.i16]:=Y9 (n:=6) (by kernel_rfl) Uh (by kernel_rfl) (by kernel_rfl)
theorem NX:O5 Try.prog 70 [.u8,.u8]:=Y9 (n:=2) (by kernel_rfl) FZ (by kernel_rfl) (by kernel_rfl)
theorem NY:O5 Try.prog 27 [.i16,.i16,.i16,.i16]:=Y9 (n:=4) (by kernel_rfl) Uh (by kernel_rfl) (by kernel_rfl)
theorem NZ:O5 Try.prog 28 [.i8]:=oJ (by kernel_rfl)
theorem Ui:O5 Try.prog 29 [.i8,.i8]:=Y9 (n:=2) (by kernel_rfl) NZ (by kernel_rfl) (by kernel_rfl)
theorem OA:O5 Try.prog 67 [.u8,.i16,.i16,.i16,.i16,.i16,.i16]:=fun H enc w base sp hd fuel cs x h=>by
 obtain ⟨y0,y1,n,_,hl,h0,h1⟩:=trod_struct2 Try.underlying67 h
 have a0:=FZ _ _ _ _ _ _ _ _ _ h0
 have a1:=NW _ _ _ _ _ _ _ _ _ h1
 have c5:Try.prog.cellsOf 5=1:=by kernel_rfl
 have c65:Try.prog.cellsOf 65=6:=by kernel_rfl
 have c67:Try.prog.cellsOf 67=7:=by kernel_rfl
 dsimp only at a0 a1
 rw [c5] at a0
 rw [c65] at a1
 rw [c67] at hl
 have e:cs=(cs.drop 0).take 1++(cs.drop 1).take 6:=by
  rw [List.drop_zero,List.take_of_length_le (show (cs.drop 1).length≤6 by rw [List.length_drop];omega),List.take_append_drop]
 rw [e];exact a0.append a1
theorem Gl {γ:Gm} {ks:List IntKind} {D:Nat→Nat→Int} {M:List Value}:∀ n,(∀ i,i < n→LR γ (a8 ks D i) ((M.drop (i * ks.length)).take ks.length))→LR γ (i7 (a8 ks D) n) (M.take (n * ks.length))
 | 0,_=>by rw [Nat.zero_mul,List.take_zero];exact .nil
 | n+1,h=>by
   rw [Nat.succ_mul,List.take_add]
   exact (Gl n (fun i hi=>h i (by omega))).append (h n (by omega))
theorem xW:∀ (ks:List IntKind) (y:Nat→Int) (p:Nat),(Qv ks y p).length=ks.length
 | [],_,_=>rfl
 | _::ks,y,p=>congrArg Nat.succ (xW ks y (p+1))
theorem Uj (ks:List IntKind) (D:Nat→Nat→Int) (j:Nat):(a8 ks D j).length=ks.length:=xW ks (D j) 0
theorem CM {w:World} {b o:Nat} {c:Array Value} {el:TypeId} {fz:Nat × Nat} (hb:w.heap[b]? = some (.cells c el fz)):w.cell? ⟨b,o,none⟩=c[o]?:=by
 unfold World.cell?
 rw [hb];rfl
theorem rH {w:World} {b o i z base:Nat} {c:Array Value} {el:TypeId} {fz:Nat × Nat} {cs':List Value} (hb:w.heap[b]? = some (.cells c el fz)) (h:w.cells? base ((⟨b,o,none⟩:Addr).add i) z=some cs') :
 cs'=((c.toList.drop o).drop i).take z∧(0 < z→o+i+z≤c.size):=by
 obtain ⟨_,hl,hc⟩:=World.cells?_some h
 have hc':∀ k,k < z→c.toList[o+i+k]? = cs'[k]?:=fun k hk=>by
  have:=hc k hk
  rw [Deep.add_add,B4,CM hb] at this
  rw [← this,Array.getElem?_toList]
  congr 1;omega
 have hsz:0 < z→o+i+z≤c.size:=fun hz=>by
  have:=hc' (z - 1) (by omega)
  rw [List.getElem?_eq_getElem (l:=cs') (by omega)] at this
  have:=(List.getElem?_eq_some_iff.1 this).1
  rw [Array.length_toList] at this
  omega
 refine ⟨List.ext_getElem? fun k=>?_,hsz⟩
 by_cases hk:k < z
 ·rw [List.getElem?_take_of_lt hk,List.getElem?_drop,List.getElem?_drop,← hc' k hk]
  congr 1;omega
 ·rw [List.getElem?_eq_none (by omega),List.getElem?_eq_none (by rw [List.length_take];omega)]
theorem CN {p:Program} {fits:TypeId→Bool} {d:Nat} {e:TypeId} {cells off n:Nat} (h:rowAt p fits d e (cells / p.cellsOf e) off n=true):off≤cells:=by
 cases d with
 | zero=>cases h
 | succ d =>
   unfold rowAt at h
   dsimp only at h
   split at h
   ·cases h
   ·rename_i hs
    have h1:off=off / p.cellsOf e * p.cellsOf e+off % p.cellsOf e:=by rw [Nat.mul_comm];exact (Nat.div_add_mod _ _).symm
    have hm:off % p.cellsOf e < p.cellsOf e:=Nat.mod_lt _ (Nat.pos_of_ne_zero hs)
    have hc:cells / p.cellsOf e * p.cellsOf e≤cells:=Nat.div_mul_le_self _ _
    simp only [Bool.or_eq_true,Bool.and_eq_true,beq_iff_eq,decide_eq_true_eq] at h
    rcases h with ⟨⟨h2,h3⟩,_⟩|⟨h2,_⟩
    ·have:=Nat.mul_le_mul_right (p.cellsOf e) (show off / p.cellsOf e≤cells / p.cellsOf e by omega)
     omega
    ·have:=Nat.mul_le_mul_right (p.cellsOf e) (show off / p.cellsOf e+1≤cells / p.cellsOf e from h2)
     rw [Nat.succ_mul] at this
     omega
theorem xX {p:Program} {e:TypeId} {cells off:Nat}:∀ {d:Nat} {u:TypeId} {n:Nat},liesAt p d e (cells / p.cellsOf e) off u n=true→off≤cells
 | 0,_,_,h=>by cases h
 | d + 1,u,n,h=>by
   unfold liesAt at h
   simp only [Bool.or_eq_true] at h
   rcases h with h|h
   ·exact CN h
   ·split at h
    ·exact xX h
    ·cases h
set_option maxRecDepth 4000
theorem iU {H:Type} {enc:TypeId × Value→H} {w:World} {t e:TypeId} {ks:List IntKind} (ht:Try.prog.underlying t=some (.slice e)) (hks:O5 Try.prog e ks) (hcz:Try.prog.cellsOf e=ks.length) (hz0:0 < ks.length)
 {base0 fuel:Nat} {v:Value} {x:DataW H × List MemPlace} (htr:DataW.trod enc Try.prog w 0 (fun _=>true) true fuel t [v]=some x) (hok:Cell.okWide Try.prog w .any base0 t v)
 (hnf:∀ b off,MemPlace.cell b off ∈ x.2→w.frozen? ⟨b,off,none⟩=false) :
 v = .slice none 0 0∨∃ blk off len cap ob el D,v=.slice (some ⟨blk,off,none⟩) len cap∧len≤cap∧w.heap[blk]? = some ob∧(∀ γ,OR γ ⟨blk,off,off+cap * ks.length⟩ (.arr len ks.length (a8 ks D) none el false true) ob) ∧
   ∀ j k,D j k=0∨∃ q,ks[k]? = some q∧(Lit.int q (D j k)).wf=true:=by
 rcases Deep.open_slice ht htr with ⟨h0,_⟩|⟨a,len,cap,m,n,Dt,Pl,h0,_,hl,hm,hmm,hx2,hx⟩
 ·left;simpa using h0
 right
 obtain rfl:v=.slice (some a) len cap:=by simpa using h0
 have hmm:m=cap:=by simpa using hmm
 subst hmm
 unfold Cell.okWide at hok
 rw [ht] at hok
 unfold Cell.ok at hok
 dsimp only at hok
 rw [ht] at hok
 obtain ⟨_,_,_,hsp,row,cells,hsh,hli⟩:=hok
 obtain ⟨blk,off,spot⟩:=a
 dsimp only at hsp hsh hli
 subst hsp
 unfold World.shape? at hsh
 split at hsh
 ·rename_i c el fz hb
  obtain ⟨rfl,rfl⟩:el=row∧c.size=cells:=by simpa using hsh
  have hoff:=xX hli
  rw [hcz] at hx
  have hrows:∀ i,i < m→∃ l:List Int,l.length=ks.length∧(∀ γ,LR γ (bJ ks l) (((c.toList.drop off).drop (i * ks.length)).take ks.length))∧∀ (k:Nat) (n:Int),l[k]? = some n→∃ q,ks[k]? = some q∧(Lit.int q n).wf=true:=fun i hi=>by
   obtain ⟨cs',h1,h2⟩:=hx i hi
   obtain ⟨e1,_⟩:=rH hb h1
   have:=hks _ _ _ _ _ _ _ _ _ h2
   rw [← e1];exact this.row
  obtain ⟨F,hF⟩:=Deep.choose_lt hrows
  have hsz:off+m * ks.length≤c.size:=by
   cases m with
   | zero=>rw [Nat.zero_mul];exact hoff
   | succ m =>
     obtain ⟨cs',h1,_⟩:=hx m (by omega)
     have:=(rH hb h1).2 hz0
     rw [Nat.succ_mul];omega
  have hlm:len * ks.length≤m * ks.length:=Nat.mul_le_mul_right _ hl
  refine ⟨blk,off,len,m,_,el,fun j k=>if j < m then (F j).getD k 0 else 0,rfl,hl,hb,fun γ=>⟨⟨c.toList.take off,(c.toList.drop off).take (len * ks.length),(c.toList.drop off).drop (len * ks.length),fz,?_,?_,⟨?_,?_⟩,?_,⟨?_,fun h=>by cases h⟩,Nat.zero_le _,fun h=>by cases h⟩,hz0,fun i _=>Uj ks (fun j k=>if j < m then (F j).getD k 0 else 0) i⟩,fun j k=>?_⟩
  ·have e0:c=⟨c.toList.take off++(c.toList.drop off).take (len * ks.length)++(c.toList.drop off).drop (len * ks.length)⟩:=by
    apply Array.ext'
    rw [List.append_assoc,List.take_append_drop,List.take_append_drop]
   exact congrArg (fun c=>Obj.cells c el fz) e0
  ·rw [List.length_take,Array.length_toList];exact Nat.min_eq_left hoff
  ·simp only [List.length_take,List.length_drop,Array.length_toList]
   omega
  ·simp only [List.length_take,List.length_drop,Array.length_toList]
   omega
  ·refine Gl (M:=c.toList.drop off) len (fun i hi=>?_)
   obtain ⟨h1,h2,_⟩:=hF i (by omega)
   have e:a8 ks (fun j k=>if j < m then (F j).getD k 0 else 0) i=bJ ks (F i):=tJ ks (F i) _ 0 h1 (fun q=>by
    show (if i < m then (F i).getD (0+q) 0 else 0)=_
    rw [if_pos (by omega),Nat.zero_add])
   rw [e];exact h2 γ
  ·intro p hp1 hp2 hp3
   left
   show off+m * ks.length≤p
   rcases Nat.lt_or_ge p (off+m * ks.length) with hlt|hge
   ·exfalso
    have hp1:off≤p:=hp1
    have hmem:MemPlace.cell blk p ∈ x.2:=by
     rw [hx2]
     refine List.mem_append_left _ ?_
     unfold MemPlace.row
     rw [hcz]
     exact List.mem_map.2 ⟨p - off,List.mem_range.2 (by omega),by show MemPlace.cell blk (off+(p - off))=_;rw [Nat.add_sub_cancel' hp1]⟩
    have hfr:=hnf blk p hmem
    unfold World.frozen? at hfr
    rw [hb] at hfr
    simp only [Bool.and_eq_false_iff,decide_eq_false_iff_not] at hfr
    omega
   ·exact hge
  ·show (if j < m then (F j).getD k 0 else 0)=0∨_
   by_cases hj:j < m
   ·rw [if_pos hj]
    obtain ⟨h1,_,h3⟩:=hF j hj
    rw [List.getD_eq_getElem?_getD]
    cases hk:(F j)[k]? with
    | none=>exact .inl rfl
    | some n =>
      obtain ⟨q,h4,h5⟩:=h3 k n hk
      exact .inr ⟨q,h4,by simpa [if_pos hj,List.getD_eq_getElem?_getD,hk] using h5⟩
   ·rw [if_neg hj];exact .inl rfl
 ·cases hsh
end
end Go.Proofs.Ytoahnefofelglaa.gm
end
