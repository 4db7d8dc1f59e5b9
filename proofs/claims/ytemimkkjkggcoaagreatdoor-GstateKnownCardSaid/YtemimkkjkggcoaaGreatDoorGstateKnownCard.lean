/-
  'GstateKnown' answers true, for every world in which the listed variable reads as the row lists it, and leaves all that lay there as it was: its card. Conditions: the row's own (what is laid; no other). The proof: a machine of our own over abstract values is sound for the program's machine, whatever the tape says (the texts ahead); the kernel runs it once, to the end.
-/
import Derived.Test.YtemimkkjkggcoaaGreatDoorCards
import Derived.Test.YtemimkkjkggcoaaGreatDoorTie
import Derived.Test.YtemimkkjkggcoaaGreatDoorGstateKnownRun
import Derived.Test.YtemimkkjkggcoaaGreatDoorGstateKnownFacts
import Derived.WalkKit
import Derived.ProofKit
import Derived.OpenShut
import Derived.Deep.DeepHandedRow
import Derived.Lib.LaidTab
namespace Go.Proofs.YtemimkkjkggcoaaGreatDoor.gstateKnown
open Go.ChangeShapes Go.WideShapes Go.ChangeAt Go.RowKit Go.AM

theorem mixed : Tryz.prog.follows .mixedOrders = true := by kernel_rfl
theorem own : ownKnob Tryz.prog.godebug = none := by kernel_rfl

theorem start (w : World) : HR (fun a => if a.idx < En.ng then some ⟨a.idx, 0, 0⟩ else none) En.ng Hp0 w := by
  refine ⟨fun a o h => ?_, fun a a' o o' L L' h => ?_, fun a L h => ?_, fun g hg => ⟨0, ?_⟩⟩
  · rw [show Hp0.hp = .e from rfl, T.get_e] at h; cases h
  · rw [show Hp0.hp = .e from rfl, T.get_e] at h; cases h
  · show a.idx < (Ps.of En.ng).idx
    rw [Ps.idx_of]
    by_cases hlt : a.idx < En.ng
    · exact hlt
    · rw [if_neg hlt] at h; cases h
  · rw [Ps.idx_of, if_pos hg]
theorem walk (w : World) : Calls Tryz.prog 3 #[] w fun e w' => e = .returned (.bool true) ∧ Below w.heap.size w w' :=
  runTop_true (E := En) (mkEnv_ok Tryz.prog) mixed run (start w) (by show (Ps.of En.ng).idx ≤ En.ng; rw [Ps.idx_of]; exact Nat.le_refl _)

/-- what is asked behind the call, where nothing is handed in and nothing is read -/
theorem post_closed {H : Type} {enc : TypeId × Value → H} {P : Program} {f : Func} {s : ChangeSpec} {apart fresh handsOn again : Bool} {W W' : World} {args : Array Value} {v : Value}
    (hW : DataW.Whole enc P f.params.toList s.vars apart W args.toList [] [] [])
    (hres : ∀ (b : Nat) (sp : Nat → Bool) (hd : Bool), DataW.TrodAll enc P W' b sp hd f.resultTypes.toList (v.resultList f.resultTypes.size) (s.fn H []).results [])
    (hargs : ∀ sp : Nat → Bool, DataW.TrodAll enc P W' 0 sp true f.params.toList args.toList (s.fn H []).args [])
    (hvars : ∀ sp : Nat → Bool, DataW.TrodVars enc P W' sp s.vars (s.fn H []).vars [])
    (hb : Below W.heap.size W W')
    (hok : ∀ (j : Nat) (t : TypeId) (r : Value), f.resultTypes[j]? = some t → (v.resultList f.resultTypes.size)[j]? = some r → Value.okWide P W' .any 0 t r) :
    s.post enc P f apart fresh handsOn again W args v W' := by
  refine ⟨[], [], [], [], [], [], hW, hres _ _ _, hargs _, hvars _, World.keptBut_mono (fun p hp => ⟨hp, .inr (.inr hp)⟩) (hb.frame (· ∈ ([] : List MemPlace))), fun _ => ?_⟩
  refine ⟨hok, _, _, ([] ++ []) ++ [], ⟨[] ++ [], [], trodAll_append (hargs _) (hres _ _ _), hvars _, rfl, ?_, ?_⟩, ?_⟩
  · intro b off hp; cases hp
  · intro _; simp
  · intro p hp; cases hp

set_option maxRecDepth 100000 in
theorem contract (H : Type) (enc : TypeId × Value → H) (W : World) (args : Array Value) (ds gs : List (DataW H)) (before : List MemPlace)
    (hW : DataW.Whole enc Tryz.prog Tryz.f3.params.toList Rows.gstateKnownSpec.vars false W args.toList ds gs before) :
    Calls Tryz.prog 3 args W fun e W' => ∃ v, e = .returned v ∧ Rows.gstateKnownSpec.post enc Tryz.prog Tryz.f3 false true false false W args v W' := by
  have hW' := hW
  obtain ⟨p, q, hA0, hV, rfl, hfz, hnd⟩ := hW
  have hA : DataW.TrodAll enc Tryz.prog W 0 (fun _ => true) true Tryz.f3.params.toList args.toList ds p := hA0
  rw [Tryz.params3] at hA
  obtain ⟨rfl, rfl, rfl⟩ := trodAll_none hA
  obtain ⟨rfl, rfl⟩ := trodVars_none hV
  clear hA0
  simp only [List.append_nil] at hW'
  refine (walk W).mono fun e W' ⟨he, hg⟩ => ?_
  subst he
  exact ⟨_, rfl, post_closed hW' (fun _ _ _ => trodAll_cons_mk (shut_bool Tryz.underlying4 _) trodAll_mk0) (fun _ => trodAll_mk0) (fun _ => rfl) hg (ok_one (by kernel_rfl) rfl (okWide_bool_mk Tryz.underlying4 _))⟩

/-- a world for the witness: the settled one, the listed variable holding what its initialiser lays -/
noncomputable def laidWorld (os : Os) : World :=
  { World.holding Tryz.prog os ⟨#[], #[], []⟩ with heap := (World.holding Tryz.prog os ⟨#[], #[], []⟩).heap.modify 0 fun
      | .cells _ t frozen => .cells #[.string ⟨#[97]⟩, .string ⟨#[98]⟩, .string ⟨#[97, 100, 100]⟩, .string ⟨#[120]⟩, .string ⟨#[102, 111, 111]⟩, .string ⟨#[]⟩, .string ⟨#[112, 111, 112]⟩, .string ⟨#[70, 111, 110, 116]⟩] t frozen
      | o => o }
theorem laid_met (os : Os) : laidMet Tryz.prog Rows.gstateKnownRow.laid ((laidWorld os).forCall (fun _ _ => 0) ⟨#[], #[], []⟩).memory :=
  laidMet_of_run' 8 (by kernel_rfl) (by kernel_rfl)
theorem reads (os : Os) {H : Type} (enc : TypeId × Value → H) : ∃ places, DataW.whole enc Tryz.prog ((laidWorld os).forCall (fun _ _ => 0) ⟨#[], #[], []⟩).memory Tryz.f3.params.toList Rows.gstateKnownSpec.vars false (#[] : Array Value).toList 8 = some ([], [], places) :=
  ⟨[], by kernel_rfl⟩

set_option maxRecDepth 100000 in
theorem lifted (os : Os) (started : os.Started) (H : Type) (enc : TypeId × Value → H) (F : Stop.Interp) :
    ReturnsInHanded {} Tryz.checked os 3 .any ((OpenSpec.ofChange Rows.gstateKnownSpec).preRow enc Tryz.prog Tryz.f3 Rows.gstateKnownRow.domain false Rows.gstateKnownRow.laid) (((OpenSpec.ofChange Rows.gstateKnownSpec).at F).post enc Tryz.prog Tryz.f3 false true false false) := by
  obtain ⟨places, hx⟩ := reads os enc
  refine returnsInHanded_of_row (C := Tryz.checked) (s := OpenSpec.ofChange Rows.gstateKnownSpec) own started (by kernel_rfl) Tryz.func3
    (witness_row_at (enc := enc) (C := Tryz.checked) false (laidWorld os) #[] rfl (by kernel_rfl) (by kernel_rfl) (by kernel_rfl)
      (OpenSpec.preRow_of_cond 8 hx (by kernel_rfl) (fun k hk => by cases hk) (by kernel_rfl) (laid_met os))) ?_
  intro W _ args ds gs before _ hW _ _ _ _ _ _
  exact contract H enc W args ds gs before hW
theorem said : Rows.GstateKnownSaid :=
  OpenClaim.holds_of_cond 3 Tryz.f3 rfl rfl rfl rfl rfl rfl rfl ⟨rfl, rfl, rfl, rfl, rfl⟩ rfl rfl rfl rfl rfl (by kernel_rfl) Tryz.func3 facts
    (of_decide_eq_true (by kernel_rfl)) (by unfold Func.isWrapper; first | (rw [if_pos (by decide +kernel)]; kernel_rfl) | (rw [if_neg (by decide +kernel)]; exact ⟨rfl, rfl⟩))
    (fun os started H enc _ F => by rw [OpenClaim.pre_eq_preRow]; exact lifted os started H enc F)
theorem plain (f : FuncId) (fn : Func) (hf : Tryz.pinned.checked.prog.funcNamed Rows.gstateKnownRow.func = some f) (hfn : Tryz.pinned.checked.prog.funcs[f]? = some fn) :
    true = Tryz.pinned.checked.prog.looks [] ∧ ∀ (j : Nat) t, fn.params[j]? = some t → Tryz.pinned.checked.prog.wantsStandIn t = false := by
  obtain rfl : f = 3 := Option.some.inj ((show Tryz.prog.funcNamed Rows.gstateKnownRow.func = some 3 by kernel_rfl).symm.trans hf) |>.symm
  obtain rfl : fn = Tryz.f3 := (Option.some.inj (Tryz.func3.symm.trans hfn)).symm
  refine ⟨by kernel_rfl, fun j t ht => ?_⟩
  rw [Tryz.params3] at ht
  simp at ht
end Go.Proofs.YtemimkkjkggcoaaGreatDoor.gstateKnown
namespace Go.Proofs.YtemimkkjkggcoaaGreatDoor
/-- ████ THE CARD ████ -/
theorem gstateKnownCard_holds : Rows.GstateKnownCardSaid :=
  Claim7.holds_tied_plain_at .later [] _ _ _ _ gstateKnown.said (fun _ h => by cases h) (by kernel_rfl) (fun _ h => by cases h) gstateKnown_row_tie rfl ⟨rfl, rfl⟩ (by kernel_rfl) rfl gstateKnown.plain (by kernel_rfl)
#print axioms gstateKnownCard_holds
end Go.Proofs.YtemimkkjkggcoaaGreatDoor
