/-
  NARROWER THAN 'FOR EVERY INPUT', by the rows' own cells (each row's printed sentence says how): MediaChooses: laid · MediaGrants: laid.
  DERIVED. THE GIVEN ROWS OF THIS SEAT. 2 by the template 'for every input the law returns true; each argument reads behind the call as it read before'; 0 by the template 'total and deterministic' (their statements: YtoohcobdljmofaaGreatDoorTotals.lean).
  GIVEN WITH THE SEED: the statements are not yours to turn. If you find one false, say at which input.
  Laid BY PROGRAM, IN A SANDBOX (cutbox-rows.mjs): the forced cells as the released guide's own fill.sh prints them over the translation 5f48a24a92a43d72… (all of the seat's roots in one cut). By AI agents, Wed Nov 11 2026. No macro, syntax, notation, axiom, sorry.
-/
import Derived.Test.YtoohcobdljmofaaGreatDoorChecked
import GoSem.Claim
import GoSem.ClaimJoined
import GoSem.ClaimMapViews
import Derived.JoinedTies
import Derived.KernelRfl
namespace Go.Proofs.YtoohcobdljmofaaGreatDoor
/- THE CELL 'sum', in the pinned program and in every row, IS THE sha256 OF THE DUMP (.gsa) THAT YtoohcobdljmofaaGreatDoorProg.lean LOADS. Nothing in Lean hashes anything: it is a label: what it is worth is what the hold of that sum in a sandbox is worth. -/
noncomputable def Tryz.pinned : Pinned := { name := "ytoohcobdljmofaagreatdoor", sum := "5f48a24a92a43d726a415211d967d681110c3b8ad4a288a597955337c5d6ed0a", checked := Tryz.checked }
namespace Rows
def none {H : Type} : Left H := { results := [], args := [] }

/- WHAT THE LISTED PACKAGE-LEVEL VARIABLES READ AS WHEN THE CALL BEGINS. Each datum BY PROGRAM (the guide's laid-datum.mjs) off the statement by which the dump's own 'gosem.cut.vars' lays the variable. In a bare row this is a premise. The card (YtoohcobdljmofaaGreatDoorCards.lean) ties it to the program's text. -/
def laid_chase_chaseref11_Words {H : Type} : DataW H := .agg [.lit (.string [97]), .lit (.string [98]), .lit (.string [97, 100, 100]), .lit (.string [120]), .lit (.string [102, 111, 111]), .lit (.string []), .lit (.string [112, 111, 112]), .lit (.string [70, 111, 110, 116])]

/-- 'chaselaw39.MediaChooses': WHATEVER THE INPUT: true; the input reads as it did. -/
def mediaChoosesSpec : ChangeSpec := { name := "mediaChooses", fn := fun _ => fun
  | [d1, d2, d3] => { results := [.lit (.bool true)], args := [d1, d2, d3] }
  | _ => none }
def mediaChoosesRow : OpenClaim := { program := "ytoohcobdljmofaagreatdoor", sum := "5f48a24a92a43d726a415211d967d681110c3b8ad4a288a597955337c5d6ed0a", func := "chase/chaselaw39.MediaChooses", spec := "mediaChooses", inPlace := ["math.sqrt"], unfollowed := true, recurses := true, named := ["chase/chaseref11.Words"], apart := false, laid := [("chase/chaseref11.Words", laid_chase_chaseref11_Words)] }
def MediaChoosesSaid : Prop := mediaChoosesRow.holds Tryz.pinned (OpenSpec.ofChange mediaChoosesSpec)

/-- ITS FALSE NEIGHBOUR: 'it returns false'. Refute it at one input. -/
def mediaChoosesWrong : ChangeSpec := { name := "mediaChooses", fn := fun _ => fun
  | [d1, d2, d3] => { results := [.lit (.bool false)], args := [d1, d2, d3] }
  | _ => none }
def MediaChoosesWrongFalsely : Prop := mediaChoosesRow.holds Tryz.pinned (OpenSpec.ofChange mediaChoosesWrong)

/-- 'chaselaw39.MediaGrants': WHATEVER THE INPUT: true; the input reads as it did. -/
def mediaGrantsSpec : ChangeSpec := { name := "mediaGrants", fn := fun _ => fun
  | [d1, d2] => { results := [.lit (.bool true)], args := [d1, d2] }
  | _ => none }
def mediaGrantsRow : OpenClaim := { program := "ytoohcobdljmofaagreatdoor", sum := "5f48a24a92a43d726a415211d967d681110c3b8ad4a288a597955337c5d6ed0a", func := "chase/chaselaw39.MediaGrants", spec := "mediaGrants", inPlace := ["math.sqrt"], unfollowed := true, recurses := true, named := ["chase/chaseref11.Words"], apart := false, laid := [("chase/chaseref11.Words", laid_chase_chaseref11_Words)] }
def MediaGrantsSaid : Prop := mediaGrantsRow.holds Tryz.pinned (OpenSpec.ofChange mediaGrantsSpec)

/-- ITS FALSE NEIGHBOUR: 'it returns false'. Refute it at one input. -/
def mediaGrantsWrong : ChangeSpec := { name := "mediaGrants", fn := fun _ => fun
  | [d1, d2] => { results := [.lit (.bool false)], args := [d1, d2] }
  | _ => none }
def MediaGrantsWrongFalsely : Prop := mediaGrantsRow.holds Tryz.pinned (OpenSpec.ofChange mediaGrantsWrong)

/- THE SECOND FORM. 'bulk': how many values and letters a reading holds, each counted each time it is reached (what is shared counts as often as it is met; a slice's spare places count too). A statement '..UptoSaid' is the law's where the arguments, and the package variables that the reading takes, are together of bulk at most 1048576: NARROWER than '..Said'. Prove '..Said' where nothing that the law and all that it calls make is longer than what came in: it says more and counts as full. Else prove '..UptoSaid'. A law counts once. -/
mutual
def uptoBulk {H : Type} : DataW H → Nat
  | .lit (.string bytes) => bytes.length + 1
  | .lit _ => 1
  | .nil => 1
  | .ptr d => uptoBulk d + 1
  | .slice elems spare => uptoBulkAll elems + uptoBulkAll spare + 1
  | .agg parts => uptoBulkAll parts + 1
  | .iface _ d => uptoBulk d + 1
  | .map entries => uptoBulkEntries entries + 1
  | .held _ => 1
def uptoBulkAll {H : Type} : List (DataW H) → Nat
  | [] => 0
  | d :: r => uptoBulk d + uptoBulkAll r
def uptoBulkEntries {H : Type} : List (Lit × DataW H) → Nat
  | [] => 0
  | x :: r => uptoBulkEntry x + uptoBulkEntries r
def uptoBulkEntry {H : Type} : Lit × DataW H → Nat
  | (.string bytes, d) => bytes.length + uptoBulk d + 1
  | (_, d) => uptoBulk d + 1
 end
def uptoSmall : (H : Type) → List (DataW H) → Bool := fun _ ds => decide (uptoBulkAll ds ≤ 1048576)
def OpenSpec.upto (s : _root_.Go.ChangeSpec) : _root_.Go.OpenSpec := { _root_.Go.OpenSpec.ofChange s with cond := some uptoSmall }

/-- 'chaselaw39.MediaChooses', WHERE WHAT IT READS IS OF BULK AT MOST 1048576: true; the input reads as it did. -/
def mediaChoosesUptoRow : OpenClaim := { program := "ytoohcobdljmofaagreatdoor", sum := "5f48a24a92a43d726a415211d967d681110c3b8ad4a288a597955337c5d6ed0a", func := "chase/chaselaw39.MediaChooses", spec := "mediaChooses", inPlace := ["math.sqrt"], unfollowed := true, recurses := true, named := ["chase/chaseref11.Words"], apart := false, laid := [("chase/chaseref11.Words", laid_chase_chaseref11_Words)], narrowed := true }
def MediaChoosesUptoSaid : Prop := mediaChoosesUptoRow.holds Tryz.pinned (OpenSpec.upto mediaChoosesSpec)

/-- 'chaselaw39.MediaGrants', WHERE WHAT IT READS IS OF BULK AT MOST 1048576: true; the input reads as it did. -/
def mediaGrantsUptoRow : OpenClaim := { program := "ytoohcobdljmofaagreatdoor", sum := "5f48a24a92a43d726a415211d967d681110c3b8ad4a288a597955337c5d6ed0a", func := "chase/chaselaw39.MediaGrants", spec := "mediaGrants", inPlace := ["math.sqrt"], unfollowed := true, recurses := true, named := ["chase/chaseref11.Words"], apart := false, laid := [("chase/chaseref11.Words", laid_chase_chaseref11_Words)], narrowed := true }
def MediaGrantsUptoSaid : Prop := mediaGrantsUptoRow.holds Tryz.pinned (OpenSpec.upto mediaGrantsSpec)

end Rows
end Go.Proofs.YtoohcobdljmofaaGreatDoor
