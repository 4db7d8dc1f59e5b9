/-
  NARROWER THAN 'FOR EVERY INPUT', by the rows' own cells (each row's printed sentence says how): GstateKnown: laid · MediaKnown: laid.
  DERIVED. THE GIVEN ROWS OF THIS SEAT. 2 by the template 'for every input the law returns true; each argument reads behind the call as it read before'; 0 by the template 'total and deterministic' (their statements: YtemimkkjkggcoaaGreatDoorTotals.lean).
  GIVEN WITH THE SEED: the statements are not yours to turn. If you find one false, say at which input.
  Laid BY PROGRAM, IN A SANDBOX (cutbox-rows.mjs): the forced cells as the released guide's own fill.sh prints them over the translation 78fc07912c40e34c… (all of the seat's roots in one cut). By AI agents, Wed Nov 11 2026. No macro, syntax, notation, axiom, sorry.
-/
import Derived.Test.YtemimkkjkggcoaaGreatDoorChecked
import GoSem.Claim
import GoSem.ClaimJoined
import GoSem.ClaimMapViews
import Derived.JoinedTies
import Derived.KernelRfl
namespace Go.Proofs.YtemimkkjkggcoaaGreatDoor
/- THE CELL 'sum', in the pinned program and in every row, IS THE sha256 OF THE DUMP (.gsa) THAT YtemimkkjkggcoaaGreatDoorProg.lean LOADS. Nothing in Lean hashes anything: it is a label: what it is worth is what the hold of that sum in a sandbox is worth. -/
noncomputable def Tryz.pinned : Pinned := { name := "ytemimkkjkggcoaagreatdoor", sum := "78fc07912c40e34c38bbd819850c8459f7c43bf7b5017a1e63221acee03a8e4e", checked := Tryz.checked }
namespace Rows
def none {H : Type} : Left H := { results := [], args := [] }

/- WHAT THE LISTED PACKAGE-LEVEL VARIABLES READ AS WHEN THE CALL BEGINS. Each datum BY PROGRAM (the guide's laid-datum.mjs) off the statement by which the dump's own 'gosem.cut.vars' lays the variable. In a bare row this is a premise. The card (YtemimkkjkggcoaaGreatDoorCards.lean) ties it to the program's text. -/
def laid_chase_chaseref11_Words {H : Type} : DataW H := .agg [.lit (.string [97]), .lit (.string [98]), .lit (.string [97, 100, 100]), .lit (.string [120]), .lit (.string [102, 111, 111]), .lit (.string []), .lit (.string [112, 111, 112]), .lit (.string [70, 111, 110, 116])]

/-- 'chaselaw37.GstateKnown': WHATEVER THE INPUT: true; the input reads as it did. -/
def gstateKnownSpec : ChangeSpec := { name := "gstateKnown", fn := fun _ => fun
  | [] => { results := [.lit (.bool true)], args := [] }
  | _ => none }
def gstateKnownRow : OpenClaim := { program := "ytemimkkjkggcoaagreatdoor", sum := "78fc07912c40e34c38bbd819850c8459f7c43bf7b5017a1e63221acee03a8e4e", func := "chase/chaselaw37.GstateKnown", spec := "gstateKnown", inPlace := ["math.sqrt"], unfollowed := true, recurses := true, named := ["chase/chaseref11.Words"], apart := false, laid := [("chase/chaseref11.Words", laid_chase_chaseref11_Words)] }
def GstateKnownSaid : Prop := gstateKnownRow.holds Tryz.pinned (OpenSpec.ofChange gstateKnownSpec)

/-- ITS FALSE NEIGHBOUR: 'it returns false'. Refute it at one input. -/
def gstateKnownWrong : ChangeSpec := { name := "gstateKnown", fn := fun _ => fun
  | [] => { results := [.lit (.bool false)], args := [] }
  | _ => none }
def GstateKnownWrongFalsely : Prop := gstateKnownRow.holds Tryz.pinned (OpenSpec.ofChange gstateKnownWrong)

/-- 'chaselaw39.MediaKnown': WHATEVER THE INPUT: true; the input reads as it did. -/
def mediaKnownSpec : ChangeSpec := { name := "mediaKnown", fn := fun _ => fun
  | [] => { results := [.lit (.bool true)], args := [] }
  | _ => none }
def mediaKnownRow : OpenClaim := { program := "ytemimkkjkggcoaagreatdoor", sum := "78fc07912c40e34c38bbd819850c8459f7c43bf7b5017a1e63221acee03a8e4e", func := "chase/chaselaw39.MediaKnown", spec := "mediaKnown", inPlace := ["math.sqrt"], unfollowed := true, recurses := true, named := ["chase/chaseref11.Words"], apart := false, laid := [("chase/chaseref11.Words", laid_chase_chaseref11_Words)] }
def MediaKnownSaid : Prop := mediaKnownRow.holds Tryz.pinned (OpenSpec.ofChange mediaKnownSpec)

/-- ITS FALSE NEIGHBOUR: 'it returns false'. Refute it at one input. -/
def mediaKnownWrong : ChangeSpec := { name := "mediaKnown", fn := fun _ => fun
  | [] => { results := [.lit (.bool false)], args := [] }
  | _ => none }
def MediaKnownWrongFalsely : Prop := mediaKnownRow.holds Tryz.pinned (OpenSpec.ofChange mediaKnownWrong)

/- THE SECOND FORM. 'bulk': how many values and letters a reading holds, each counted each time it is reached (what is shared counts as often as it is met; a slice's spare places count too). A statement '..UptoSaid' is the law's where the arguments, and the package variables that the reading takes, are together of bulk at most 1048576: NARROWER than '..Said'. Prove '..Said' where nothing that the law and all that it calls make is longer than what came in: it says more and counts as full. Else prove '..UptoSaid'. A law counts once. -/
mutual
def uptoBulk {H : Type} : DataW H → Nat
  | .lit (.string bytes) => bytes.length + 1
  | .lit _ => 1
  | .nil => 1
  | .ptr d => uptoBulk d + 1
  | .slice elems spare => uptoBulkAll elems + uptoBulkAll spare + 1
  | .agg parts => uptoBulkAll parts + 1
  | .iface _ d => uptoBulk d + 1
  | .map entries => uptoBulkEntries entries + 1
  | .held _ => 1
def uptoBulkAll {H : Type} : List (DataW H) → Nat
  | [] => 0
  | d :: r => uptoBulk d + uptoBulkAll r
def uptoBulkEntries {H : Type} : List (Lit × DataW H) → Nat
  | [] => 0
  | x :: r => uptoBulkEntry x + uptoBulkEntries r
def uptoBulkEntry {H : Type} : Lit × DataW H → Nat
  | (.string bytes, d) => bytes.length + uptoBulk d + 1
  | (_, d) => uptoBulk d + 1
 end
def uptoSmall : (H : Type) → List (DataW H) → Bool := fun _ ds => decide (uptoBulkAll ds ≤ 1048576)
def OpenSpec.upto (s : _root_.Go.ChangeSpec) : _root_.Go.OpenSpec := { _root_.Go.OpenSpec.ofChange s with cond := some uptoSmall }

/-- 'chaselaw37.GstateKnown', WHERE WHAT IT READS IS OF BULK AT MOST 1048576: true; the input reads as it did. -/
def gstateKnownUptoRow : OpenClaim := { program := "ytemimkkjkggcoaagreatdoor", sum := "78fc07912c40e34c38bbd819850c8459f7c43bf7b5017a1e63221acee03a8e4e", func := "chase/chaselaw37.GstateKnown", spec := "gstateKnown", inPlace := ["math.sqrt"], unfollowed := true, recurses := true, named := ["chase/chaseref11.Words"], apart := false, laid := [("chase/chaseref11.Words", laid_chase_chaseref11_Words)], narrowed := true }
def GstateKnownUptoSaid : Prop := gstateKnownUptoRow.holds Tryz.pinned (OpenSpec.upto gstateKnownSpec)

/-- 'chaselaw39.MediaKnown', WHERE WHAT IT READS IS OF BULK AT MOST 1048576: true; the input reads as it did. -/
def mediaKnownUptoRow : OpenClaim := { program := "ytemimkkjkggcoaagreatdoor", sum := "78fc07912c40e34c38bbd819850c8459f7c43bf7b5017a1e63221acee03a8e4e", func := "chase/chaselaw39.MediaKnown", spec := "mediaKnown", inPlace := ["math.sqrt"], unfollowed := true, recurses := true, named := ["chase/chaseref11.Words"], apart := false, laid := [("chase/chaseref11.Words", laid_chase_chaseref11_Words)], narrowed := true }
def MediaKnownUptoSaid : Prop := mediaKnownUptoRow.holds Tryz.pinned (OpenSpec.upto mediaKnownSpec)

end Rows
end Go.Proofs.YtemimkkjkggcoaaGreatDoor
