/-
  THE RUN of 'GstateKnown': our machine over abstract values, run by the kernel to its end, answers true (conditions: none; that this machine is sound for the program's is shown in the texts ahead).
-/
import Derived.Test.YtemimkkjkggcoaaGreatDoorProg
import Derived.Test.YtemimkkjkggcoaaGreatDoorGA42
import Derived.KernelRfl
namespace Go.Proofs.YtemimkkjkggcoaaGreatDoor.gstateKnown
open Go.AM

/-- the program's tables, as trees -/
noncomputable def En : Env := mkEnv Tryz.prog
/-- the heap at the beginning: of the global variables nothing is known but where they lie -/
noncomputable def Hp0 : Hp := ⟨.e, Ps.of En.ng, En.ng⟩
set_option maxRecDepth 1000000 in
/-- THE RUN -/
theorem run : isTrue (runTop En 1000000 30 60000 3 Hp0) = true := by kernel_rfl
end Go.Proofs.YtemimkkjkggcoaaGreatDoor.gstateKnown
