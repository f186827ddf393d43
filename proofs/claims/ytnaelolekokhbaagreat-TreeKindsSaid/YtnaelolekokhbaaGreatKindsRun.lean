import Derived.Test.YtnaelolekokhbaaGreatLib
namespace Go.Proofs
open Go.RowKit Go.AX
set_option maxRecDepth 1000000
theorem Tryz.kindsRun : runs Tryz.prog pn 3000 15 [] = true := by kernel_rfl
theorem Tryz.kindsWalk (w : World) : Calls Tryz.prog 15 #[] w fun e w' => e = .returned (.bool true) ∧ Below w.heap.size w w' :=
  runs_sound (Args := []) Tryz.progOk Tryz.libOk VRels.nil Tryz.kindsRun w
#print axioms Tryz.kindsWalk
end Go.Proofs
