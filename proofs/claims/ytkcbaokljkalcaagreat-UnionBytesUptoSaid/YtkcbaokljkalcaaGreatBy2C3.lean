import Derived.Test.YtkcbaokljkalcaaGreatBy2C2
set_option linter.unusedVariables false
set_option linter.unusedSimpArgs false
set_option linter.defProp false
namespace Go.AX
open Go.Proofs Go.RowKit
set_option maxRecDepth 1000000
set_option maxHeartbeats 40000000
set_option linter.unusedSimpArgs false
structure Mv where
 u:Nat
 old:List Nat
 j:Nat
 v:Nat
 nm:List Nat
 y:Option Nat
end Go.AX
