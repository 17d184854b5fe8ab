/-
The paths of the function 57, as the evaluator goes them: printed by a program.
-/
import Derived.Test.YtimkgalclegffaaBase
namespace Go.Ab.S1
open Go Go.Proofs Go.Ab
set_option maxRecDepth 100000
/-! ### cmp.isNaN[uint64] (function 57) -/
-- entry: ret
theorem F57.p0 (x : Int)  :
    EvF Try.prog prim 57 [.v (.int .u64 x)] [] [] [.v (.bool (x != x))] [] :=
  EvF.of Try.func57 (EvK.done (n := 10) (sc := [.reg [], .reg []]) (by kernel_rfl) ob0 ca0)
end Go.Ab.S1
