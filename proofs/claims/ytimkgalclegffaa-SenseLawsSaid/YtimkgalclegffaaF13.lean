/-
The paths of the function 13, as the evaluator goes them: printed by a program.
-/
import Derived.Test.YtimkgalclegffaaBase
namespace Go.Ab.S1
open Go Go.Proofs Go.Ab
set_option maxRecDepth 100000
/-! ### tipstaff/tipstafflaw17.Few (function 13) -/
-- entry: ret
theorem F13.p0 (c0 c1 c2 c3 c4 : Int) (c5 : List (List PV)) (size : Int) (hc0 : EvF Try.prog prim 33 [.agg [.int .i64 c0, .int .i64 c1, .int .i64 c2, .int .u64 c3, .int .u64 c4, .sl c5], .v (.int .i64 0)] [] [] [.v (.int .i64 size)] []) :
    EvF Try.prog prim 13 [.agg [.int .i64 c0, .int .i64 c1, .int .i64 c2, .int .u64 c3, .int .u64 c4, .sl c5]] [] [] [.v (.bool (decide (size ≤ 200)))] [] :=
  EvF.of Try.func13 (EvK.done (n := 10) (sc := [.reg [], .reg [⟨.auto, .h⟩, ⟨.auto, .call [] false [.v (.int .i64 size)]⟩]]) (by kernel_rfl) ob0 (ca1 (fun _ : True => hc0) ca0))
end Go.Ab.S1
