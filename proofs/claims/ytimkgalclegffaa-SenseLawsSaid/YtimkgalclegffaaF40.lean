/-
The paths of the function 40, as the evaluator goes them: printed by a program.
-/
import Derived.Test.YtimkgalclegffaaBase
namespace Go.Ab.S1
open Go Go.Proofs Go.Ab
set_option maxRecDepth 100000
/-! ### tipstaff/sense.Right$1 (function 40) -/
-- entry: ret
theorem F40.p0 (H : List (List AV)) (k0 k1 k2 k3 k4 : Int) (k5 : List (List PV)) (right : Bool) (hc0 : EvF Try.prog prim 21 [.agg [.int .i64 k0, .int .i64 k1, .int .i64 k2, .int .u64 k3, .int .u64 k4, .sl k5]] [] [] [.v (.bool right)] []) :
    EvF Try.prog prim 40 [.agg [.int .i64 k0, .int .i64 k1, .int .i64 k2, .int .u64 k3, .int .u64 k4, .sl k5]] [] H [.v (.bool (!right))] H :=
  EvF.of Try.func40 (EvK.done (n := 10) (sc := [.reg [], .reg [⟨.auto, .h⟩, ⟨.auto, .call [] false [.v (.bool right)]⟩]]) (by kernel_rfl) ob0 (ca1 (fun _ : True => hc0) ca0))
end Go.Ab.S1
