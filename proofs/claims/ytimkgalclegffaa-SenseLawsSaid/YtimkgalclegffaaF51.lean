/-
The paths of the function 51, as the evaluator goes them: printed by a program.
-/
import Derived.Test.YtimkgalclegffaaBase
namespace Go.Ab.S1
open Go Go.Proofs Go.Ab
set_option maxRecDepth 100000
/-! ### tipstaff/sense.holds$1 (function 51) -/
-- entry: ret
theorem F51.p0 (b : Nat) (a0 a1 a2 a3 a4 a5 : Int) (H : List (List AV)) (k0 k1 k2 k3 k4 : Int) (k5 : List (List PV)) (holds : Bool) (ho0 : H[b]? = some [.v (.int .u64 a0), .v (.int .u64 a1), .v (.int .u64 a2), .v (.int .u64 a3), .v (.int .u64 a4), .v (.int .u64 a5)])
    (hc0 : EvF Try.prog prim 41 [.agg [.int .i64 k0, .int .i64 k1, .int .i64 k2, .int .u64 k3, .int .u64 k4, .sl k5], .agg [.int .u64 a0, .int .u64 a1, .int .u64 a2, .int .u64 a3, .int .u64 a4, .int .u64 a5]] [] [] [.v (.bool holds)] []) :
    EvF Try.prog prim 51 [.agg [.int .i64 k0, .int .i64 k1, .int .i64 k2, .int .u64 k3, .int .u64 k4, .sl k5], .optr b 0] [] H [.v (.bool holds)] H :=
  EvF.of Try.func51 (EvK.done (n := 10) (sc := [.reg [], .reg [⟨.auto, .h⟩, ⟨.auto, .box [.v (.int .u64 a0), .v (.int .u64 a1), .v (.int .u64 a2), .v (.int .u64 a3), .v (.int .u64 a4), .v (.int .u64 a5)]⟩, ⟨.auto, .call [] false [.v (.bool holds)]⟩]]) (by kernel_rfl) (ob1 ho0 ob0) (ca1 (fun _ : True => hc0) ca0))
end Go.Ab.S1
