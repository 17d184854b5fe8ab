/-
The paths of the function 52, as the evaluator goes them: printed by a program.
-/
import Derived.Test.YtimkgalclegffaaBase
namespace Go.Ab.S1
open Go Go.Proofs Go.Ab
set_option maxRecDepth 100000
/-! ### tipstaff/sense.holds$2 (function 52) -/
-- entry: ret
theorem F52.p0 (b b2 : Nat) (H : List (List AV)) (k0 k1 k2 k3 k4 : Int) (k5 : List (List PV)) (holds : Bool) (ho0 : H[b]? = some [.fn (.func 51) [] [.optr b2 0]])
    (hc0 : EvF Try.prog prim 51 [.agg [.int .i64 k0, .int .i64 k1, .int .i64 k2, .int .u64 k3, .int .u64 k4, .sl k5], .optr b2 0] [] (H ++ [[.v (.int .i64 k0), .v (.int .i64 k1), .v (.int .i64 k2), .v (.int .u64 k3), .v (.int .u64 k4), .v (.sl k5)]]) [.v (.bool holds)] (H ++ [[.v (.int .i64 k0), .v (.int .i64 k1), .v (.int .i64 k2), .v (.int .u64 k3), .v (.int .u64 k4), .v (.sl k5)]])) :
    EvF Try.prog prim 52 [.agg [.int .i64 k0, .int .i64 k1, .int .i64 k2, .int .u64 k3, .int .u64 k4, .sl k5], .optr b 0] [] H [.v (.bool (!holds))] H :=
  EvF.of Try.func52 (EvK.done (n := 10) (sc := [.reg [], .reg [⟨.auto, .box [.fn (.func 51) [] [.optr b2 0]]⟩, ⟨.auto, .h⟩, ⟨.auto, .callH [.v (.bool holds)] H [[.v (.int .i64 k0), .v (.int .i64 k1), .v (.int .i64 k2), .v (.int .u64 k3), .v (.int .u64 k4), .v (.sl k5)]]⟩]]) (by kernel_rfl) (ob1 ho0 (ob1 (show (H : List (List AV)).length = (H : List (List AV)).length from rfl) (ob1 (show LowS H H from (fun cs hc => Or.inl hc)) ob0))) (ca1 (fun _ : True => hc0) ca0))
end Go.Ab.S1
