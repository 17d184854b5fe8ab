/-
The paths of the function 25, as the evaluator goes them: printed by a program.
-/
import Derived.Test.YtimkgalclegffaaBase
namespace Go.Ab.S1
open Go Go.Proofs Go.Ab
set_option maxRecDepth 100000
/-! ### tipstaff/tipstafftop.first (function 25) -/
-- entry: ret
theorem F25.p0 (are : Bool) (hc0 : EvF Try.prog prim 42 [.v (.sl [[.int .i64 0, .int .i64 0], [.int .i64 1, .int .i64 1], [.int .i64 2, .int .i64 2], [.int .i64 3, .int .i64 3], [.int .i64 4, .int .i64 4], [.int .i64 5, .int .i64 5], [.int .i64 6, .int .i64 6], [.int .i64 7, .int .i64 7], [.int .i64 8, .int .i64 8], [.int .i64 9, .int .i64 9], [.int .i64 10, .int .i64 10], [.int .i64 11, .int .i64 11], [.int .i64 8, .int .i64 8], [.int .i64 30, .int .i64 30], [.int .i64 256, .int .i64 256], [.int .i64 4096, .int .i64 4096], [.int .i64 20000, .int .i64 20000], [.int .i64 16, .int .i64 16], [.int .i64 0, .int .i64 0], [.int .i64 1, .int .i64 1], [.int .i64 2, .int .i64 2], [.int .i64 3, .int .i64 3], [.int .i64 4, .int .i64 4]])] [] [] [.v (.bool are)] []) :
    EvF Try.prog prim 25 [] [] [] [.v (.bool are)] [] :=
  EvF.of Try.func25 (EvK.done (n := 10) (sc := [.reg [], .reg [{}, {}, {}, {}, {}, {}, {}, {}, {}, {}, {}, {}, {}, {}, {}, {}, {}, {}, {}, {}, {}, {}, {}, {}, ⟨.auto, .call [] false [.v (.bool are)]⟩]]) (by kernel_rfl) ob0 (ca1 (fun _ : True => hc0) ca0))
end Go.Ab.S1
