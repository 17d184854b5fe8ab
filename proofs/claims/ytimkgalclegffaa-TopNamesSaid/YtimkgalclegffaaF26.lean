/-
The paths of the function 26, as the evaluator goes them: printed by a program.
-/
import Derived.Test.YtimkgalclegffaaBase
namespace Go.Ab.S1
open Go Go.Proofs Go.Ab
set_option maxRecDepth 100000
/-! ### tipstaff/tipstafftop.second (function 26) -/
-- entry: ret
theorem F26.p0 (are : Bool) (hc0 : EvF Try.prog prim 42 [.v (.sl [[.int .i64 5, .int .i64 5], [.int .i64 6, .int .i64 6], [.int .i64 7, .int .i64 7], [.int .i64 12, .int .i64 12], [.int .i64 20, .int .i64 20], [.int .i64 21, .int .i64 21], [.int .i64 22, .int .i64 22], [.int .i64 28, .int .i64 28], [.int .i64 29, .int .i64 29], [.int .i64 32, .int .i64 32], [.int .i64 36, .int .i64 36], [.int .i64 37, .int .i64 37], [.int .i64 44, .int .i64 44], [.int .i64 45, .int .i64 45], [.int .i64 52, .int .i64 52], [.int .i64 53, .int .i64 53], [.int .i64 60, .int .i64 60], [.int .i64 61, .int .i64 61], [.int .i64 68, .int .i64 68], [.int .i64 69, .int .i64 69], [.int .i64 76, .int .i64 76], [.int .i64 77, .int .i64 77], [.int .i64 84, .int .i64 84]])] [] [] [.v (.bool are)] []) :
    EvF Try.prog prim 26 [] [] [] [.v (.bool are)] [] :=
  EvF.of Try.func26 (EvK.done (n := 10) (sc := [.reg [], .reg [{}, {}, {}, {}, {}, {}, {}, {}, {}, {}, {}, {}, {}, {}, {}, {}, {}, {}, {}, {}, {}, {}, {}, {}, ⟨.auto, .call [] false [.v (.bool are)]⟩]]) (by kernel_rfl) ob0 (ca1 (fun _ : True => hc0) ca0))
end Go.Ab.S1
