/-
The paths of the function 27, as the evaluator goes them: printed by a program.
-/
import Derived.Test.YtimkgalclegffaaBase
namespace Go.Ab.S1
open Go Go.Proofs Go.Ab
set_option maxRecDepth 100000
/-! ### tipstaff/tipstafftop.third (function 27) -/
-- entry: ret
theorem F27.p0 (are : Bool) (hc0 : EvF Try.prog prim 42 [.v (.sl [[.int .i64 92, .int .i64 92], [.int .i64 96, .int .i64 96], [.int .i64 97, .int .i64 97], [.int .i64 100, .int .i64 100], [.int .i64 108, .int .i64 108], [.int .i64 116, .int .i64 116], [.int .i64 124, .int .i64 124], [.int .i64 128, .int .i64 128], [.int .i64 129, .int .i64 129], [.int .i64 132, .int .i64 132], [.int .i64 135, .int .i64 135], [.int .i64 164, .int .i64 164], [.int .i64 172, .int .i64 172], [.int .i64 1, .int .i64 1], [.int .i64 2, .int .i64 2], [.int .i64 3, .int .i64 3], [.int .i64 4, .int .i64 4], [.int .i64 5, .int .i64 5], [.int .i64 6, .int .i64 6], [.int .i64 7, .int .i64 7], [.int .i64 1, .int .i64 1], [.int .i64 2, .int .i64 2], [.int .i64 3, .int .i64 3]])] [] [] [.v (.bool are)] []) :
    EvF Try.prog prim 27 [] [] [] [.v (.bool are)] [] :=
  EvF.of Try.func27 (EvK.done (n := 10) (sc := [.reg [], .reg [{}, {}, {}, {}, {}, {}, {}, {}, {}, {}, {}, {}, {}, {}, {}, {}, {}, {}, {}, {}, {}, {}, {}, {}, ⟨.auto, .call [] false [.v (.bool are)]⟩]]) (by kernel_rfl) ob0 (ca1 (fun _ : True => hc0) ca0))
end Go.Ab.S1
