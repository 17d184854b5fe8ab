/-
The paths of the function 49, as the evaluator goes them: printed by a program.
-/
import Derived.Test.YtimkgalclegffaaBase
namespace Go.Ab.S1
open Go Go.Proofs Go.Ab
set_option maxRecDepth 100000
/-! ### tipstaff/sense.May (function 49) -/
-- entry: ret
theorem F49.p0 (arg op : Int)  :
    EvF Try.prog prim 49 [.v (.int .i64 arg), .v (.int .i64 op)] [] [] [.v (.bool (bif (bif (bif (decide (arg ≥ 0)) then (decide (arg ≤ 5)) else false) then (decide (op ≥ 1)) else false) then (decide (op ≤ 6)) else false))] [] :=
  EvF.of Try.func49 (EvK.done (n := 10) (sc := [.reg [], .reg [{}, {}, {}, ⟨.spec, .d⟩, ⟨.spec, .d⟩, {}, {}, ⟨.spec, .d⟩, ⟨.spec, .d⟩, {}, {}, ⟨.spec, .d⟩, ⟨.spec, .d⟩]]) (by kernel_rfl) (ob1 (show (decide (arg ≥ 0)) = true → (decide (arg ≥ 0)) = true from idG (decide (arg ≥ 0))) (ob1 (show (decide (arg ≥ 0)) = true → (decide (arg ≥ 0)) = true from idG (decide (arg ≥ 0))) (ob1 (show (bif (decide (arg ≥ 0)) then (decide (arg ≤ 5)) else false) = true → (bif (decide (arg ≥ 0)) then (decide (arg ≤ 5)) else false) = true from idG (bif (decide (arg ≥ 0)) then (decide (arg ≤ 5)) else false)) (ob1 (show (bif (decide (arg ≥ 0)) then (decide (arg ≤ 5)) else false) = true → (bif (decide (arg ≥ 0)) then (decide (arg ≤ 5)) else false) = true from idG (bif (decide (arg ≥ 0)) then (decide (arg ≤ 5)) else false)) (ob1 (show (bif (bif (decide (arg ≥ 0)) then (decide (arg ≤ 5)) else false) then (decide (op ≥ 1)) else false) = true → (bif (bif (decide (arg ≥ 0)) then (decide (arg ≤ 5)) else false) then (decide (op ≥ 1)) else false) = true from idG (bif (bif (decide (arg ≥ 0)) then (decide (arg ≤ 5)) else false) then (decide (op ≥ 1)) else false)) (ob1 (show (bif (bif (decide (arg ≥ 0)) then (decide (arg ≤ 5)) else false) then (decide (op ≥ 1)) else false) = true → (bif (bif (decide (arg ≥ 0)) then (decide (arg ≤ 5)) else false) then (decide (op ≥ 1)) else false) = true from idG (bif (bif (decide (arg ≥ 0)) then (decide (arg ≤ 5)) else false) then (decide (op ≥ 1)) else false)) ob0)))))) ca0)
end Go.Ab.S1
