/-
The paths of the function 22, as the evaluator goes them: printed by a program.
-/
import Derived.Test.YtimkgalclegffaaBase
namespace Go.Ab.S1
open Go Go.Proofs Go.Ab
set_option maxRecDepth 100000
/-! ### tipstaff/sense.Holds (function 22) -/
-- entry: ret
theorem F22.p0 (c0 c1 c2 c3 c4 : Int) (c5 : List (List PV)) (args0 args1 args2 args3 args4 args5 : Int) (right holds : Bool) (hc0 : EvF Try.prog prim 21 [.agg [.int .i64 c0, .int .i64 c1, .int .i64 c2, .int .u64 c3, .int .u64 c4, .sl c5]] [] [] [.v (.bool right)] [])
    (hc1 : right = true → EvF Try.prog prim 41 [.agg [.int .i64 c0, .int .i64 c1, .int .i64 c2, .int .u64 c3, .int .u64 c4, .sl c5], .agg [.int .u64 args0, .int .u64 args1, .int .u64 args2, .int .u64 args3, .int .u64 args4, .int .u64 args5]] [] [] [.v (.bool holds)] []) :
    EvF Try.prog prim 22 [.agg [.int .i64 c0, .int .i64 c1, .int .i64 c2, .int .u64 c3, .int .u64 c4, .sl c5], .agg [.int .u64 args0, .int .u64 args1, .int .u64 args2, .int .u64 args3, .int .u64 args4, .int .u64 args5]] [] [] [.v (.bool (bif right then holds else false))] [] :=
  EvF.of Try.func22 (EvK.done (n := 10) (sc := [.reg [], .reg [⟨.auto, .h⟩, ⟨.auto, .call [] false [.v (.bool right)]⟩, {}, ⟨.spec, .h⟩, ⟨.spec, .h⟩, ⟨.spec, .call [] false [.v (.bool holds)]⟩]]) (by kernel_rfl) (ob1 (show right = true → right = true from idG right) (ob1 (show right = true → right = true from idG right) (ob1 (show right = true → right = true from idG right) ob0))) (ca1 (fun _ : True => hc0) (ca1 (fun g : right = true ∧ True => hc1 g.1) ca0)))
end Go.Ab.S1
