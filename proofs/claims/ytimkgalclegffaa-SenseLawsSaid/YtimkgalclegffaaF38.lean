/-
The paths of the function 38, as the evaluator goes them: printed by a program.
-/
import Derived.Test.YtimkgalclegffaaBase
namespace Go.Ab.S1
open Go Go.Proofs Go.Ab
set_option maxRecDepth 100000
/-! ### tipstaff/sense.plain (function 38) -/
-- entry: ret
theorem F38.p0 (c0 c1 c2 c3 c4 : Int) (c5 : List (List PV)) (may : Bool) (ho0 : (c0 == 5) = true)
    (hc0 : (((c5.length : Int)) == 0) = true → EvF Try.prog prim 49 [.v (.int .i64 c1), .v (.int .i64 c2)] [] [] [.v (.bool may)] []) :
    EvF Try.prog prim 38 [.agg [.int .i64 c0, .int .i64 c1, .int .i64 c2, .int .u64 c3, .int .u64 c4, .sl c5]] [] [] [.v (.bool (bif (((c5.length : Int)) == 0) then may else false))] [] :=
  EvF.of Try.func38 (EvK.done (n := 19) (sc := [.reg [], .reg [{}, ⟨.auto, .h⟩], .reg [{}, ⟨.auto, .h⟩], .reg [], .br (some true), .reg [{}, {}, {}, ⟨.spec, .d⟩, ⟨.spec, .d⟩, ⟨.spec, .h⟩, ⟨.spec, .d⟩, ⟨.spec, .d⟩, ⟨.spec, .h⟩, ⟨.spec, .call [] false [.v (.bool may)]⟩]]) (by kernel_rfl) (ob1 ho0 (ob1 (show (((c5.length : Int)) == 0) = true → (((c5.length : Int)) == 0) = true from idG (((c5.length : Int)) == 0)) (ob1 (show (((c5.length : Int)) == 0) = true → (((c5.length : Int)) == 0) = true from idG (((c5.length : Int)) == 0)) (ob1 (show (((c5.length : Int)) == 0) = true → (((c5.length : Int)) == 0) = true from idG (((c5.length : Int)) == 0)) (ob1 (show (((c5.length : Int)) == 0) = true → (((c5.length : Int)) == 0) = true from idG (((c5.length : Int)) == 0)) (ob1 (show (((c5.length : Int)) == 0) = true → (((c5.length : Int)) == 0) = true from idG (((c5.length : Int)) == 0)) (ob1 (show (((c5.length : Int)) == 0) = true → (((c5.length : Int)) == 0) = true from idG (((c5.length : Int)) == 0)) (ob1 (show (((c5.length : Int)) == 0) = true → (((c5.length : Int)) == 0) = true from idG (((c5.length : Int)) == 0)) ob0)))))))) (ca1 (fun g : (((c5.length : Int)) == 0) = true ∧ True => hc0 g.1) ca0))
-- entry: ret
theorem F38.p1 (c0 c1 c2 c3 c4 : Int) (c5 : List (List PV)) (ho0 : (c0 == 5) = false)
    (ho1 : (c0 == 1) = true) :
    EvF Try.prog prim 38 [.agg [.int .i64 c0, .int .i64 c1, .int .i64 c2, .int .u64 c3, .int .u64 c4, .sl c5]] [] [] [.v (.bool (bif (((c5.length : Int)) == 0) then ((c1 == 0) && ((c2 == 0) && ((c3 == 0) && ((c4 == 0) && true)))) else false))] [] :=
  EvF.of Try.func38 (EvK.done (n := 22) (sc := [.reg [], .reg [{}, ⟨.auto, .h⟩], .reg [{}, ⟨.auto, .h⟩], .reg [], .br (some false), .reg [], .br (some true), .reg [{}, {}, {}, ⟨.spec, .d⟩, ⟨.spec, .h⟩, ⟨.spec, .d⟩, ⟨.spec, .d⟩]]) (by kernel_rfl) (ob1 ho0 (ob1 ho1 (ob1 (show (((c5.length : Int)) == 0) = true → (((c5.length : Int)) == 0) = true from idG (((c5.length : Int)) == 0)) (ob1 (show (((c5.length : Int)) == 0) = true → (((c5.length : Int)) == 0) = true from idG (((c5.length : Int)) == 0)) (ob1 (show (((c5.length : Int)) == 0) = true → (((c5.length : Int)) == 0) = true from idG (((c5.length : Int)) == 0)) (ob1 (show (((c5.length : Int)) == 0) = true → (((c5.length : Int)) == 0) = true from idG (((c5.length : Int)) == 0)) ob0)))))) ca0)
-- entry: ret
theorem F38.p2 (c0 c1 c2 c3 c4 : Int) (c5 : List (List PV)) (ho0 : (c0 == 5) = false)
    (ho1 : (c0 == 1) = false)
    (ho2 : (c0 == 2) = true) :
    EvF Try.prog prim 38 [.agg [.int .i64 c0, .int .i64 c1, .int .i64 c2, .int .u64 c3, .int .u64 c4, .sl c5]] [] [] [.v (.bool (bif (((c5.length : Int)) == 1) then ((c1 == 0) && ((c2 == 0) && ((c3 == 0) && ((c4 == 0) && true)))) else false))] [] :=
  EvF.of Try.func38 (EvK.done (n := 25) (sc := [.reg [], .reg [{}, ⟨.auto, .h⟩], .reg [{}, ⟨.auto, .h⟩], .reg [], .br (some false), .reg [], .br (some false), .reg [], .br (some true), .reg [{}, {}, {}, ⟨.spec, .d⟩, ⟨.spec, .h⟩, ⟨.spec, .d⟩, ⟨.spec, .d⟩]]) (by kernel_rfl) (ob1 ho0 (ob1 ho1 (ob1 ho2 (ob1 (show (((c5.length : Int)) == 1) = true → (((c5.length : Int)) == 1) = true from idG (((c5.length : Int)) == 1)) (ob1 (show (((c5.length : Int)) == 1) = true → (((c5.length : Int)) == 1) = true from idG (((c5.length : Int)) == 1)) (ob1 (show (((c5.length : Int)) == 1) = true → (((c5.length : Int)) == 1) = true from idG (((c5.length : Int)) == 1)) (ob1 (show (((c5.length : Int)) == 1) = true → (((c5.length : Int)) == 1) = true from idG (((c5.length : Int)) == 1)) ob0))))))) ca0)
-- entry: ret
theorem F38.p3 (c0 c1 c2 c3 c4 : Int) (c5 : List (List PV)) (ho0 : (c0 == 5) = false)
    (ho1 : (c0 == 1) = false)
    (ho2 : (c0 == 2) = false)
    (ho3 : (c0 == 3) = true) :
    EvF Try.prog prim 38 [.agg [.int .i64 c0, .int .i64 c1, .int .i64 c2, .int .u64 c3, .int .u64 c4, .sl c5]] [] [] [.v (.bool ((c1 == 0) && ((c2 == 0) && ((c3 == 0) && ((c4 == 0) && true)))))] [] :=
  EvF.of Try.func38 (EvK.done (n := 31) (sc := [.reg [], .reg [{}, ⟨.auto, .h⟩], .reg [{}, ⟨.auto, .h⟩], .reg [], .br (some false), .reg [], .br (some false), .reg [], .br (some false), .reg [], .br (some true), .br (some true), .reg [{}, ⟨.auto, .h⟩]]) (by kernel_rfl) (ob1 ho0 (ob1 ho1 (ob1 ho2 (ob1 ho3 (ob1 ho3 ob0))))) ca0)
-- entry: ret
theorem F38.p4 (c0 c1 c2 c3 c4 : Int) (c5 : List (List PV)) (ho0 : (c0 == 5) = false)
    (ho1 : (c0 == 1) = false)
    (ho2 : (c0 == 2) = false)
    (ho3 : (c0 == 3) = false)
    (ho4 : (c0 == 4) = true) :
    EvF Try.prog prim 38 [.agg [.int .i64 c0, .int .i64 c1, .int .i64 c2, .int .u64 c3, .int .u64 c4, .sl c5]] [] [] [.v (.bool ((c1 == 0) && ((c2 == 0) && ((c3 == 0) && ((c4 == 0) && true)))))] [] :=
  EvF.of Try.func38 (EvK.done (n := 31) (sc := [.reg [], .reg [{}, ⟨.auto, .h⟩], .reg [{}, ⟨.auto, .h⟩], .reg [], .br (some false), .reg [], .br (some false), .reg [], .br (some false), .reg [], .br (some false), .reg [], .br (some true), .reg [{}, ⟨.auto, .h⟩]]) (by kernel_rfl) (ob1 ho0 (ob1 ho1 (ob1 ho2 (ob1 ho3 (ob1 ho4 ob0))))) ca0)
-- entry: ret
theorem F38.p5 (c0 c1 c2 c3 c4 : Int) (c5 : List (List PV)) (ho0 : (c0 == 5) = false)
    (ho1 : (c0 == 1) = false)
    (ho2 : (c0 == 2) = false)
    (ho3 : (c0 == 3) = false)
    (ho4 : (c0 == 4) = false) :
    EvF Try.prog prim 38 [.agg [.int .i64 c0, .int .i64 c1, .int .i64 c2, .int .u64 c3, .int .u64 c4, .sl c5]] [] [] [.v (.bool false)] [] :=
  EvF.of Try.func38 (EvK.done (n := 33) (sc := [.reg [], .reg [{}, ⟨.auto, .h⟩], .reg [{}, ⟨.auto, .h⟩], .reg [], .br (some false), .reg [], .br (some false), .reg [], .br (some false), .reg [], .br (some false), .reg [], .br (some false), .reg []]) (by kernel_rfl) (ob1 ho0 (ob1 ho1 (ob1 ho2 (ob1 ho3 (ob1 ho4 ob0))))) ca0)
end Go.Ab.S1
