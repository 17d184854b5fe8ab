/-
The paths of the function 55, as the evaluator goes them: printed by a program.
-/
import Derived.Test.YtimkgalclegffaaBase
namespace Go.Ab.S1
open Go Go.Proofs Go.Ab
set_option maxRecDepth 100000
/-! ### cmp.Compare[uint64] (function 55) -/
-- entry: ret
theorem F55.p0 (x y : Int) (isnan isnan_1 : Bool) (ho0 : isnan = true)
    (ho1 : isnan_1 = true)
    (hc0 : EvF Try.prog prim 57 [.v (.int .u64 x)] [] [] [.v (.bool isnan)] [])
    (hc1 : EvF Try.prog prim 57 [.v (.int .u64 y)] [] [] [.v (.bool isnan_1)] []) :
    EvF Try.prog prim 55 [.v (.int .u64 x), .v (.int .u64 y)] [] [] [.v (.int .i64 0)] [] :=
  EvF.of Try.func55 (EvK.done (n := 22) (sc := [.reg [], .reg [{}, ⟨.auto, .call [] false [.v (.bool isnan)]⟩], .reg [{}, ⟨.auto, .call [] false [.v (.bool isnan_1)]⟩], .reg [], .br (some true), .reg [], .br (some true), .reg []]) (by kernel_rfl) (ob1 ho0 (ob1 ho1 ob0)) (ca1 (fun _ : True => hc0) (ca1 (fun _ : True => hc1) ca0)))
-- entry: ret
theorem F55.p1 (x y : Int) (isnan isnan_1 : Bool) (ho0 : isnan = true)
    (ho1 : isnan_1 = false)
    (hc0 : EvF Try.prog prim 57 [.v (.int .u64 x)] [] [] [.v (.bool isnan)] [])
    (hc1 : EvF Try.prog prim 57 [.v (.int .u64 y)] [] [] [.v (.bool isnan_1)] []) :
    EvF Try.prog prim 55 [.v (.int .u64 x), .v (.int .u64 y)] [] [] [.v (.int .i64 (-1))] [] :=
  EvF.of Try.func55 (EvK.done (n := 23) (sc := [.reg [], .reg [{}, ⟨.auto, .call [] false [.v (.bool isnan)]⟩], .reg [{}, ⟨.auto, .call [] false [.v (.bool isnan_1)]⟩], .reg [], .br (some true), .reg [], .br (some false), .reg []]) (by kernel_rfl) (ob1 ho0 (ob1 ho1 ob0)) (ca1 (fun _ : True => hc0) (ca1 (fun _ : True => hc1) ca0)))
-- entry: ret
theorem F55.p2 (x y : Int) (isnan isnan_1 : Bool) (ho0 : isnan = false)
    (ho1 : isnan_1 = true)
    (hc0 : EvF Try.prog prim 57 [.v (.int .u64 x)] [] [] [.v (.bool isnan)] [])
    (hc1 : EvF Try.prog prim 57 [.v (.int .u64 y)] [] [] [.v (.bool isnan_1)] []) :
    EvF Try.prog prim 55 [.v (.int .u64 x), .v (.int .u64 y)] [] [] [.v (.int .i64 1)] [] :=
  EvF.of Try.func55 (EvK.done (n := 23) (sc := [.reg [], .reg [{}, ⟨.auto, .call [] false [.v (.bool isnan)]⟩], .reg [{}, ⟨.auto, .call [] false [.v (.bool isnan_1)]⟩], .reg [], .br (some false), .reg [], .br (some true), .reg []]) (by kernel_rfl) (ob1 ho0 (ob1 ho1 ob0)) (ca1 (fun _ : True => hc0) (ca1 (fun _ : True => hc1) ca0)))
-- entry: ret
theorem F55.p3 (x y : Int) (isnan isnan_1 : Bool) (ho0 : isnan = false)
    (ho1 : isnan_1 = false)
    (ho2 : (decide (x < y)) = true)
    (hc0 : EvF Try.prog prim 57 [.v (.int .u64 x)] [] [] [.v (.bool isnan)] [])
    (hc1 : EvF Try.prog prim 57 [.v (.int .u64 y)] [] [] [.v (.bool isnan_1)] []) :
    EvF Try.prog prim 55 [.v (.int .u64 x), .v (.int .u64 y)] [] [] [.v (.int .i64 (-1))] [] :=
  EvF.of Try.func55 (EvK.done (n := 28) (sc := [.reg [], .reg [{}, ⟨.auto, .call [] false [.v (.bool isnan)]⟩], .reg [{}, ⟨.auto, .call [] false [.v (.bool isnan_1)]⟩], .reg [], .br (some false), .reg [], .br (some false), .reg [], .br (some true), .reg []]) (by kernel_rfl) (ob1 ho0 (ob1 ho1 (ob1 ho2 ob0))) (ca1 (fun _ : True => hc0) (ca1 (fun _ : True => hc1) ca0)))
-- entry: ret
theorem F55.p4 (x y : Int) (isnan isnan_1 : Bool) (ho0 : isnan = false)
    (ho1 : isnan_1 = false)
    (ho2 : (decide (x < y)) = false)
    (ho3 : (decide (x > y)) = true)
    (hc0 : EvF Try.prog prim 57 [.v (.int .u64 x)] [] [] [.v (.bool isnan)] [])
    (hc1 : EvF Try.prog prim 57 [.v (.int .u64 y)] [] [] [.v (.bool isnan_1)] []) :
    EvF Try.prog prim 55 [.v (.int .u64 x), .v (.int .u64 y)] [] [] [.v (.int .i64 1)] [] :=
  EvF.of Try.func55 (EvK.done (n := 33) (sc := [.reg [], .reg [{}, ⟨.auto, .call [] false [.v (.bool isnan)]⟩], .reg [{}, ⟨.auto, .call [] false [.v (.bool isnan_1)]⟩], .reg [], .br (some false), .reg [], .br (some false), .reg [], .br (some false), .reg [], .br (some true), .reg []]) (by kernel_rfl) (ob1 ho0 (ob1 ho1 (ob1 ho2 (ob1 ho3 ob0)))) (ca1 (fun _ : True => hc0) (ca1 (fun _ : True => hc1) ca0)))
-- entry: ret
theorem F55.p5 (x y : Int) (isnan isnan_1 : Bool) (ho0 : isnan = false)
    (ho1 : isnan_1 = false)
    (ho2 : (decide (x < y)) = false)
    (ho3 : (decide (x > y)) = false)
    (hc0 : EvF Try.prog prim 57 [.v (.int .u64 x)] [] [] [.v (.bool isnan)] [])
    (hc1 : EvF Try.prog prim 57 [.v (.int .u64 y)] [] [] [.v (.bool isnan_1)] []) :
    EvF Try.prog prim 55 [.v (.int .u64 x), .v (.int .u64 y)] [] [] [.v (.int .i64 0)] [] :=
  EvF.of Try.func55 (EvK.done (n := 34) (sc := [.reg [], .reg [{}, ⟨.auto, .call [] false [.v (.bool isnan)]⟩], .reg [{}, ⟨.auto, .call [] false [.v (.bool isnan_1)]⟩], .reg [], .br (some false), .reg [], .br (some false), .reg [], .br (some false), .reg [], .br (some false), .reg []]) (by kernel_rfl) (ob1 ho0 (ob1 ho1 (ob1 ho2 (ob1 ho3 ob0)))) (ca1 (fun _ : True => hc0) (ca1 (fun _ : True => hc1) ca0)))
end Go.Ab.S1
