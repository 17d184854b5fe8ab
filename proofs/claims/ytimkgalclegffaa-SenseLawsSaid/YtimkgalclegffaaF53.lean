/-
The paths of the function 53, as the evaluator goes them: printed by a program.
-/
import Derived.Test.YtimkgalclegffaaBase
namespace Go.Ab.S1
open Go Go.Proofs Go.Ab
set_option maxRecDepth 100000
/-! ### tipstaff/sense.Compare (function 53) -/
-- entry: ret
theorem F53.p0 (op a b compare : Int) (ho0 : (op == 1) = true)
    (hc0 : EvF Try.prog prim 55 [.v (.int .u64 a), .v (.int .u64 b)] [] [] [.v (.int .i64 compare)] []) :
    EvF Try.prog prim 53 [.v (.int .i64 op), .v (.int .u64 a), .v (.int .u64 b)] [] [] [.v (.bool (compare == 0))] [] :=
  EvF.of Try.func53 (EvK.done (n := 19) (sc := [.reg [], .reg [{}, {}, ⟨.auto, .call [] false [.v (.int .i64 compare)]⟩], .reg [], .reg [], .br (some true), .reg []]) (by kernel_rfl) (ob1 ho0 ob0) (ca1 (fun _ : True => hc0) ca0))
-- entry: ret
theorem F53.p1 (op a b compare : Int) (ho0 : (op == 1) = false)
    (ho1 : (op == 2) = true)
    (hc0 : EvF Try.prog prim 55 [.v (.int .u64 a), .v (.int .u64 b)] [] [] [.v (.int .i64 compare)] []) :
    EvF Try.prog prim 53 [.v (.int .i64 op), .v (.int .u64 a), .v (.int .u64 b)] [] [] [.v (.bool (compare != 0))] [] :=
  EvF.of Try.func53 (EvK.done (n := 22) (sc := [.reg [], .reg [{}, {}, ⟨.auto, .call [] false [.v (.int .i64 compare)]⟩], .reg [], .reg [], .br (some false), .reg [], .br (some true), .reg []]) (by kernel_rfl) (ob1 ho0 (ob1 ho1 ob0)) (ca1 (fun _ : True => hc0) ca0))
-- entry: ret
theorem F53.p2 (op a b compare : Int) (ho0 : (op == 1) = false)
    (ho1 : (op == 2) = false)
    (ho2 : (op == 3) = true)
    (hc0 : EvF Try.prog prim 55 [.v (.int .u64 a), .v (.int .u64 b)] [] [] [.v (.int .i64 compare)] []) :
    EvF Try.prog prim 53 [.v (.int .i64 op), .v (.int .u64 a), .v (.int .u64 b)] [] [] [.v (.bool (decide (compare < 0)))] [] :=
  EvF.of Try.func53 (EvK.done (n := 25) (sc := [.reg [], .reg [{}, {}, ⟨.auto, .call [] false [.v (.int .i64 compare)]⟩], .reg [], .reg [], .br (some false), .reg [], .br (some false), .reg [], .br (some true), .reg []]) (by kernel_rfl) (ob1 ho0 (ob1 ho1 (ob1 ho2 ob0))) (ca1 (fun _ : True => hc0) ca0))
-- entry: ret
theorem F53.p3 (op a b compare : Int) (ho0 : (op == 1) = false)
    (ho1 : (op == 2) = false)
    (ho2 : (op == 3) = false)
    (ho3 : (op == 4) = true)
    (hc0 : EvF Try.prog prim 55 [.v (.int .u64 a), .v (.int .u64 b)] [] [] [.v (.int .i64 compare)] []) :
    EvF Try.prog prim 53 [.v (.int .i64 op), .v (.int .u64 a), .v (.int .u64 b)] [] [] [.v (.bool (decide (compare ≤ 0)))] [] :=
  EvF.of Try.func53 (EvK.done (n := 28) (sc := [.reg [], .reg [{}, {}, ⟨.auto, .call [] false [.v (.int .i64 compare)]⟩], .reg [], .reg [], .br (some false), .reg [], .br (some false), .reg [], .br (some false), .reg [], .br (some true), .reg []]) (by kernel_rfl) (ob1 ho0 (ob1 ho1 (ob1 ho2 (ob1 ho3 ob0)))) (ca1 (fun _ : True => hc0) ca0))
-- entry: ret
theorem F53.p4 (op a b compare : Int) (ho0 : (op == 1) = false)
    (ho1 : (op == 2) = false)
    (ho2 : (op == 3) = false)
    (ho3 : (op == 4) = false)
    (ho4 : (op == 5) = true)
    (hc0 : EvF Try.prog prim 55 [.v (.int .u64 a), .v (.int .u64 b)] [] [] [.v (.int .i64 compare)] []) :
    EvF Try.prog prim 53 [.v (.int .i64 op), .v (.int .u64 a), .v (.int .u64 b)] [] [] [.v (.bool (decide (compare > 0)))] [] :=
  EvF.of Try.func53 (EvK.done (n := 31) (sc := [.reg [], .reg [{}, {}, ⟨.auto, .call [] false [.v (.int .i64 compare)]⟩], .reg [], .reg [], .br (some false), .reg [], .br (some false), .reg [], .br (some false), .reg [], .br (some false), .reg [], .br (some true), .reg []]) (by kernel_rfl) (ob1 ho0 (ob1 ho1 (ob1 ho2 (ob1 ho3 (ob1 ho4 ob0))))) (ca1 (fun _ : True => hc0) ca0))
-- entry: ret
theorem F53.p5 (op a b compare : Int) (ho0 : (op == 1) = false)
    (ho1 : (op == 2) = false)
    (ho2 : (op == 3) = false)
    (ho3 : (op == 4) = false)
    (ho4 : (op == 5) = false)
    (ho5 : (op == 6) = true)
    (hc0 : EvF Try.prog prim 55 [.v (.int .u64 a), .v (.int .u64 b)] [] [] [.v (.int .i64 compare)] []) :
    EvF Try.prog prim 53 [.v (.int .i64 op), .v (.int .u64 a), .v (.int .u64 b)] [] [] [.v (.bool (decide (compare ≥ 0)))] [] :=
  EvF.of Try.func53 (EvK.done (n := 34) (sc := [.reg [], .reg [{}, {}, ⟨.auto, .call [] false [.v (.int .i64 compare)]⟩], .reg [], .reg [], .br (some false), .reg [], .br (some false), .reg [], .br (some false), .reg [], .br (some false), .reg [], .br (some false), .reg [], .br (some true), .reg []]) (by kernel_rfl) (ob1 ho0 (ob1 ho1 (ob1 ho2 (ob1 ho3 (ob1 ho4 (ob1 ho5 ob0)))))) (ca1 (fun _ : True => hc0) ca0))
-- entry: ret
theorem F53.p6 (op a b compare : Int) (ho0 : (op == 1) = false)
    (ho1 : (op == 2) = false)
    (ho2 : (op == 3) = false)
    (ho3 : (op == 4) = false)
    (ho4 : (op == 5) = false)
    (ho5 : (op == 6) = false)
    (hc0 : EvF Try.prog prim 55 [.v (.int .u64 a), .v (.int .u64 b)] [] [] [.v (.int .i64 compare)] []) :
    EvF Try.prog prim 53 [.v (.int .i64 op), .v (.int .u64 a), .v (.int .u64 b)] [] [] [.v (.bool false)] [] :=
  EvF.of Try.func53 (EvK.done (n := 36) (sc := [.reg [], .reg [{}, {}, ⟨.auto, .call [] false [.v (.int .i64 compare)]⟩], .reg [], .reg [], .br (some false), .reg [], .br (some false), .reg [], .br (some false), .reg [], .br (some false), .reg [], .br (some false), .reg [], .br (some false), .reg []]) (by kernel_rfl) (ob1 ho0 (ob1 ho1 (ob1 ho2 (ob1 ho3 (ob1 ho4 (ob1 ho5 ob0)))))) (ca1 (fun _ : True => hc0) ca0))
end Go.Ab.S1
