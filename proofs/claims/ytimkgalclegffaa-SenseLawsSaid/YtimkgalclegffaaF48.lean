/-
The paths of the function 48, as the evaluator goes them: printed by a program.
-/
import Derived.Test.YtimkgalclegffaaBase
namespace Go.Ab.S1
open Go Go.Proofs Go.Ab
set_option maxRecDepth 100000
/-! ### tipstaff/tipstaffref17.Compares (function 48) -/
-- entry: ret
theorem F48.p0 (op a b : Int) (ho0 : (op == 1) = true) :
    EvF Try.prog prim 48 [.v (.int .i64 op), .v (.int .u64 a), .v (.int .u64 b)] [] [] [.v (.bool (a == b))] [] :=
  EvF.of Try.func48 (EvK.done (n := 17) (sc := [.reg [], .reg [], .reg [], .br (some true), .reg []]) (by kernel_rfl) (ob1 ho0 ob0) ca0)
-- entry: ret
theorem F48.p1 (op a b : Int) (ho0 : (op == 1) = false)
    (ho1 : (op == 2) = true) :
    EvF Try.prog prim 48 [.v (.int .i64 op), .v (.int .u64 a), .v (.int .u64 b)] [] [] [.v (.bool (a != b))] [] :=
  EvF.of Try.func48 (EvK.done (n := 20) (sc := [.reg [], .reg [], .reg [], .br (some false), .reg [], .br (some true), .reg []]) (by kernel_rfl) (ob1 ho0 (ob1 ho1 ob0)) ca0)
-- entry: ret
theorem F48.p2 (op a b : Int) (ho0 : (op == 1) = false)
    (ho1 : (op == 2) = false)
    (ho2 : (op == 3) = true) :
    EvF Try.prog prim 48 [.v (.int .i64 op), .v (.int .u64 a), .v (.int .u64 b)] [] [] [.v (.bool (decide (a < b)))] [] :=
  EvF.of Try.func48 (EvK.done (n := 23) (sc := [.reg [], .reg [], .reg [], .br (some false), .reg [], .br (some false), .reg [], .br (some true), .reg []]) (by kernel_rfl) (ob1 ho0 (ob1 ho1 (ob1 ho2 ob0))) ca0)
-- entry: ret
theorem F48.p3 (op a b : Int) (ho0 : (op == 1) = false)
    (ho1 : (op == 2) = false)
    (ho2 : (op == 3) = false)
    (ho3 : (op == 4) = true) :
    EvF Try.prog prim 48 [.v (.int .i64 op), .v (.int .u64 a), .v (.int .u64 b)] [] [] [.v (.bool (decide (a ≤ b)))] [] :=
  EvF.of Try.func48 (EvK.done (n := 26) (sc := [.reg [], .reg [], .reg [], .br (some false), .reg [], .br (some false), .reg [], .br (some false), .reg [], .br (some true), .reg []]) (by kernel_rfl) (ob1 ho0 (ob1 ho1 (ob1 ho2 (ob1 ho3 ob0)))) ca0)
-- entry: ret
theorem F48.p4 (op a b : Int) (ho0 : (op == 1) = false)
    (ho1 : (op == 2) = false)
    (ho2 : (op == 3) = false)
    (ho3 : (op == 4) = false)
    (ho4 : (op == 5) = true) :
    EvF Try.prog prim 48 [.v (.int .i64 op), .v (.int .u64 a), .v (.int .u64 b)] [] [] [.v (.bool (decide (a > b)))] [] :=
  EvF.of Try.func48 (EvK.done (n := 29) (sc := [.reg [], .reg [], .reg [], .br (some false), .reg [], .br (some false), .reg [], .br (some false), .reg [], .br (some false), .reg [], .br (some true), .reg []]) (by kernel_rfl) (ob1 ho0 (ob1 ho1 (ob1 ho2 (ob1 ho3 (ob1 ho4 ob0))))) ca0)
-- entry: ret
theorem F48.p5 (op a b : Int) (ho0 : (op == 1) = false)
    (ho1 : (op == 2) = false)
    (ho2 : (op == 3) = false)
    (ho3 : (op == 4) = false)
    (ho4 : (op == 5) = false)
    (ho5 : (op == 6) = true) :
    EvF Try.prog prim 48 [.v (.int .i64 op), .v (.int .u64 a), .v (.int .u64 b)] [] [] [.v (.bool (decide (a ≥ b)))] [] :=
  EvF.of Try.func48 (EvK.done (n := 32) (sc := [.reg [], .reg [], .reg [], .br (some false), .reg [], .br (some false), .reg [], .br (some false), .reg [], .br (some false), .reg [], .br (some false), .reg [], .br (some true), .reg []]) (by kernel_rfl) (ob1 ho0 (ob1 ho1 (ob1 ho2 (ob1 ho3 (ob1 ho4 (ob1 ho5 ob0)))))) ca0)
-- entry: ret
theorem F48.p6 (op a b : Int) (ho0 : (op == 1) = false)
    (ho1 : (op == 2) = false)
    (ho2 : (op == 3) = false)
    (ho3 : (op == 4) = false)
    (ho4 : (op == 5) = false)
    (ho5 : (op == 6) = false) :
    EvF Try.prog prim 48 [.v (.int .i64 op), .v (.int .u64 a), .v (.int .u64 b)] [] [] [.v (.bool false)] [] :=
  EvF.of Try.func48 (EvK.done (n := 34) (sc := [.reg [], .reg [], .reg [], .br (some false), .reg [], .br (some false), .reg [], .br (some false), .reg [], .br (some false), .reg [], .br (some false), .reg [], .br (some false), .reg []]) (by kernel_rfl) (ob1 ho0 (ob1 ho1 (ob1 ho2 (ob1 ho3 (ob1 ho4 (ob1 ho5 ob0)))))) ca0)
end Go.Ab.S1
