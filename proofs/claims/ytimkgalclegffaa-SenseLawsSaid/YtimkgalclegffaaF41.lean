/-
The paths of the function 41, as the evaluator goes them: printed by a program.
-/
import Derived.Test.YtimkgalclegffaaBase
namespace Go.Ab.S1
open Go Go.Proofs Go.Ab
set_option maxRecDepth 100000
/-! ### tipstaff/sense.holds (function 41) -/
-- entry: ret
theorem F41.p0 (c0 c1 c2 c3 c4 : Int) (c5 : List (List PV)) (args0 args1 args2 args3 args4 args5 y0 y1 y2 y3 y4 : Int) (y5 : List (List PV)) (holds : Bool) (ho0 : (c0 == 2) = true)
    (ho1 : (c5 : List (List PV))[Int.toNat 0]? = some [.int .i64 y0, .int .i64 y1, .int .i64 y2, .int .u64 y3, .int .u64 y4, .sl y5])
    (hc0 : EvF Try.prog prim 51 [.agg [.int .i64 y0, .int .i64 y1, .int .i64 y2, .int .u64 y3, .int .u64 y4, .sl y5], .optr 1 0] [] ([] ++ [[.v (.int .i64 c0), .v (.int .i64 c1), .v (.int .i64 c2), .v (.int .u64 c3), .v (.int .u64 c4), .v (.sl c5)], [.v (.int .u64 args0), .v (.int .u64 args1), .v (.int .u64 args2), .v (.int .u64 args3), .v (.int .u64 args4), .v (.int .u64 args5)], [.fn (.func 51) [] [.optr 1 0]]]) [.v (.bool holds)] ([] ++ [[.v (.int .i64 c0), .v (.int .i64 c1), .v (.int .i64 c2), .v (.int .u64 c3), .v (.int .u64 c4), .v (.sl c5)], [.v (.int .u64 args0), .v (.int .u64 args1), .v (.int .u64 args2), .v (.int .u64 args3), .v (.int .u64 args4), .v (.int .u64 args5)], [.fn (.func 51) [] [.optr 1 0]]])) :
    EvF Try.prog prim 41 [.agg [.int .i64 c0, .int .i64 c1, .int .i64 c2, .int .u64 c3, .int .u64 c4, .sl c5], .agg [.int .u64 args0, .int .u64 args1, .int .u64 args2, .int .u64 args3, .int .u64 args4, .int .u64 args5]] [] [] [.v (.bool (!holds))] [] :=
  EvF.of Try.func41 (EvK.done (n := 19) (sc := [.reg [], .reg [], .reg [{}, ⟨.auto, .h⟩], .reg [], .br (some true), .reg [⟨.auto, .h⟩, {}, ⟨.auto, .h⟩, ⟨.auto, .row [.int .i64 y0, .int .i64 y1, .int .i64 y2, .int .u64 y3, .int .u64 y4, .sl y5]⟩, {}, ⟨.auto, .callH [.v (.bool holds)] [] [[.v (.int .i64 c0), .v (.int .i64 c1), .v (.int .i64 c2), .v (.int .u64 c3), .v (.int .u64 c4), .v (.sl c5)], [.v (.int .u64 args0), .v (.int .u64 args1), .v (.int .u64 args2), .v (.int .u64 args3), .v (.int .u64 args4), .v (.int .u64 args5)], [.fn (.func 51) [] [.ptr 1 0]]]⟩]]) (by kernel_rfl) (ob1 ho0 (ob1 (show (0 : Int) ≤ 0 from (by decide)) (ob1 ho1 (ob1 (show ([] : List (List AV)).length = ([] : List (List AV)).length from rfl) (ob1 (show LowS [] [] from (fun cs hc => Or.inl hc)) ob0))))) (ca1 (fun _ : True => hc0) ca0))
-- entry: ret
theorem F41.p1 (c0 c1 c2 c3 c4 : Int) (c5 : List (List PV)) (args0 args1 args2 args3 args4 args5 : Int) (cond : Bool) (ho0 : (c0 == 2) = false)
    (ho1 : (c0 == 3) = true)
    (hc0 : EvF Try.prog prim 39 [.v (.sl c5), .fn (.func 52) [] [.optr 2 0]] [] ([] ++ [[.v (.int .i64 c0), .v (.int .i64 c1), .v (.int .i64 c2), .v (.int .u64 c3), .v (.int .u64 c4), .v (.sl c5)], [.v (.int .u64 args0), .v (.int .u64 args1), .v (.int .u64 args2), .v (.int .u64 args3), .v (.int .u64 args4), .v (.int .u64 args5)], [.fn (.func 51) [] [.optr 1 0]]]) [.v (.bool cond)] ([] ++ [[.v (.int .i64 c0), .v (.int .i64 c1), .v (.int .i64 c2), .v (.int .u64 c3), .v (.int .u64 c4), .v (.sl c5)], [.v (.int .u64 args0), .v (.int .u64 args1), .v (.int .u64 args2), .v (.int .u64 args3), .v (.int .u64 args4), .v (.int .u64 args5)], [.fn (.func 51) [] [.optr 1 0]]])) :
    EvF Try.prog prim 41 [.agg [.int .i64 c0, .int .i64 c1, .int .i64 c2, .int .u64 c3, .int .u64 c4, .sl c5], .agg [.int .u64 args0, .int .u64 args1, .int .u64 args2, .int .u64 args3, .int .u64 args4, .int .u64 args5]] [] [] [.v (.bool (!cond))] [] :=
  EvF.of Try.func41 (EvK.done (n := 22) (sc := [.reg [], .reg [], .reg [{}, ⟨.auto, .h⟩], .reg [], .br (some false), .reg [], .br (some true), .reg [{}, ⟨.auto, .h⟩, {}, ⟨.auto, .callH [.v (.bool cond)] [] [[.v (.int .i64 c0), .v (.int .i64 c1), .v (.int .i64 c2), .v (.int .u64 c3), .v (.int .u64 c4), .v (.sl c5)], [.v (.int .u64 args0), .v (.int .u64 args1), .v (.int .u64 args2), .v (.int .u64 args3), .v (.int .u64 args4), .v (.int .u64 args5)], [.fn (.func 51) [] [.ptr 1 0]]]⟩]]) (by kernel_rfl) (ob1 ho0 (ob1 ho1 (ob1 (show ([] : List (List AV)).length = ([] : List (List AV)).length from rfl) (ob1 (show LowS [] [] from (fun cs hc => Or.inl hc)) ob0)))) (ca1 (fun _ : True => hc0) ca0))
-- entry: ret
theorem F41.p2 (c0 c1 c2 c3 c4 : Int) (c5 : List (List PV)) (args0 args1 args2 args3 args4 args5 : Int) (cond : Bool) (ho0 : (c0 == 2) = false)
    (ho1 : (c0 == 3) = false)
    (ho2 : (c0 == 4) = true)
    (hc0 : EvF Try.prog prim 39 [.v (.sl c5), .fn (.func 51) [] [.optr 1 0]] [] ([] ++ [[.v (.int .i64 c0), .v (.int .i64 c1), .v (.int .i64 c2), .v (.int .u64 c3), .v (.int .u64 c4), .v (.sl c5)], [.v (.int .u64 args0), .v (.int .u64 args1), .v (.int .u64 args2), .v (.int .u64 args3), .v (.int .u64 args4), .v (.int .u64 args5)], [.fn (.func 51) [] [.optr 1 0]]]) [.v (.bool cond)] ([] ++ [[.v (.int .i64 c0), .v (.int .i64 c1), .v (.int .i64 c2), .v (.int .u64 c3), .v (.int .u64 c4), .v (.sl c5)], [.v (.int .u64 args0), .v (.int .u64 args1), .v (.int .u64 args2), .v (.int .u64 args3), .v (.int .u64 args4), .v (.int .u64 args5)], [.fn (.func 51) [] [.optr 1 0]]])) :
    EvF Try.prog prim 41 [.agg [.int .i64 c0, .int .i64 c1, .int .i64 c2, .int .u64 c3, .int .u64 c4, .sl c5], .agg [.int .u64 args0, .int .u64 args1, .int .u64 args2, .int .u64 args3, .int .u64 args4, .int .u64 args5]] [] [] [.v (.bool cond)] [] :=
  EvF.of Try.func41 (EvK.done (n := 25) (sc := [.reg [], .reg [], .reg [{}, ⟨.auto, .h⟩], .reg [], .br (some false), .reg [], .br (some false), .reg [], .br (some true), .reg [{}, ⟨.auto, .h⟩, ⟨.auto, .h⟩, ⟨.auto, .callH [.v (.bool cond)] [] [[.v (.int .i64 c0), .v (.int .i64 c1), .v (.int .i64 c2), .v (.int .u64 c3), .v (.int .u64 c4), .v (.sl c5)], [.v (.int .u64 args0), .v (.int .u64 args1), .v (.int .u64 args2), .v (.int .u64 args3), .v (.int .u64 args4), .v (.int .u64 args5)], [.fn (.func 51) [] [.ptr 1 0]]]⟩]]) (by kernel_rfl) (ob1 ho0 (ob1 ho1 (ob1 ho2 (ob1 (show ([] : List (List AV)).length = ([] : List (List AV)).length from rfl) (ob1 (show LowS [] [] from (fun cs hc => Or.inl hc)) ob0))))) (ca1 (fun _ : True => hc0) ca0))
-- entry: ret
theorem F41.p3 (c0 c1 c2 c3 c4 : Int) (c5 : List (List PV)) (args0 args1 args2 args3 args4 args5 y : Int) (compare : Bool) (ho0 : (c0 == 2) = false)
    (ho1 : (c0 == 3) = false)
    (ho2 : (c0 == 4) = false)
    (ho3 : (c0 == 5) = true)
    (ho4 : 0 ≤ c1 ∧ c1 < (6 : Nat))
    (ho5 : ([.v (.int .u64 args0), .v (.int .u64 args1), .v (.int .u64 args2), .v (.int .u64 args3), .v (.int .u64 args4), .v (.int .u64 args5)] : List AV)[(0 + Int.toNat c1 * 1)]? = some (.v (.int .u64 y)))
    (hc0 : EvF Try.prog prim 53 [.v (.int .i64 c2), .v (.int .u64 (IntKind.u64.wrap ((BitVec.ofInt 64 y &&& BitVec.ofInt 64 c3).toNat : Int))), .v (.int .u64 c4)] [] [] [.v (.bool compare)] []) :
    EvF Try.prog prim 41 [.agg [.int .i64 c0, .int .i64 c1, .int .i64 c2, .int .u64 c3, .int .u64 c4, .sl c5], .agg [.int .u64 args0, .int .u64 args1, .int .u64 args2, .int .u64 args3, .int .u64 args4, .int .u64 args5]] [] [] [.v (.bool compare)] [] :=
  EvF.of Try.func41 (EvK.done (n := 28) (sc := [.reg [], .reg [], .reg [{}, ⟨.auto, .h⟩], .reg [], .br (some false), .reg [], .br (some false), .reg [], .br (some false), .reg [], .br (some true), .reg [{}, {}, ⟨.auto, .h⟩, {}, {}, ⟨.auto, .h⟩, ⟨.auto, .ob⟩, ⟨.auto, .cell (.v (.int .u64 y))⟩, {}, {}, ⟨.auto, .h⟩, {}, {}, {}, ⟨.auto, .h⟩, ⟨.auto, .call [] false [.v (.bool compare)]⟩]]) (by kernel_rfl) (ob1 ho0 (ob1 ho1 (ob1 ho2 (ob1 ho3 (ob1 ho4 (ob1 ho5 ob0)))))) (ca1 (fun _ : True => hc0) ca0))
-- entry: ret
theorem F41.p4 (c0 c1 c2 c3 c4 : Int) (c5 : List (List PV)) (args0 args1 args2 args3 args4 args5 : Int) (ho0 : (c0 == 2) = false)
    (ho1 : (c0 == 3) = false)
    (ho2 : (c0 == 4) = false)
    (ho3 : (c0 == 5) = false) :
    EvF Try.prog prim 41 [.agg [.int .i64 c0, .int .i64 c1, .int .i64 c2, .int .u64 c3, .int .u64 c4, .sl c5], .agg [.int .u64 args0, .int .u64 args1, .int .u64 args2, .int .u64 args3, .int .u64 args4, .int .u64 args5]] [] [] [.v (.bool true)] [] :=
  EvF.of Try.func41 (EvK.done (n := 30) (sc := [.reg [], .reg [], .reg [{}, ⟨.auto, .h⟩], .reg [], .br (some false), .reg [], .br (some false), .reg [], .br (some false), .reg [], .br (some false), .reg []]) (by kernel_rfl) (ob1 ho0 (ob1 ho1 (ob1 ho2 (ob1 ho3 ob0)))) ca0)
end Go.Ab.S1
