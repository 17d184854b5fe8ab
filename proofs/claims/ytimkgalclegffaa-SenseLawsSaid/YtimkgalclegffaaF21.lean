/-
The paths of the function 21, as the evaluator goes them: printed by a program.
-/
import Derived.Test.YtimkgalclegffaaBase
namespace Go.Ab.S1
open Go Go.Proofs Go.Ab
set_option maxRecDepth 100000
/-! ### tipstaff/sense.Right (function 21) -/
-- entry: ret
theorem F21.p0 (c0 c1 c2 c3 c4 : Int) (c5 : List (List PV)) (plain cond : Bool) (ho0 : plain = true)
    (hc0 : EvF Try.prog prim 38 [.agg [.int .i64 c0, .int .i64 c1, .int .i64 c2, .int .u64 c3, .int .u64 c4, .sl c5]] [] [] [.v (.bool plain)] [])
    (hc1 : EvF Try.prog prim 39 [.v (.sl c5), .fn (.func 40) [] []] [] ([] ++ [[.v (.int .i64 c0), .v (.int .i64 c1), .v (.int .i64 c2), .v (.int .u64 c3), .v (.int .u64 c4), .v (.sl c5)]]) [.v (.bool cond)] ([] ++ [[.v (.int .i64 c0), .v (.int .i64 c1), .v (.int .i64 c2), .v (.int .u64 c3), .v (.int .u64 c4), .v (.sl c5)]])) :
    EvF Try.prog prim 21 [.agg [.int .i64 c0, .int .i64 c1, .int .i64 c2, .int .u64 c3, .int .u64 c4, .sl c5]] [] [] [.v (.bool (bif plain then (!cond) else false))] [] :=
  EvF.of Try.func21 (EvK.done (n := 10) (sc := [.reg [], .reg [⟨.auto, .h⟩, ⟨.auto, .call [] false [.v (.bool plain)]⟩, {}, ⟨.spec, .d⟩, ⟨.spec, .h⟩, ⟨.yes, .callH [.v (.bool cond)] [] [[.v (.int .i64 c0), .v (.int .i64 c1), .v (.int .i64 c2), .v (.int .u64 c3), .v (.int .u64 c4), .v (.sl c5)]]⟩, ⟨.yes, .d⟩]]) (by kernel_rfl) (ob1 (show plain = true → plain = true from idG plain) (ob1 ho0 (ob1 ho0 (ob1 (show ([] : List (List AV)).length = ([] : List (List AV)).length from rfl) (ob1 (show LowS [] [] from (fun cs hc => Or.inl hc)) (ob1 ho0 ob0)))))) (ca1 (fun _ : True => hc0) (ca1 (fun _ : True => hc1) ca0)))
-- entry: ret
theorem F21.p1 (c0 c1 c2 c3 c4 : Int) (c5 : List (List PV)) (plain : Bool) (ho0 : plain = false)
    (hc0 : EvF Try.prog prim 38 [.agg [.int .i64 c0, .int .i64 c1, .int .i64 c2, .int .u64 c3, .int .u64 c4, .sl c5]] [] [] [.v (.bool plain)] []) :
    EvF Try.prog prim 21 [.agg [.int .i64 c0, .int .i64 c1, .int .i64 c2, .int .u64 c3, .int .u64 c4, .sl c5]] [] [] [.v (.bool false)] [] :=
  EvF.of Try.func21 (EvK.done (n := 10) (sc := [.reg [], .reg [⟨.auto, .h⟩, ⟨.auto, .call [] false [.v (.bool plain)]⟩, {}, ⟨.spec, .d⟩, ⟨.spec, .h⟩, ⟨.no, .d⟩, ⟨.no, .d⟩, ⟨.auto, .pk false⟩]]) (by kernel_rfl) (ob1 (show plain = true → plain = true from idG plain) (ob1 ho0 (ob1 ho0 (ob1 ho0 ob0)))) (ca1 (fun _ : True => hc0) ca0))
end Go.Ab.S1
