/-
The paths of the function 39, as the evaluator goes them: printed by a program.
-/
import Derived.Test.YtimkgalclegffaaBase
namespace Go.Ab.S1
open Go Go.Proofs Go.Ab
set_option maxRecDepth 100000
/-! ### slices.ContainsFunc[[]tipstaff/api.Cond,tipstaff/api.Cond] (function 39) -/
-- entry: ret
theorem F39_40.p0 (H : List (List AV)) (s : List (List PV)) (cond : Int) (hc0 : EvF Try.prog prim 50 [.v (.sl s), .fn (.func 40) [] []] [] (H ++ []) [.v (.int .i64 cond)] (H ++ [])) :
    EvF Try.prog prim 39 [.v (.sl s), .fn (.func 40) [] []] [] H [.v (.bool (decide (cond ≥ 0)))] H :=
  EvF.of Try.func39 (EvK.done (n := 10) (sc := [.reg [], .reg [{}, {}, ⟨.auto, .callH [.v (.int .i64 cond)] H []⟩]]) (by kernel_rfl) (ob1 (show (H : List (List AV)).length = (H : List (List AV)).length from rfl) (ob1 (show LowS H H from (fun cs hc => Or.inl hc)) ob0)) (ca1 (fun _ : True => hc0) ca0))
/-! ### slices.ContainsFunc[[]tipstaff/api.Cond,tipstaff/api.Cond] (function 39) -/
-- entry: ret
theorem F39_52.p0 (b : Nat) (H : List (List AV)) (s : List (List PV)) (cond : Int) (hc0 : EvF Try.prog prim 50 [.v (.sl s), .fn (.func 52) [] [.optr b 0]] [] (H ++ []) [.v (.int .i64 cond)] (H ++ [])) :
    EvF Try.prog prim 39 [.v (.sl s), .fn (.func 52) [] [.optr b 0]] [] H [.v (.bool (decide (cond ≥ 0)))] H :=
  EvF.of Try.func39 (EvK.done (n := 10) (sc := [.reg [], .reg [{}, {}, ⟨.auto, .callH [.v (.int .i64 cond)] H []⟩]]) (by kernel_rfl) (ob1 (show (H : List (List AV)).length = (H : List (List AV)).length from rfl) (ob1 (show LowS H H from (fun cs hc => Or.inl hc)) ob0)) (ca1 (fun _ : True => hc0) ca0))
/-! ### slices.ContainsFunc[[]tipstaff/api.Cond,tipstaff/api.Cond] (function 39) -/
-- entry: ret
theorem F39_51.p0 (b : Nat) (H : List (List AV)) (s : List (List PV)) (cond : Int) (hc0 : EvF Try.prog prim 50 [.v (.sl s), .fn (.func 51) [] [.optr b 0]] [] (H ++ []) [.v (.int .i64 cond)] (H ++ [])) :
    EvF Try.prog prim 39 [.v (.sl s), .fn (.func 51) [] [.optr b 0]] [] H [.v (.bool (decide (cond ≥ 0)))] H :=
  EvF.of Try.func39 (EvK.done (n := 10) (sc := [.reg [], .reg [{}, {}, ⟨.auto, .callH [.v (.int .i64 cond)] H []⟩]]) (by kernel_rfl) (ob1 (show (H : List (List AV)).length = (H : List (List AV)).length from rfl) (ob1 (show LowS H H from (fun cs hc => Or.inl hc)) ob0)) (ca1 (fun _ : True => hc0) ca0))
end Go.Ab.S1
