/-
The paths of the function 8, as the evaluator goes them: printed by a program.
-/
import Derived.Test.YtimkgalclegffaaBase
namespace Go.Ab.S1
open Go Go.Proofs Go.Ab
set_option maxRecDepth 100000
/-! ### tipstaff/tipstafftop.TopNames (function 8) -/
-- entry: ret
theorem F8.p0 (first second third fourth : Bool) (hc0 : EvF Try.prog prim 25 [] [] [] [.v (.bool first)] [])
    (hc1 : first = true → EvF Try.prog prim 26 [] [] [] [.v (.bool second)] [])
    (hc2 : (bif first then second else false) = true → EvF Try.prog prim 27 [] [] [] [.v (.bool third)] [])
    (hc3 : (bif (bif first then second else false) then third else false) = true → EvF Try.prog prim 28 [] [] [] [.v (.bool fourth)] []) :
    EvF Try.prog prim 8 [] [] [] [.v (.bool (bif (bif (bif first then second else false) then third else false) then fourth else false))] [] :=
  EvF.of Try.func8 (EvK.done (n := 10) (sc := [.reg [], .reg [⟨.auto, .call [] false [.v (.bool first)]⟩, {}, ⟨.spec, .call [] false [.v (.bool second)]⟩, {}, {}, ⟨.spec, .call [] false [.v (.bool third)]⟩, {}, {}, ⟨.spec, .call [] false [.v (.bool fourth)]⟩]]) (by kernel_rfl) (ob1 (show first = true → first = true from idG first) (ob1 (show (bif first then second else false) = true → (bif first then second else false) = true from idG (bif first then second else false)) (ob1 (show (bif (bif first then second else false) then third else false) = true → (bif (bif first then second else false) then third else false) = true from idG (bif (bif first then second else false) then third else false)) ob0))) (ca1 (fun _ : True => hc0) (ca1 (fun g : first = true ∧ True => hc1 g.1) (ca1 (fun g : (bif first then second else false) = true ∧ True => hc2 g.1) (ca1 (fun g : (bif (bif first then second else false) then third else false) = true ∧ True => hc3 g.1) ca0)))))
end Go.Ab.S1
