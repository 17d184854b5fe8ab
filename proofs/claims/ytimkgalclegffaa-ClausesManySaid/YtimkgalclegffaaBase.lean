/-
The functions whose meaning is given by hand: slices.Grow of nil.
-/
import Derived.Test.YtimkgalclegffaaAb
import Derived.Test.YtimkgalclegffaaProg
namespace Go.Ab.S1
open Go
def prim : FuncId → List AV → List AV → Prop := fun g xs r =>
  g = 59 ∧ ∃ n : Int, 0 ≤ n ∧ n ≤ 1099511627776 ∧ xs = [.own 0 [], .v (.int .i64 n)] ∧ ((0 < n ∧ r = [.vac 0 4]) ∨ (n = 0 ∧ r = [.own 0 []]))
end Go.Ab.S1
