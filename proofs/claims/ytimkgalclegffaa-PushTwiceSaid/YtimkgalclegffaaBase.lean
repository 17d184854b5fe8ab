/-
The functions whose meaning is given by hand.
-/
import Derived.Test.YtimkgalclegffaaAb
import Derived.Test.YtimkgalclegffaaProg
namespace Go.Ab.S1
open Go
def prim : FuncId → List AV → List AV → Prop := fun _ _ _ => False
end Go.Ab.S1
