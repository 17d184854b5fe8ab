/-
The functions whose meaning is given by hand.
-/
import Derived.Test.YtdddimnfhgmadaaAb
import Derived.Test.YtdddimnfhgmadaaProg
namespace Go.Ab.S2
open Go
def prim : FuncId → List AV → List AV → Prop := fun _ _ _ => False
end Go.Ab.S2
