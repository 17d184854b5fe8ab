/-
The functions whose meaning is given by hand.
-/
import Derived.Test.YtgjceiomfccbbaaAb
import Derived.Test.YtgjceiomfccbbaaProg
namespace Go.Ab.S3
open Go
def prim : FuncId → List AV → List AV → Prop := fun _ _ _ => False
end Go.Ab.S3
