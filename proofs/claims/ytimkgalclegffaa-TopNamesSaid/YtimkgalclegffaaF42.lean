/-
The paths of the function 42, as the evaluator goes them: printed by a program.
-/
import Derived.Test.YtimkgalclegffaaBase
namespace Go.Ab.S1
open Go Go.Proofs Go.Ab
set_option maxRecDepth 100000
/-! ### tipstaff/tipstafftop.are (function 42) -/
def F42.h0 (l : List (List PV)) (i : Int) : St :=
  { tmps := [.v (.sl l), .none, .none, .v (.int .i64 i), .none, .none, .none, .none, .none, .none, .none, .none, .none, .none, .none, .none, .none, .none, .none, .none, .none], toks := [], outer := [], heap := [] }
-- entry: to h0
theorem F42.p0 (l : List (List PV)) {r : List AV} {h : List (List AV)} (hk : EvK Try.prog prim Try.f42 (loopAt Try.f42 0) (F42.h0 l 0) r h) :
    EvF Try.prog prim 42 [.v (.sl l)] [] [] r h :=
  EvF.of Try.func42 (EvK.cont (n := 12) (sc := [.reg [], .reg [], .cut { kill := [2], weak := [], adopt := [], adoptB := [], heapLen := 0, toks := [] }]) (todo' := loopAt Try.f42 0) (s' := F42.h0 l 0) (by kernel_rfl) ob0 ca0 hk)
-- h0: ret
theorem F42.l0_1 (l : List (List PV)) (i y0_2 y1_2 : Int) (ho0 : (decide (i < ((l.length : Int)))) = true)
    (ho1 : (0 : Int) ≤ i)
    (ho2 : (l : List (List PV))[Int.toNat i]? = some [.int .i64 y0_2, .int .i64 y1_2])
    (ho3 : (y0_2 != y1_2) = true) :
    EvK Try.prog prim Try.f42 (loopAt Try.f42 0) (F42.h0 l i) [.v (.bool false)] [] :=
  EvK.done (n := 18) (sc := [.reg [], .br (some true), .reg [{}, {}, ⟨.auto, .row [.int .i64 y0_2, .int .i64 y1_2]⟩, {}, {}, {}, {}, ⟨.auto, .row [.int .i64 y0_2, .int .i64 y1_2]⟩], .br (some true), .reg []]) (by kernel_rfl) (ob1 ho0 (ob1 ho1 (ob1 ho2 (ob1 ho1 (ob1 ho2 (ob1 ho3 ob0)))))) ca0
-- h0: to h0
theorem F42.l0_2 (l : List (List PV)) (i y0_2 y1_2 : Int) {r : List AV} {h : List (List AV)} (ho0 : (decide (i < ((l.length : Int)))) = true)
    (ho1 : (0 : Int) ≤ i)
    (ho2 : (l : List (List PV))[Int.toNat i]? = some [.int .i64 y0_2, .int .i64 y1_2])
    (ho3 : (y0_2 != y1_2) = false)
    (ho4 : inR .i64 (i + 1))
    (hk : EvK Try.prog prim Try.f42 (loopAt Try.f42 0) (F42.h0 l ((i + 1))) r h) :
    EvK Try.prog prim Try.f42 (loopAt Try.f42 0) (F42.h0 l i) r h :=
  EvK.cont (n := 19) (sc := [.reg [], .br (some true), .reg [{}, {}, ⟨.auto, .row [.int .i64 y0_2, .int .i64 y1_2]⟩, {}, {}, {}, {}, ⟨.auto, .row [.int .i64 y0_2, .int .i64 y1_2]⟩], .br (some false), .reg [{}, ⟨.auto, .nw⟩], .cut { kill := [4, 5, 6, 7, 8, 9, 10, 11, 12, 13, 14, 15, 16, 17, 18, 19, 20], weak := [], adopt := [], adoptB := [], heapLen := 0, toks := [] }]) (todo' := loopAt Try.f42 0) (s' := F42.h0 l ((i + 1))) (by kernel_rfl) (ob1 ho0 (ob1 ho1 (ob1 ho2 (ob1 ho1 (ob1 ho2 (ob1 ho3 (ob1 ho4 ob0))))))) ca0 hk
-- h0: ret
theorem F42.l0_3 (l : List (List PV)) (i : Int) (ho0 : (decide (i < ((l.length : Int)))) = false) :
    EvK Try.prog prim Try.f42 (loopAt Try.f42 0) (F42.h0 l i) [.v (.bool true)] [] :=
  EvK.done (n := 13) (sc := [.reg [], .br (some false), .reg []]) (by kernel_rfl) (ob1 ho0 ob0) ca0
end Go.Ab.S1
