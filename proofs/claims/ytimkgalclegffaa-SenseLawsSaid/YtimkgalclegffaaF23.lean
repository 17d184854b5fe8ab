/-
The paths of the function 23, as the evaluator goes them: printed by a program.
-/
import Derived.Test.YtimkgalclegffaaBase
namespace Go.Ab.S1
open Go Go.Proofs Go.Ab
set_option maxRecDepth 100000
/-! ### tipstaff/sense.Size (function 23) -/
def F23.h0 (c0 c1 c2 c3 c4 : Int) (c5 : List (List PV)) (n t9 : Int) : St :=
  { tmps := [.none, .none, .none, .v (.int .i64 n), .none, .none, .none, .v (.sl c5), .v (.int .i64 ((c5.length : Int))), .v (.int .i64 t9), .none, .none, .none, .none, .none, .none, .none, .none, .none], toks := [], outer := [], heap := [[.v (.int .i64 c0), .v (.int .i64 c1), .v (.int .i64 c2), .v (.int .u64 c3), .v (.int .u64 c4), .v (.sl c5)]] }
-- entry: to h0
theorem F23.p0 (c0 c1 c2 c3 c4 : Int) (c5 : List (List PV)) {r : List AV} {h : List (List AV)} (hk : EvK Try.prog prim Try.f23 (loopAt Try.f23 0) (F23.h0 c0 c1 c2 c3 c4 c5 1 0) r h) :
    EvF Try.prog prim 23 [.agg [.int .i64 c0, .int .i64 c1, .int .i64 c2, .int .u64 c3, .int .u64 c4, .sl c5]] [] [] r h :=
  EvF.of Try.func23 (EvK.cont (n := 14) (sc := [.reg [], .reg [], .reg [{}, ⟨.auto, .h⟩], .cut { kill := [0, 1, 2, 6], weak := [], adopt := [], adoptB := [], heapLen := 1, toks := [] }]) (todo' := loopAt Try.f23 0) (s' := F23.h0 c0 c1 c2 c3 c4 c5 1 0) (by kernel_rfl) ob0 ca0 hk)
-- h0: to h0
theorem F23.l0_1 (c0 c1 c2 c3 c4 : Int) (c5 : List (List PV)) (n t9 y0_2 y1_2 y2_2 y3_2 y4_2 : Int) (y5_2 : List (List PV)) (size_2 : Int) {r : List AV} {h : List (List AV)} (ho0 : (decide (t9 < ((c5.length : Int)))) = true)
    (ho1 : (0 : Int) ≤ t9)
    (ho2 : (c5 : List (List PV))[Int.toNat t9]? = some [.int .i64 y0_2, .int .i64 y1_2, .int .i64 y2_2, .int .u64 y3_2, .int .u64 y4_2, .sl y5_2])
    (ho3 : inR .i64 (n + size_2))
    (ho4 : inR .i64 (t9 + 1))
    (hc0 : EvF Try.prog prim 23 [.agg [.int .i64 y0_2, .int .i64 y1_2, .int .i64 y2_2, .int .u64 y3_2, .int .u64 y4_2, .sl y5_2]] [] [] [.v (.int .i64 size_2)] [])
    (hk : EvK Try.prog prim Try.f23 (loopAt Try.f23 0) (F23.h0 c0 c1 c2 c3 c4 c5 ((n + size_2)) ((t9 + 1))) r h) :
    EvK Try.prog prim Try.f23 (loopAt Try.f23 0) (F23.h0 c0 c1 c2 c3 c4 c5 n t9) r h :=
  EvK.cont (n := 18) (sc := [.reg [], .br (some true), .reg [⟨.auto, .row [.int .i64 y0_2, .int .i64 y1_2, .int .i64 y2_2, .int .u64 y3_2, .int .u64 y4_2, .sl y5_2]⟩], .reg [{}, ⟨.auto, .h⟩, ⟨.auto, .call [] false [.v (.int .i64 size_2)]⟩, ⟨.auto, .nw⟩], .reg [⟨.auto, .nw⟩], .cut { kill := [5, 10, 11, 12, 13, 14, 15, 16, 17], weak := [], adopt := [], adoptB := [], heapLen := 1, toks := [] }]) (todo' := loopAt Try.f23 0) (s' := F23.h0 c0 c1 c2 c3 c4 c5 ((n + size_2)) ((t9 + 1))) (by kernel_rfl) (ob1 ho0 (ob1 ho1 (ob1 ho2 (ob1 ho3 (ob1 ho4 ob0))))) (ca1 (fun _ : True => hc0) ca0) hk
-- h0: ret
theorem F23.l0_2 (c0 c1 c2 c3 c4 : Int) (c5 : List (List PV)) (n t9 : Int) (ho0 : (decide (t9 < ((c5.length : Int)))) = false) :
    EvK Try.prog prim Try.f23 (loopAt Try.f23 0) (F23.h0 c0 c1 c2 c3 c4 c5 n t9) [.v (.int .i64 n)] [] :=
  EvK.done (n := 13) (sc := [.reg [], .br (some false), .reg []]) (by kernel_rfl) (ob1 ho0 ob0) ca0
end Go.Ab.S1
