/-
The paths of the function 24, as the evaluator goes them: printed by a program.
-/
import Derived.Test.YtimkgalclegffaaBase
namespace Go.Ab.S1
open Go Go.Proofs Go.Ab
set_option maxRecDepth 100000
/-! ### tipstaff/tipstaffref17.Size (function 24) -/
def F24.h0 (c0 c1 c2 c3 c4 : Int) (c5 : List (List PV)) (n i : Int) : St :=
  { tmps := [.none, .ptr 0 0, .none, .v (.int .i64 n), .v (.int .i64 i), .none, .none, .none, .none, .none, .none, .none, .none, .none, .none, .none, .none, .none, .none, .none, .none], toks := [], outer := [], heap := [[.v (.int .i64 c0), .v (.int .i64 c1), .v (.int .i64 c2), .v (.int .u64 c3), .v (.int .u64 c4), .v (.sl c5)]] }
-- entry: to h0
theorem F24.p0 (c0 c1 c2 c3 c4 : Int) (c5 : List (List PV)) {r : List AV} {h : List (List AV)} (hk : EvK Try.prog prim Try.f24 (loopAt Try.f24 0) (F24.h0 c0 c1 c2 c3 c4 c5 1 0) r h) :
    EvF Try.prog prim 24 [.agg [.int .i64 c0, .int .i64 c1, .int .i64 c2, .int .u64 c3, .int .u64 c4, .sl c5]] [] [] r h :=
  EvF.of Try.func24 (EvK.cont (n := 14) (sc := [.reg [], .reg [], .reg [], .cut { kill := [0, 2], weak := [], adopt := [], adoptB := [], heapLen := 1, toks := [] }]) (todo' := loopAt Try.f24 0) (s' := F24.h0 c0 c1 c2 c3 c4 c5 1 0) (by kernel_rfl) ob0 ca0 hk)
-- h0: to h0
theorem F24.l0_1 (c0 c1 c2 c3 c4 : Int) (c5 : List (List PV)) (n i y0_2 y1_2 y2_2 y3_2 y4_2 : Int) (y5_2 : List (List PV)) (size_2 : Int) {r : List AV} {h : List (List AV)} (ho0 : (decide (i < ((c5.length : Int)))) = true)
    (ho1 : (0 : Int) ≤ i)
    (ho2 : (c5 : List (List PV))[Int.toNat i]? = some [.int .i64 y0_2, .int .i64 y1_2, .int .i64 y2_2, .int .u64 y3_2, .int .u64 y4_2, .sl y5_2])
    (ho3 : inR .i64 (n + size_2))
    (ho4 : inR .i64 (i + 1))
    (hc0 : EvF Try.prog prim 24 [.agg [.int .i64 y0_2, .int .i64 y1_2, .int .i64 y2_2, .int .u64 y3_2, .int .u64 y4_2, .sl y5_2]] [] [] [.v (.int .i64 size_2)] [])
    (hk : EvK Try.prog prim Try.f24 (loopAt Try.f24 0) (F24.h0 c0 c1 c2 c3 c4 c5 ((n + size_2)) ((i + 1))) r h) :
    EvK Try.prog prim Try.f24 (loopAt Try.f24 0) (F24.h0 c0 c1 c2 c3 c4 c5 n i) r h :=
  EvK.cont (n := 16) (sc := [.reg [{}, {}, ⟨.auto, .h⟩], .br (some true), .reg [{}, {}, ⟨.auto, .h⟩, {}, ⟨.auto, .row [.int .i64 y0_2, .int .i64 y1_2, .int .i64 y2_2, .int .u64 y3_2, .int .u64 y4_2, .sl y5_2]⟩, {}, ⟨.auto, .call [] false [.v (.int .i64 size_2)]⟩, ⟨.auto, .nw⟩], .reg [{}, ⟨.auto, .nw⟩], .cut { kill := [5, 6, 7, 8, 9, 10, 11, 12, 13, 14, 15, 16, 17, 18, 19], weak := [], adopt := [], adoptB := [], heapLen := 1, toks := [] }]) (todo' := loopAt Try.f24 0) (s' := F24.h0 c0 c1 c2 c3 c4 c5 ((n + size_2)) ((i + 1))) (by kernel_rfl) (ob1 ho0 (ob1 ho1 (ob1 ho2 (ob1 ho3 (ob1 ho4 ob0))))) (ca1 (fun _ : True => hc0) ca0) hk
-- h0: ret
theorem F24.l0_2 (c0 c1 c2 c3 c4 : Int) (c5 : List (List PV)) (n i : Int) (ho0 : (decide (i < ((c5.length : Int)))) = false) :
    EvK Try.prog prim Try.f24 (loopAt Try.f24 0) (F24.h0 c0 c1 c2 c3 c4 c5 n i) [.v (.int .i64 n)] [] :=
  EvK.done (n := 13) (sc := [.reg [{}, {}, ⟨.auto, .h⟩], .br (some false), .reg []]) (by kernel_rfl) (ob1 ho0 ob0) ca0
end Go.Ab.S1
