/-
The paths of the function 33, as the evaluator goes them: printed by a program.
-/
import Derived.Test.YtimkgalclegffaaBase
namespace Go.Ab.S1
open Go Go.Proofs Go.Ab
set_option maxRecDepth 100000
/-! ### tipstaff/tipstafflaw17.size (function 33) -/
def F33.h0 (c0 c1 c2 c3 c4 : Int) (c5 : List (List PV)) (d n i : Int) : St :=
  { tmps := [.none, .v (.int .i64 d), .ptr 0 0, .none, .none, .v (.int .i64 n), .v (.int .i64 i), .none, .none, .none, .none, .none, .none, .none, .none, .none, .none, .none, .none, .none, .none, .none, .none, .none, .none, .none, .none, .none, .none, .none, .none], toks := [], outer := [], heap := [[.v (.int .i64 c0), .v (.int .i64 c1), .v (.int .i64 c2), .v (.int .u64 c3), .v (.int .u64 c4), .v (.sl c5)]] }
-- entry: ret
theorem F33.p0 (c0 c1 c2 c3 c4 : Int) (c5 : List (List PV)) (d : Int) (ho0 : (decide (d > 60)) = true) :
    EvF Try.prog prim 33 [.agg [.int .i64 c0, .int .i64 c1, .int .i64 c2, .int .u64 c3, .int .u64 c4, .sl c5], .v (.int .i64 d)] [] [] [.v (.int .i64 1000)] [] :=
  EvF.of Try.func33 (EvK.done (n := 14) (sc := [.reg [], .reg [], .br (some true), .reg []]) (by kernel_rfl) (ob1 ho0 ob0) ca0)
-- entry: to h0
theorem F33.p1 (c0 c1 c2 c3 c4 : Int) (c5 : List (List PV)) (d : Int) {r : List AV} {h : List (List AV)} (ho0 : (decide (d > 60)) = false)
    (hk : EvK Try.prog prim Try.f33 (loopAt Try.f33 0) (F33.h0 c0 c1 c2 c3 c4 c5 d 1 0) r h) :
    EvF Try.prog prim 33 [.agg [.int .i64 c0, .int .i64 c1, .int .i64 c2, .int .u64 c3, .int .u64 c4, .sl c5], .v (.int .i64 d)] [] [] r h :=
  EvF.of Try.func33 (EvK.cont (n := 19) (sc := [.reg [], .reg [], .br (some false), .reg [], .reg [], .cut { kill := [0, 4, 7, 8], weak := [], adopt := [], adoptB := [], heapLen := 1, toks := [] }]) (todo' := loopAt Try.f33 0) (s' := F33.h0 c0 c1 c2 c3 c4 c5 d 1 0) (by kernel_rfl) (ob1 ho0 ob0) ca0 hk)
-- h0: to h0
theorem F33.l0_2 (c0 c1 c2 c3 c4 : Int) (c5 : List (List PV)) (d n i y0_2 y1_2 y2_2 y3_2 y4_2 : Int) (y5_2 : List (List PV)) (size_2 : Int) {r : List AV} {h : List (List AV)} (ho0 : (bif (decide (i < ((c5.length : Int)))) then (decide (n < 1000)) else false) = true)
    (ho1 : (0 : Int) ≤ i)
    (ho2 : (c5 : List (List PV))[Int.toNat i]? = some [.int .i64 y0_2, .int .i64 y1_2, .int .i64 y2_2, .int .u64 y3_2, .int .u64 y4_2, .sl y5_2])
    (ho3 : inR .i64 (d + 1))
    (ho4 : inR .i64 (n + size_2))
    (ho5 : inR .i64 (i + 1))
    (hc0 : EvF Try.prog prim 33 [.agg [.int .i64 y0_2, .int .i64 y1_2, .int .i64 y2_2, .int .u64 y3_2, .int .u64 y4_2, .sl y5_2], .v (.int .i64 (d + 1))] [] [] [.v (.int .i64 size_2)] [])
    (hk : EvK Try.prog prim Try.f33 (loopAt Try.f33 0) (F33.h0 c0 c1 c2 c3 c4 c5 d ((n + size_2)) ((i + 1))) r h) :
    EvK Try.prog prim Try.f33 (loopAt Try.f33 0) (F33.h0 c0 c1 c2 c3 c4 c5 d n i) r h :=
  EvK.cont (n := 16) (sc := [.reg [{}, {}, ⟨.auto, .h⟩, {}, {}, {}, ⟨.spec, .d⟩, ⟨.spec, .d⟩], .br (some true), .reg [{}, {}, ⟨.auto, .h⟩, {}, ⟨.auto, .row [.int .i64 y0_2, .int .i64 y1_2, .int .i64 y2_2, .int .u64 y3_2, .int .u64 y4_2, .sl y5_2]⟩, {}, {}, ⟨.auto, .nw⟩, ⟨.auto, .call [] false [.v (.int .i64 size_2)]⟩, ⟨.auto, .nw⟩], .reg [{}, ⟨.auto, .nw⟩], .cut { kill := [9, 10, 11, 12, 13, 14, 15, 16, 17, 18, 19, 20, 21, 22, 23, 24, 25, 26, 27, 28, 29], weak := [], adopt := [], adoptB := [], heapLen := 1, toks := [] }]) (todo' := loopAt Try.f33 0) (s' := F33.h0 c0 c1 c2 c3 c4 c5 d ((n + size_2)) ((i + 1))) (by kernel_rfl) (ob1 (show (decide (i < ((c5.length : Int)))) = true → (decide (i < ((c5.length : Int)))) = true from idG (decide (i < ((c5.length : Int))))) (ob1 (show (decide (i < ((c5.length : Int)))) = true → (decide (i < ((c5.length : Int)))) = true from idG (decide (i < ((c5.length : Int))))) (ob1 ho0 (ob1 ho1 (ob1 ho2 (ob1 ho3 (ob1 ho4 (ob1 ho5 ob0)))))))) (ca1 (fun _ : True => hc0) ca0) hk
-- h0: ret
theorem F33.l0_3 (c0 c1 c2 c3 c4 : Int) (c5 : List (List PV)) (d n i : Int) (ho0 : (bif (decide (i < ((c5.length : Int)))) then (decide (n < 1000)) else false) = false) :
    EvK Try.prog prim Try.f33 (loopAt Try.f33 0) (F33.h0 c0 c1 c2 c3 c4 c5 d n i) [.v (.int .i64 n)] [] :=
  EvK.done (n := 13) (sc := [.reg [{}, {}, ⟨.auto, .h⟩, {}, {}, {}, ⟨.spec, .d⟩, ⟨.spec, .d⟩], .br (some false), .reg []]) (by kernel_rfl) (ob1 (show (decide (i < ((c5.length : Int)))) = true → (decide (i < ((c5.length : Int)))) = true from idG (decide (i < ((c5.length : Int))))) (ob1 (show (decide (i < ((c5.length : Int)))) = true → (decide (i < ((c5.length : Int)))) = true from idG (decide (i < ((c5.length : Int))))) (ob1 ho0 ob0))) ca0
end Go.Ab.S1
