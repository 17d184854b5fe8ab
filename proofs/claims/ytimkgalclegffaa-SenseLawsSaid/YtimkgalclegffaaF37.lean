/-
The paths of the function 37, as the evaluator goes them: printed by a program.
-/
import Derived.Test.YtimkgalclegffaaBase
namespace Go.Ab.S1
open Go Go.Proofs Go.Ab
set_option maxRecDepth 100000
/-! ### tipstaff/tipstaffref17.holds (function 37) -/
def F37.h0 (c0 c1 c2 c3 c4 : Int) (c5 : List (List PV)) (args0 args1 args2 args3 args4 args5 i : Int) : St :=
  { tmps := [.none, .none, .ptr 0 0, .ptr 1 0, .none, .v (.int .i64 i), .none, .none, .none, .none, .none, .none, .none, .none, .none, .none, .none, .none, .none, .none, .none, .none, .none, .none, .none, .none, .none, .none, .none, .none, .none, .none, .none, .none, .none, .none, .none, .none, .none, .none, .none, .none, .none, .none, .none, .none, .none, .none, .none, .none, .none, .none, .none, .none, .none, .none, .none, .none, .none, .none, .none, .none, .none, .none, .none, .none, .none, .none, .none], toks := [], outer := [], heap := [[.v (.int .i64 c0), .v (.int .i64 c1), .v (.int .i64 c2), .v (.int .u64 c3), .v (.int .u64 c4), .v (.sl c5)], [.v (.int .u64 args0), .v (.int .u64 args1), .v (.int .u64 args2), .v (.int .u64 args3), .v (.int .u64 args4), .v (.int .u64 args5)]] }
def F37.h1 (c0 c1 c2 c3 c4 : Int) (c5 : List (List PV)) (args0 args1 args2 args3 args4 args5 i : Int) : St :=
  { tmps := [.none, .none, .ptr 0 0, .ptr 1 0, .none, .none, .v (.int .i64 i), .none, .none, .none, .none, .none, .none, .none, .none, .none, .none, .none, .none, .none, .none, .none, .none, .none, .none, .none, .none, .none, .none, .none, .none, .none, .none, .none, .none, .none, .none, .none, .none, .none, .none, .none, .none, .none, .none, .none, .none, .none, .none, .none, .none, .none, .none, .none, .none, .none, .none, .none, .none, .none, .none, .none, .none, .none, .none, .none, .none, .none, .none], toks := [], outer := [], heap := [[.v (.int .i64 c0), .v (.int .i64 c1), .v (.int .i64 c2), .v (.int .u64 c3), .v (.int .u64 c4), .v (.sl c5)], [.v (.int .u64 args0), .v (.int .u64 args1), .v (.int .u64 args2), .v (.int .u64 args3), .v (.int .u64 args4), .v (.int .u64 args5)]] }
-- entry: ret
theorem F37.p0 (c0 c1 c2 c3 c4 : Int) (c5 : List (List PV)) (args0 args1 args2 args3 args4 args5 y0 y1 y2 y3 y4 : Int) (y5 : List (List PV)) (holds : Bool) (ho0 : (c0 == 2) = true)
    (ho1 : (c5 : List (List PV))[Int.toNat 0]? = some [.int .i64 y0, .int .i64 y1, .int .i64 y2, .int .u64 y3, .int .u64 y4, .sl y5])
    (hc0 : EvF Try.prog prim 37 [.agg [.int .i64 y0, .int .i64 y1, .int .i64 y2, .int .u64 y3, .int .u64 y4, .sl y5], .agg [.int .u64 args0, .int .u64 args1, .int .u64 args2, .int .u64 args3, .int .u64 args4, .int .u64 args5]] [] [] [.v (.bool holds)] []) :
    EvF Try.prog prim 37 [.agg [.int .i64 c0, .int .i64 c1, .int .i64 c2, .int .u64 c3, .int .u64 c4, .sl c5], .agg [.int .u64 args0, .int .u64 args1, .int .u64 args2, .int .u64 args3, .int .u64 args4, .int .u64 args5]] [] [] [.v (.bool (!holds))] [] :=
  EvF.of Try.func37 (EvK.done (n := 17) (sc := [.reg [], .reg [{}, ⟨.auto, .h⟩], .reg [], .br (some true), .reg [{}, ⟨.auto, .h⟩, ⟨.auto, .row [.int .i64 y0, .int .i64 y1, .int .i64 y2, .int .u64 y3, .int .u64 y4, .sl y5]⟩, {}, ⟨.auto, .h⟩, ⟨.auto, .call [] false [.v (.bool holds)]⟩]]) (by kernel_rfl) (ob1 ho0 (ob1 (show (0 : Int) ≤ 0 from (by decide)) (ob1 ho1 ob0))) (ca1 (fun _ : True => hc0) ca0))
-- entry: to h0
theorem F37.p1 (c0 c1 c2 c3 c4 : Int) (c5 : List (List PV)) (args0 args1 args2 args3 args4 args5 : Int) {r : List AV} {h : List (List AV)} (ho0 : (c0 == 2) = false)
    (ho1 : (c0 == 3) = true)
    (hk : EvK Try.prog prim Try.f37 (loopAt Try.f37 0) (F37.h0 c0 c1 c2 c3 c4 c5 args0 args1 args2 args3 args4 args5 0) r h) :
    EvF Try.prog prim 37 [.agg [.int .i64 c0, .int .i64 c1, .int .i64 c2, .int .u64 c3, .int .u64 c4, .sl c5], .agg [.int .u64 args0, .int .u64 args1, .int .u64 args2, .int .u64 args3, .int .u64 args4, .int .u64 args5]] [] [] r h :=
  EvF.of Try.func37 (EvK.cont (n := 22) (sc := [.reg [], .reg [{}, ⟨.auto, .h⟩], .reg [], .br (some false), .reg [], .br (some true), .reg [], .cut { kill := [0, 1, 4, 7, 8, 9, 10, 18, 19], weak := [], adopt := [], adoptB := [], heapLen := 2, toks := [] }]) (todo' := loopAt Try.f37 0) (s' := F37.h0 c0 c1 c2 c3 c4 c5 args0 args1 args2 args3 args4 args5 0) (by kernel_rfl) (ob1 ho0 (ob1 ho1 ob0)) ca0 hk)
-- entry: to h1
theorem F37.p2 (c0 c1 c2 c3 c4 : Int) (c5 : List (List PV)) (args0 args1 args2 args3 args4 args5 : Int) {r : List AV} {h : List (List AV)} (ho0 : (c0 == 2) = false)
    (ho1 : (c0 == 3) = false)
    (ho2 : (c0 == 4) = true)
    (hk : EvK Try.prog prim Try.f37 (loopAt Try.f37 1) (F37.h1 c0 c1 c2 c3 c4 c5 args0 args1 args2 args3 args4 args5 0) r h) :
    EvF Try.prog prim 37 [.agg [.int .i64 c0, .int .i64 c1, .int .i64 c2, .int .u64 c3, .int .u64 c4, .sl c5], .agg [.int .u64 args0, .int .u64 args1, .int .u64 args2, .int .u64 args3, .int .u64 args4, .int .u64 args5]] [] [] r h :=
  EvF.of Try.func37 (EvK.cont (n := 25) (sc := [.reg [], .reg [{}, ⟨.auto, .h⟩], .reg [], .br (some false), .reg [], .br (some false), .reg [], .br (some true), .reg [], .cut { kill := [0, 1, 4, 7, 8, 9, 10, 18, 19, 35, 36], weak := [], adopt := [], adoptB := [], heapLen := 2, toks := [] }]) (todo' := loopAt Try.f37 1) (s' := F37.h1 c0 c1 c2 c3 c4 c5 args0 args1 args2 args3 args4 args5 0) (by kernel_rfl) (ob1 ho0 (ob1 ho1 (ob1 ho2 ob0))) ca0 hk)
-- entry: ret
theorem F37.p3 (c0 c1 c2 c3 c4 : Int) (c5 : List (List PV)) (args0 args1 args2 args3 args4 args5 y : Int) (compares : Bool) (ho0 : (c0 == 2) = false)
    (ho1 : (c0 == 3) = false)
    (ho2 : (c0 == 4) = false)
    (ho3 : (c0 == 5) = true)
    (ho4 : 0 ≤ c1 ∧ c1 < (6 : Nat))
    (ho5 : ([.v (.int .u64 args0), .v (.int .u64 args1), .v (.int .u64 args2), .v (.int .u64 args3), .v (.int .u64 args4), .v (.int .u64 args5)] : List AV)[(0 + Int.toNat c1 * 1)]? = some (.v (.int .u64 y)))
    (hc0 : EvF Try.prog prim 48 [.v (.int .i64 c2), .v (.int .u64 (IntKind.u64.wrap ((BitVec.ofInt 64 y &&& BitVec.ofInt 64 c3).toNat : Int))), .v (.int .u64 c4)] [] [] [.v (.bool compares)] []) :
    EvF Try.prog prim 37 [.agg [.int .i64 c0, .int .i64 c1, .int .i64 c2, .int .u64 c3, .int .u64 c4, .sl c5], .agg [.int .u64 args0, .int .u64 args1, .int .u64 args2, .int .u64 args3, .int .u64 args4, .int .u64 args5]] [] [] [.v (.bool compares)] [] :=
  EvF.of Try.func37 (EvK.done (n := 26) (sc := [.reg [], .reg [{}, ⟨.auto, .h⟩], .reg [], .br (some false), .reg [], .br (some false), .reg [], .br (some false), .reg [], .br (some true), .reg [{}, {}, ⟨.auto, .h⟩, {}, {}, ⟨.auto, .h⟩, ⟨.auto, .ob⟩, ⟨.auto, .cell (.v (.int .u64 y))⟩, {}, {}, ⟨.auto, .h⟩, {}, {}, {}, ⟨.auto, .h⟩, ⟨.auto, .call [] false [.v (.bool compares)]⟩]]) (by kernel_rfl) (ob1 ho0 (ob1 ho1 (ob1 ho2 (ob1 ho3 (ob1 ho4 (ob1 ho5 ob0)))))) (ca1 (fun _ : True => hc0) ca0))
-- entry: ret
theorem F37.p4 (c0 c1 c2 c3 c4 : Int) (c5 : List (List PV)) (args0 args1 args2 args3 args4 args5 : Int) (ho0 : (c0 == 2) = false)
    (ho1 : (c0 == 3) = false)
    (ho2 : (c0 == 4) = false)
    (ho3 : (c0 == 5) = false) :
    EvF Try.prog prim 37 [.agg [.int .i64 c0, .int .i64 c1, .int .i64 c2, .int .u64 c3, .int .u64 c4, .sl c5], .agg [.int .u64 args0, .int .u64 args1, .int .u64 args2, .int .u64 args3, .int .u64 args4, .int .u64 args5]] [] [] [.v (.bool true)] [] :=
  EvF.of Try.func37 (EvK.done (n := 28) (sc := [.reg [], .reg [{}, ⟨.auto, .h⟩], .reg [], .br (some false), .reg [], .br (some false), .reg [], .br (some false), .reg [], .br (some false), .reg []]) (by kernel_rfl) (ob1 ho0 (ob1 ho1 (ob1 ho2 (ob1 ho3 ob0)))) ca0)
-- h0: ret
theorem F37.l0_5 (c0 c1 c2 c3 c4 : Int) (c5 : List (List PV)) (args0 args1 args2 args3 args4 args5 i y0_2 y1_2 y2_2 y3_2 y4_2 : Int) (y5_2 : List (List PV)) (holds_2 : Bool) (ho0 : (decide (i < ((c5.length : Int)))) = true)
    (ho1 : (0 : Int) ≤ i)
    (ho2 : (c5 : List (List PV))[Int.toNat i]? = some [.int .i64 y0_2, .int .i64 y1_2, .int .i64 y2_2, .int .u64 y3_2, .int .u64 y4_2, .sl y5_2])
    (ho3 : (!holds_2) = true)
    (hc0 : EvF Try.prog prim 37 [.agg [.int .i64 y0_2, .int .i64 y1_2, .int .i64 y2_2, .int .u64 y3_2, .int .u64 y4_2, .sl y5_2], .agg [.int .u64 args0, .int .u64 args1, .int .u64 args2, .int .u64 args3, .int .u64 args4, .int .u64 args5]] [] [] [.v (.bool holds_2)] []) :
    EvK Try.prog prim Try.f37 (loopAt Try.f37 0) (F37.h0 c0 c1 c2 c3 c4 c5 args0 args1 args2 args3 args4 args5 i) [.v (.bool false)] [] :=
  EvK.done (n := 18) (sc := [.reg [{}, {}, ⟨.auto, .h⟩], .br (some true), .reg [{}, ⟨.auto, .h⟩, {}, ⟨.auto, .row [.int .i64 y0_2, .int .i64 y1_2, .int .i64 y2_2, .int .u64 y3_2, .int .u64 y4_2, .sl y5_2]⟩, {}, ⟨.auto, .h⟩, ⟨.auto, .call [] false [.v (.bool holds_2)]⟩], .br (some true), .reg []]) (by kernel_rfl) (ob1 ho0 (ob1 ho1 (ob1 ho2 (ob1 ho3 ob0)))) (ca1 (fun _ : True => hc0) ca0)
-- h0: to h0
theorem F37.l0_6 (c0 c1 c2 c3 c4 : Int) (c5 : List (List PV)) (args0 args1 args2 args3 args4 args5 i y0_2 y1_2 y2_2 y3_2 y4_2 : Int) (y5_2 : List (List PV)) (holds_2 : Bool) {r : List AV} {h : List (List AV)} (ho0 : (decide (i < ((c5.length : Int)))) = true)
    (ho1 : (0 : Int) ≤ i)
    (ho2 : (c5 : List (List PV))[Int.toNat i]? = some [.int .i64 y0_2, .int .i64 y1_2, .int .i64 y2_2, .int .u64 y3_2, .int .u64 y4_2, .sl y5_2])
    (ho3 : (!holds_2) = false)
    (ho4 : inR .i64 (i + 1))
    (hc0 : EvF Try.prog prim 37 [.agg [.int .i64 y0_2, .int .i64 y1_2, .int .i64 y2_2, .int .u64 y3_2, .int .u64 y4_2, .sl y5_2], .agg [.int .u64 args0, .int .u64 args1, .int .u64 args2, .int .u64 args3, .int .u64 args4, .int .u64 args5]] [] [] [.v (.bool holds_2)] [])
    (hk : EvK Try.prog prim Try.f37 (loopAt Try.f37 0) (F37.h0 c0 c1 c2 c3 c4 c5 args0 args1 args2 args3 args4 args5 ((i + 1))) r h) :
    EvK Try.prog prim Try.f37 (loopAt Try.f37 0) (F37.h0 c0 c1 c2 c3 c4 c5 args0 args1 args2 args3 args4 args5 i) r h :=
  EvK.cont (n := 19) (sc := [.reg [{}, {}, ⟨.auto, .h⟩], .br (some true), .reg [{}, ⟨.auto, .h⟩, {}, ⟨.auto, .row [.int .i64 y0_2, .int .i64 y1_2, .int .i64 y2_2, .int .u64 y3_2, .int .u64 y4_2, .sl y5_2]⟩, {}, ⟨.auto, .h⟩, ⟨.auto, .call [] false [.v (.bool holds_2)]⟩], .br (some false), .reg [{}, ⟨.auto, .nw⟩], .cut { kill := [20, 21, 22, 23, 24, 25, 26, 27, 28, 29, 30, 31, 32, 33, 34], weak := [], adopt := [], adoptB := [], heapLen := 2, toks := [] }]) (todo' := loopAt Try.f37 0) (s' := F37.h0 c0 c1 c2 c3 c4 c5 args0 args1 args2 args3 args4 args5 ((i + 1))) (by kernel_rfl) (ob1 ho0 (ob1 ho1 (ob1 ho2 (ob1 ho3 (ob1 ho4 ob0))))) (ca1 (fun _ : True => hc0) ca0) hk
-- h0: ret
theorem F37.l0_7 (c0 c1 c2 c3 c4 : Int) (c5 : List (List PV)) (args0 args1 args2 args3 args4 args5 i : Int) (ho0 : (decide (i < ((c5.length : Int)))) = false) :
    EvK Try.prog prim Try.f37 (loopAt Try.f37 0) (F37.h0 c0 c1 c2 c3 c4 c5 args0 args1 args2 args3 args4 args5 i) [.v (.bool true)] [] :=
  EvK.done (n := 13) (sc := [.reg [{}, {}, ⟨.auto, .h⟩], .br (some false), .reg []]) (by kernel_rfl) (ob1 ho0 ob0) ca0
-- h1: ret
theorem F37.l1_8 (c0 c1 c2 c3 c4 : Int) (c5 : List (List PV)) (args0 args1 args2 args3 args4 args5 i y0_2 y1_2 y2_2 y3_2 y4_2 : Int) (y5_2 : List (List PV)) (holds_2 : Bool) (ho0 : (decide (i < ((c5.length : Int)))) = true)
    (ho1 : (0 : Int) ≤ i)
    (ho2 : (c5 : List (List PV))[Int.toNat i]? = some [.int .i64 y0_2, .int .i64 y1_2, .int .i64 y2_2, .int .u64 y3_2, .int .u64 y4_2, .sl y5_2])
    (ho3 : holds_2 = true)
    (hc0 : EvF Try.prog prim 37 [.agg [.int .i64 y0_2, .int .i64 y1_2, .int .i64 y2_2, .int .u64 y3_2, .int .u64 y4_2, .sl y5_2], .agg [.int .u64 args0, .int .u64 args1, .int .u64 args2, .int .u64 args3, .int .u64 args4, .int .u64 args5]] [] [] [.v (.bool holds_2)] []) :
    EvK Try.prog prim Try.f37 (loopAt Try.f37 1) (F37.h1 c0 c1 c2 c3 c4 c5 args0 args1 args2 args3 args4 args5 i) [.v (.bool true)] [] :=
  EvK.done (n := 18) (sc := [.reg [{}, {}, ⟨.auto, .h⟩], .br (some true), .reg [{}, ⟨.auto, .h⟩, {}, ⟨.auto, .row [.int .i64 y0_2, .int .i64 y1_2, .int .i64 y2_2, .int .u64 y3_2, .int .u64 y4_2, .sl y5_2]⟩, {}, ⟨.auto, .h⟩, ⟨.auto, .call [] false [.v (.bool holds_2)]⟩], .br (some true), .reg []]) (by kernel_rfl) (ob1 ho0 (ob1 ho1 (ob1 ho2 (ob1 ho3 ob0)))) (ca1 (fun _ : True => hc0) ca0)
-- h1: to h1
theorem F37.l1_9 (c0 c1 c2 c3 c4 : Int) (c5 : List (List PV)) (args0 args1 args2 args3 args4 args5 i y0_2 y1_2 y2_2 y3_2 y4_2 : Int) (y5_2 : List (List PV)) (holds_2 : Bool) {r : List AV} {h : List (List AV)} (ho0 : (decide (i < ((c5.length : Int)))) = true)
    (ho1 : (0 : Int) ≤ i)
    (ho2 : (c5 : List (List PV))[Int.toNat i]? = some [.int .i64 y0_2, .int .i64 y1_2, .int .i64 y2_2, .int .u64 y3_2, .int .u64 y4_2, .sl y5_2])
    (ho3 : holds_2 = false)
    (ho4 : inR .i64 (i + 1))
    (hc0 : EvF Try.prog prim 37 [.agg [.int .i64 y0_2, .int .i64 y1_2, .int .i64 y2_2, .int .u64 y3_2, .int .u64 y4_2, .sl y5_2], .agg [.int .u64 args0, .int .u64 args1, .int .u64 args2, .int .u64 args3, .int .u64 args4, .int .u64 args5]] [] [] [.v (.bool holds_2)] [])
    (hk : EvK Try.prog prim Try.f37 (loopAt Try.f37 1) (F37.h1 c0 c1 c2 c3 c4 c5 args0 args1 args2 args3 args4 args5 ((i + 1))) r h) :
    EvK Try.prog prim Try.f37 (loopAt Try.f37 1) (F37.h1 c0 c1 c2 c3 c4 c5 args0 args1 args2 args3 args4 args5 i) r h :=
  EvK.cont (n := 19) (sc := [.reg [{}, {}, ⟨.auto, .h⟩], .br (some true), .reg [{}, ⟨.auto, .h⟩, {}, ⟨.auto, .row [.int .i64 y0_2, .int .i64 y1_2, .int .i64 y2_2, .int .u64 y3_2, .int .u64 y4_2, .sl y5_2]⟩, {}, ⟨.auto, .h⟩, ⟨.auto, .call [] false [.v (.bool holds_2)]⟩], .br (some false), .reg [{}, ⟨.auto, .nw⟩], .cut { kill := [37, 38, 39, 40, 41, 42, 43, 44, 45, 46, 47, 48, 49, 50], weak := [], adopt := [], adoptB := [], heapLen := 2, toks := [] }]) (todo' := loopAt Try.f37 1) (s' := F37.h1 c0 c1 c2 c3 c4 c5 args0 args1 args2 args3 args4 args5 ((i + 1))) (by kernel_rfl) (ob1 ho0 (ob1 ho1 (ob1 ho2 (ob1 ho3 (ob1 ho4 ob0))))) (ca1 (fun _ : True => hc0) ca0) hk
-- h1: ret
theorem F37.l1_10 (c0 c1 c2 c3 c4 : Int) (c5 : List (List PV)) (args0 args1 args2 args3 args4 args5 i : Int) (ho0 : (decide (i < ((c5.length : Int)))) = false) :
    EvK Try.prog prim Try.f37 (loopAt Try.f37 1) (F37.h1 c0 c1 c2 c3 c4 c5 args0 args1 args2 args3 args4 args5 i) [.v (.bool false)] [] :=
  EvK.done (n := 13) (sc := [.reg [{}, {}, ⟨.auto, .h⟩], .br (some false), .reg []]) (by kernel_rfl) (ob1 ho0 ob0) ca0
end Go.Ab.S1
