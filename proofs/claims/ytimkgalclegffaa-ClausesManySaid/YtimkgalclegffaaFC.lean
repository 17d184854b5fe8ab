/-
The paths of the functions 9, 10, 11, 29, 30, 31, 32, 43, 44, 54, 56, 58, as the evaluator goes them: printed by a program.
-/
import Derived.Test.YtimkgalclegffaaBase
namespace Go.Ab.S1
open Go Go.Proofs Go.Ab
set_option maxRecDepth 100000
/-! ### tipstaff/tipstafflaw19.ClausesTell (function 9) -/
def F9.h0 (c0 c1 c2 c3 c4 : Int) (c5 of0 clauses0 : List (List PV)) (i : Int) : St :=
  { tmps := [.none, .none, .none, .none, .v (.sl of0), .none, .v (.sl clauses0), .none, .v (.int .i64 i), .none, .none, .none, .none, .none, .none, .none, .none, .none, .none, .none, .none, .none, .none, .none, .none, .none, .none, .none, .none, .none, .none, .none, .none, .none, .none, .none, .none, .none, .none, .none, .none, .none, .none, .none, .none, .none, .none, .none, .none, .none, .none, .none, .none, .none, .none, .none, .none, .none, .none, .none, .none, .none, .none, .none, .none, .none, .none, .none, .none, .none, .none, .none, .none, .none, .none, .none, .none, .none, .none, .none, .none], toks := [], outer := [], heap := [[.v (.int .i64 c0), .v (.int .i64 c1), .v (.int .i64 c2), .v (.int .u64 c3), .v (.int .u64 c4), .v (.sl c5)]] }
def F9.h1 (c0 c1 c2 c3 c4 : Int) (c5 of0 clauses0 : List (List PV)) (k i_1 : Int) : St :=
  { tmps := [.none, .none, .none, .none, .v (.sl of0), .none, .v (.sl clauses0), .none, .v (.int .i64 i_1), .v (.int .i64 k), .none, .none, .none, .none, .none, .none, .none, .none, .none, .none, .none, .none, .none, .none, .none, .none, .none, .none, .none, .none, .none, .none, .none, .none, .none, .none, .none, .none, .none, .none, .none, .none, .none, .none, .none, .none, .none, .none, .none, .none, .none, .none, .none, .none, .none, .none, .none, .none, .none, .none, .none, .none, .none, .none, .none, .none, .none, .none, .none, .none, .none, .none, .none, .none, .none, .none, .none, .none, .none, .none, .none], toks := [], outer := [], heap := [[.v (.int .i64 c0), .v (.int .i64 c1), .v (.int .i64 c2), .v (.int .u64 c3), .v (.int .u64 c4), .v (.sl c5)]] }
-- entry: ret
theorem F9.p0 (c0 c1 c2 c3 c4 : Int) (c5 : List (List PV)) (alive few : Bool) (ho0 : (bif (!alive) then true else (!few)) = true)
    (hc0 : EvF Try.prog prim 29 [] [] [] [.v (.bool alive)] [])
    (hc1 : (!(!alive)) = true → EvF Try.prog prim 13 [.agg [.int .i64 c0, .int .i64 c1, .int .i64 c2, .int .u64 c3, .int .u64 c4, .sl c5]] [] [] [.v (.bool few)] []) :
    EvF Try.prog prim 9 [.agg [.int .i64 c0, .int .i64 c1, .int .i64 c2, .int .u64 c3, .int .u64 c4, .sl c5]] [] [] [.v (.bool alive)] [] :=
  EvF.of Try.func9 (EvK.done (n := 71) (sc := [.reg [], .reg [⟨.auto, .call [] false [.v (.bool alive)]⟩], .reg [{}, {}, {}, ⟨.spec, .h⟩, ⟨.spec, .call [] false [.v (.bool few)]⟩, ⟨.spec, .d⟩], .br (some true), .reg []]) (by kernel_rfl) (ob1 (show (!(!alive)) = true → (!(!alive)) = true from idG (!(!alive))) (ob1 (show (!(!alive)) = true → (!(!alive)) = true from idG (!(!alive))) (ob1 (show (!alive) = false → (!(!alive)) = true from notF) (ob1 ho0 ob0)))) (ca1 (fun _ : True => hc0) (ca1 (fun g : (!(!alive)) = true ∧ True => hc1 g.1) ca0)))
-- entry: ret
theorem F9.p1 (c0 c1 c2 c3 c4 : Int) (c5 : List (List PV)) (alive few : Bool) (of0 : List (List PV)) (of1 : Int) (clauses0 : List (List PV)) (clauses1 num : Int) (ho0 : (bif (!alive) then true else (!few)) = false)
    (ho1 : (bif (num != clauses1) then true else (((of0.length : Int)) != ((clauses0.length : Int)))) = true)
    (hc0 : EvF Try.prog prim 29 [] [] [] [.v (.bool alive)] [])
    (hc1 : (!(!alive)) = true → EvF Try.prog prim 13 [.agg [.int .i64 c0, .int .i64 c1, .int .i64 c2, .int .u64 c3, .int .u64 c4, .sl c5]] [] [] [.v (.bool few)] [])
    (hc2 : EvF Try.prog prim 30 [.agg [.int .i64 c0, .int .i64 c1, .int .i64 c2, .int .u64 c3, .int .u64 c4, .sl c5]] [] [] [.v (.sl of0), .v (.int .i64 of1)] [])
    (hc3 : EvF Try.prog prim 31 [.agg [.int .i64 c0, .int .i64 c1, .int .i64 c2, .int .u64 c3, .int .u64 c4, .sl c5]] [] [] [.v (.sl clauses0), .v (.int .i64 clauses1)] [])
    (hc4 : EvF Try.prog prim 32 [.v (.int .i64 of1)] [] [] [.v (.int .i64 num)] []) :
    EvF Try.prog prim 9 [.agg [.int .i64 c0, .int .i64 c1, .int .i64 c2, .int .u64 c3, .int .u64 c4, .sl c5]] [] [] [.v (.bool false)] [] :=
  EvF.of Try.func9 (EvK.done (n := 80) (sc := [.reg [], .reg [⟨.auto, .call [] false [.v (.bool alive)]⟩], .reg [{}, {}, {}, ⟨.spec, .h⟩, ⟨.spec, .call [] false [.v (.bool few)]⟩, ⟨.spec, .d⟩], .br (some false), .reg [⟨.auto, .h⟩, ⟨.auto, .call [] false [.v (.sl of0), .v (.int .i64 of1)]⟩], .reg [⟨.auto, .h⟩, ⟨.auto, .call [] false [.v (.sl clauses0), .v (.int .i64 clauses1)]⟩], .reg [{}, ⟨.auto, .call [] false [.v (.int .i64 num)]⟩, {}, {}, {}, ⟨.spec, .d⟩, ⟨.spec, .d⟩, ⟨.spec, .d⟩, ⟨.spec, .d⟩, ⟨.spec, .d⟩], .br (some true), .reg []]) (by kernel_rfl) (ob1 (show (!(!alive)) = true → (!(!alive)) = true from idG (!(!alive))) (ob1 (show (!(!alive)) = true → (!(!alive)) = true from idG (!(!alive))) (ob1 (show (!alive) = false → (!(!alive)) = true from notF) (ob1 ho0 (ob1 (show (!(num != clauses1)) = true → (!(num != clauses1)) = true from idG (!(num != clauses1))) (ob1 (show (!(num != clauses1)) = true → (!(num != clauses1)) = true from idG (!(num != clauses1))) (ob1 (show (!(num != clauses1)) = true → (!(num != clauses1)) = true from idG (!(num != clauses1))) (ob1 (show (!(num != clauses1)) = true → (!(num != clauses1)) = true from idG (!(num != clauses1))) (ob1 (show (num != clauses1) = false → (!(num != clauses1)) = true from notF) (ob1 ho1 ob0)))))))))) (ca1 (fun _ : True => hc0) (ca1 (fun g : (!(!alive)) = true ∧ True => hc1 g.1) (ca1 (fun _ : True => hc2) (ca1 (fun _ : True => hc3) (ca1 (fun _ : True => hc4) ca0))))))
-- entry: to h0
theorem F9.p2 (c0 c1 c2 c3 c4 : Int) (c5 : List (List PV)) (alive few : Bool) (of0 : List (List PV)) (of1 : Int) (clauses0 : List (List PV)) (clauses1 num : Int) {r : List AV} {h : List (List AV)} (ho0 : (bif (!alive) then true else (!few)) = false)
    (ho1 : (bif (num != clauses1) then true else (((of0.length : Int)) != ((clauses0.length : Int)))) = false)
    (hc0 : EvF Try.prog prim 29 [] [] [] [.v (.bool alive)] [])
    (hc1 : (!(!alive)) = true → EvF Try.prog prim 13 [.agg [.int .i64 c0, .int .i64 c1, .int .i64 c2, .int .u64 c3, .int .u64 c4, .sl c5]] [] [] [.v (.bool few)] [])
    (hc2 : EvF Try.prog prim 30 [.agg [.int .i64 c0, .int .i64 c1, .int .i64 c2, .int .u64 c3, .int .u64 c4, .sl c5]] [] [] [.v (.sl of0), .v (.int .i64 of1)] [])
    (hc3 : EvF Try.prog prim 31 [.agg [.int .i64 c0, .int .i64 c1, .int .i64 c2, .int .u64 c3, .int .u64 c4, .sl c5]] [] [] [.v (.sl clauses0), .v (.int .i64 clauses1)] [])
    (hc4 : EvF Try.prog prim 32 [.v (.int .i64 of1)] [] [] [.v (.int .i64 num)] [])
    (hk : EvK Try.prog prim Try.f9 (loopAt Try.f9 0) (F9.h0 c0 c1 c2 c3 c4 c5 of0 clauses0 0) r h) :
    EvF Try.prog prim 9 [.agg [.int .i64 c0, .int .i64 c1, .int .i64 c2, .int .u64 c3, .int .u64 c4, .sl c5]] [] [] r h :=
  EvF.of Try.func9 (EvK.cont (n := 83) (sc := [.reg [], .reg [⟨.auto, .call [] false [.v (.bool alive)]⟩], .reg [{}, {}, {}, ⟨.spec, .h⟩, ⟨.spec, .call [] false [.v (.bool few)]⟩, ⟨.spec, .d⟩], .br (some false), .reg [⟨.auto, .h⟩, ⟨.auto, .call [] false [.v (.sl of0), .v (.int .i64 of1)]⟩], .reg [⟨.auto, .h⟩, ⟨.auto, .call [] false [.v (.sl clauses0), .v (.int .i64 clauses1)]⟩], .reg [{}, ⟨.auto, .call [] false [.v (.int .i64 num)]⟩, {}, {}, {}, ⟨.spec, .d⟩, ⟨.spec, .d⟩, ⟨.spec, .d⟩, ⟨.spec, .d⟩, ⟨.spec, .d⟩], .br (some false), .reg [], .cut { kill := [0, 1, 2, 3, 5, 7, 10, 11, 12, 13, 14, 15, 16, 17, 19, 20, 21, 22, 23, 24, 25, 26, 27, 28, 29, 30, 31, 32, 33, 34, 35, 36, 37, 38, 39], weak := [], adopt := [], adoptB := [], heapLen := 1, toks := [] }]) (todo' := loopAt Try.f9 0) (s' := F9.h0 c0 c1 c2 c3 c4 c5 of0 clauses0 0) (by kernel_rfl) (ob1 (show (!(!alive)) = true → (!(!alive)) = true from idG (!(!alive))) (ob1 (show (!(!alive)) = true → (!(!alive)) = true from idG (!(!alive))) (ob1 (show (!alive) = false → (!(!alive)) = true from notF) (ob1 ho0 (ob1 (show (!(num != clauses1)) = true → (!(num != clauses1)) = true from idG (!(num != clauses1))) (ob1 (show (!(num != clauses1)) = true → (!(num != clauses1)) = true from idG (!(num != clauses1))) (ob1 (show (!(num != clauses1)) = true → (!(num != clauses1)) = true from idG (!(num != clauses1))) (ob1 (show (!(num != clauses1)) = true → (!(num != clauses1)) = true from idG (!(num != clauses1))) (ob1 (show (num != clauses1) = false → (!(num != clauses1)) = true from notF) (ob1 ho1 ob0)))))))))) (ca1 (fun _ : True => hc0) (ca1 (fun g : (!(!alive)) = true ∧ True => hc1 g.1) (ca1 (fun _ : True => hc2) (ca1 (fun _ : True => hc3) (ca1 (fun _ : True => hc4) ca0))))) hk)
-- h0: ret
theorem F9.l0_3 (c0 c1 c2 c3 c4 : Int) (c5 of0 clauses0 : List (List PV)) (i : Int) (y0_11 y0_12 : List (List PV)) (ho0 : (decide (i < ((of0.length : Int)))) = true)
    (ho1 : (0 : Int) ≤ i)
    (ho2 : (of0 : List (List PV))[Int.toNat i]? = some [.sl y0_11])
    (ho3 : (clauses0 : List (List PV))[Int.toNat i]? = some [.sl y0_12])
    (ho4 : (((y0_11.length : Int)) != ((y0_12.length : Int))) = true) :
    EvK Try.prog prim Try.f9 (loopAt Try.f9 0) (F9.h0 c0 c1 c2 c3 c4 c5 of0 clauses0 i) [.v (.bool false)] [] :=
  EvK.done (n := 74) (sc := [.reg [], .br (some true), .reg [{}, {}, ⟨.auto, .row [.sl y0_11]⟩, {}, {}, {}, {}, ⟨.auto, .row [.sl y0_12]⟩], .br (some true), .reg []]) (by kernel_rfl) (ob1 ho0 (ob1 ho1 (ob1 ho2 (ob1 ho1 (ob1 ho3 (ob1 ho4 ob0)))))) ca0
-- h0: to h1
theorem F9.l0_4 (c0 c1 c2 c3 c4 : Int) (c5 of0 clauses0 : List (List PV)) (i : Int) (y0_11 y0_12 : List (List PV)) {r : List AV} {h : List (List AV)} (ho0 : (decide (i < ((of0.length : Int)))) = true)
    (ho1 : (0 : Int) ≤ i)
    (ho2 : (of0 : List (List PV))[Int.toNat i]? = some [.sl y0_11])
    (ho3 : (clauses0 : List (List PV))[Int.toNat i]? = some [.sl y0_12])
    (ho4 : (((y0_11.length : Int)) != ((y0_12.length : Int))) = false)
    (hk : EvK Try.prog prim Try.f9 (loopAt Try.f9 1) (F9.h1 c0 c1 c2 c3 c4 c5 of0 clauses0 0 i) r h) :
    EvK Try.prog prim Try.f9 (loopAt Try.f9 0) (F9.h0 c0 c1 c2 c3 c4 c5 of0 clauses0 i) r h :=
  EvK.cont (n := 76) (sc := [.reg [], .br (some true), .reg [{}, {}, ⟨.auto, .row [.sl y0_11]⟩, {}, {}, {}, {}, ⟨.auto, .row [.sl y0_12]⟩], .br (some false), .reg [], .cut { kill := [40, 41, 42, 43, 46, 47, 48, 49, 50, 51, 52, 53, 54, 55, 56], weak := [], adopt := [], adoptB := [], heapLen := 1, toks := [] }]) (todo' := loopAt Try.f9 1) (s' := F9.h1 c0 c1 c2 c3 c4 c5 of0 clauses0 0 i) (by kernel_rfl) (ob1 ho0 (ob1 ho1 (ob1 ho2 (ob1 ho1 (ob1 ho3 (ob1 ho4 ob0)))))) ca0 hk
-- h0: ret
theorem F9.l0_5 (c0 c1 c2 c3 c4 : Int) (c5 of0 clauses0 : List (List PV)) (i : Int) (ho0 : (decide (i < ((of0.length : Int)))) = false) :
    EvK Try.prog prim Try.f9 (loopAt Try.f9 0) (F9.h0 c0 c1 c2 c3 c4 c5 of0 clauses0 i) [.v (.bool true)] [] :=
  EvK.done (n := 68) (sc := [.reg [], .br (some false), .reg []]) (by kernel_rfl) (ob1 ho0 ob0) ca0
-- h1: ret
theorem F9.l1_6 (c0 c1 c2 c3 c4 : Int) (c5 of0 clauses0 : List (List PV)) (k i_1 : Int) (y0_14 : List (List PV)) (y0_15 y1_6 y2_6 y3_6 : Int) (y0_16 : List (List PV)) (y0_17 y1_7 y2_7 y3_7 : Int) (ho0 : (0 : Int) ≤ i_1)
    (ho1 : (of0 : List (List PV))[Int.toNat i_1]? = some [.sl y0_14])
    (ho2 : (decide (k < ((y0_14.length : Int)))) = true)
    (ho3 : (0 : Int) ≤ k)
    (ho4 : (y0_14 : List (List PV))[Int.toNat k]? = some [.int .i64 y0_15, .int .i64 y1_6, .int .u64 y2_6, .int .u64 y3_6])
    (ho5 : (clauses0 : List (List PV))[Int.toNat i_1]? = some [.sl y0_16])
    (ho6 : (y0_16 : List (List PV))[Int.toNat k]? = some [.int .i64 y0_17, .int .i64 y1_7, .int .u64 y2_7, .int .u64 y3_7])
    (ho7 : (!((y0_15 == y0_17) && ((y1_6 == y1_7) && ((y2_6 == y2_7) && ((y3_6 == y3_7) && true))))) = true) :
    EvK Try.prog prim Try.f9 (loopAt Try.f9 1) (F9.h1 c0 c1 c2 c3 c4 c5 of0 clauses0 k i_1) [.v (.bool false)] [] :=
  EvK.done (n := 73) (sc := [.reg [{}, {}, {}, ⟨.auto, .row [.sl y0_14]⟩], .br (some true), .reg [{}, {}, ⟨.auto, .row [.sl y0_14]⟩, {}, {}, ⟨.auto, .row [.int .i64 y0_15, .int .i64 y1_6, .int .u64 y2_6, .int .u64 y3_6]⟩, {}, {}, {}, ⟨.auto, .row [.sl y0_16]⟩, {}, {}, ⟨.auto, .row [.int .i64 y0_17, .int .i64 y1_7, .int .u64 y2_7, .int .u64 y3_7]⟩], .br (some true), .reg []]) (by kernel_rfl) (ob1 ho0 (ob1 ho1 (ob1 ho2 (ob1 ho0 (ob1 ho1 (ob1 ho3 (ob1 ho4 (ob1 ho0 (ob1 ho5 (ob1 ho3 (ob1 ho6 (ob1 ho7 ob0)))))))))))) ca0
-- h1: to h1
theorem F9.l1_7 (c0 c1 c2 c3 c4 : Int) (c5 of0 clauses0 : List (List PV)) (k i_1 : Int) (y0_14 : List (List PV)) (y0_15 y1_6 y2_6 y3_6 : Int) (y0_16 : List (List PV)) (y0_17 y1_7 y2_7 y3_7 : Int) {r : List AV} {h : List (List AV)} (ho0 : (0 : Int) ≤ i_1)
    (ho1 : (of0 : List (List PV))[Int.toNat i_1]? = some [.sl y0_14])
    (ho2 : (decide (k < ((y0_14.length : Int)))) = true)
    (ho3 : (0 : Int) ≤ k)
    (ho4 : (y0_14 : List (List PV))[Int.toNat k]? = some [.int .i64 y0_15, .int .i64 y1_6, .int .u64 y2_6, .int .u64 y3_6])
    (ho5 : (clauses0 : List (List PV))[Int.toNat i_1]? = some [.sl y0_16])
    (ho6 : (y0_16 : List (List PV))[Int.toNat k]? = some [.int .i64 y0_17, .int .i64 y1_7, .int .u64 y2_7, .int .u64 y3_7])
    (ho7 : (!((y0_15 == y0_17) && ((y1_6 == y1_7) && ((y2_6 == y2_7) && ((y3_6 == y3_7) && true))))) = false)
    (ho8 : inR .i64 (k + 1))
    (hk : EvK Try.prog prim Try.f9 (loopAt Try.f9 1) (F9.h1 c0 c1 c2 c3 c4 c5 of0 clauses0 ((k + 1)) i_1) r h) :
    EvK Try.prog prim Try.f9 (loopAt Try.f9 1) (F9.h1 c0 c1 c2 c3 c4 c5 of0 clauses0 k i_1) r h :=
  EvK.cont (n := 74) (sc := [.reg [{}, {}, {}, ⟨.auto, .row [.sl y0_14]⟩], .br (some true), .reg [{}, {}, ⟨.auto, .row [.sl y0_14]⟩, {}, {}, ⟨.auto, .row [.int .i64 y0_15, .int .i64 y1_6, .int .u64 y2_6, .int .u64 y3_6]⟩, {}, {}, {}, ⟨.auto, .row [.sl y0_16]⟩, {}, {}, ⟨.auto, .row [.int .i64 y0_17, .int .i64 y1_7, .int .u64 y2_7, .int .u64 y3_7]⟩], .br (some false), .reg [{}, ⟨.auto, .nw⟩], .cut { kill := [57, 58, 59, 60, 61, 62, 63, 64, 65, 66, 67, 68, 69, 70, 71, 72, 73, 74, 75, 76, 77, 78, 79, 80], weak := [], adopt := [], adoptB := [], heapLen := 1, toks := [] }]) (todo' := loopAt Try.f9 1) (s' := F9.h1 c0 c1 c2 c3 c4 c5 of0 clauses0 ((k + 1)) i_1) (by kernel_rfl) (ob1 ho0 (ob1 ho1 (ob1 ho2 (ob1 ho0 (ob1 ho1 (ob1 ho3 (ob1 ho4 (ob1 ho0 (ob1 ho5 (ob1 ho3 (ob1 ho6 (ob1 ho7 (ob1 ho8 ob0))))))))))))) ca0 hk
-- h1: to h0
theorem F9.l1_8 (c0 c1 c2 c3 c4 : Int) (c5 of0 clauses0 : List (List PV)) (k i_1 : Int) (y0_14 : List (List PV)) {r : List AV} {h : List (List AV)} (ho0 : (0 : Int) ≤ i_1)
    (ho1 : (of0 : List (List PV))[Int.toNat i_1]? = some [.sl y0_14])
    (ho2 : (decide (k < ((y0_14.length : Int)))) = false)
    (ho3 : inR .i64 (i_1 + 1))
    (hk : EvK Try.prog prim Try.f9 (loopAt Try.f9 0) (F9.h0 c0 c1 c2 c3 c4 c5 of0 clauses0 ((i_1 + 1))) r h) :
    EvK Try.prog prim Try.f9 (loopAt Try.f9 1) (F9.h1 c0 c1 c2 c3 c4 c5 of0 clauses0 k i_1) r h :=
  EvK.cont (n := 68) (sc := [.reg [{}, {}, {}, ⟨.auto, .row [.sl y0_14]⟩], .br (some false), .reg [{}, ⟨.auto, .nw⟩], .cut { kill := [9, 44, 45, 57, 58, 59, 60, 61, 62, 63], weak := [], adopt := [], adoptB := [], heapLen := 1, toks := [] }]) (todo' := loopAt Try.f9 0) (s' := F9.h0 c0 c1 c2 c3 c4 c5 of0 clauses0 ((i_1 + 1))) (by kernel_rfl) (ob1 ho0 (ob1 ho1 (ob1 ho2 (ob1 ho3 ob0)))) ca0 hk
/-! ### tipstaff/tipstafflaw19.ClausesMean (function 10) -/
def F10.h0 (c0 c1 c2 c3 c4 : Int) (c5 : List (List PV)) (args0 args1 args2 args3 args4 args5 : Int) (of0 : List (List PV)) (some_ : Bool) (i : Int) : St :=
  { tmps := [.none, .none, .ptr 0 0, .ptr 1 0, .none, .none, .v (.sl of0), .none, .v (.bool some_), .v (.int .i64 i), .none, .none, .none, .none, .none, .none, .none, .none, .none, .none, .none, .none, .none, .none, .none, .none, .none, .none, .none, .none, .none, .none, .none, .none, .none, .none, .none, .none, .none, .none, .none, .none, .none, .none, .none, .none, .none, .none, .none, .none, .none, .none, .none, .none, .none, .none, .none, .none, .none, .none, .none, .none, .none, .none, .none, .none, .none, .none, .none, .none, .none, .none, .none, .none], toks := [], outer := [], heap := [[.v (.int .i64 c0), .v (.int .i64 c1), .v (.int .i64 c2), .v (.int .u64 c3), .v (.int .u64 c4), .v (.sl c5)], [.v (.int .u64 args0), .v (.int .u64 args1), .v (.int .u64 args2), .v (.int .u64 args3), .v (.int .u64 args4), .v (.int .u64 args5)]] }
def F10.h1 (c0 c1 c2 c3 c4 : Int) (c5 : List (List PV)) (args0 args1 args2 args3 args4 args5 : Int) (of0 : List (List PV)) (ok : Bool) (k : Int) (some__1 : Bool) (i_1 : Int) : St :=
  { tmps := [.none, .none, .ptr 0 0, .ptr 1 0, .none, .none, .v (.sl of0), .none, .v (.bool some__1), .v (.int .i64 i_1), .v (.bool ok), .v (.int .i64 k), .none, .none, .none, .none, .none, .none, .none, .none, .none, .none, .none, .none, .none, .none, .none, .none, .none, .none, .none, .none, .none, .none, .none, .none, .none, .none, .none, .none, .none, .none, .none, .none, .none, .none, .none, .none, .none, .none, .none, .none, .none, .none, .none, .none, .none, .none, .none, .none, .none, .none, .none, .none, .none, .none, .none, .none, .none, .none, .none, .none, .none, .none], toks := [], outer := [], heap := [[.v (.int .i64 c0), .v (.int .i64 c1), .v (.int .i64 c2), .v (.int .u64 c3), .v (.int .u64 c4), .v (.sl c5)], [.v (.int .u64 args0), .v (.int .u64 args1), .v (.int .u64 args2), .v (.int .u64 args3), .v (.int .u64 args4), .v (.int .u64 args5)]] }
-- entry: ret
theorem F10.p0 (c0 c1 c2 c3 c4 : Int) (c5 : List (List PV)) (args0 args1 args2 args3 args4 args5 : Int) (alive few rightcond : Bool) (ho0 : (bif (bif (!alive) then true else (!few)) then true else (!rightcond)) = true)
    (hc0 : EvF Try.prog prim 29 [] [] [] [.v (.bool alive)] [])
    (hc1 : (!(!alive)) = true → EvF Try.prog prim 13 [.agg [.int .i64 c0, .int .i64 c1, .int .i64 c2, .int .u64 c3, .int .u64 c4, .sl c5]] [] [] [.v (.bool few)] [])
    (hc2 : (!(bif (!alive) then true else (!few))) = true → EvF Try.prog prim 18 [.agg [.int .i64 c0, .int .i64 c1, .int .i64 c2, .int .u64 c3, .int .u64 c4, .sl c5]] [] [] [.v (.bool rightcond)] []) :
    EvF Try.prog prim 10 [.agg [.int .i64 c0, .int .i64 c1, .int .i64 c2, .int .u64 c3, .int .u64 c4, .sl c5], .agg [.int .u64 args0, .int .u64 args1, .int .u64 args2, .int .u64 args3, .int .u64 args4, .int .u64 args5]] [] [] [.v (.bool alive)] [] :=
  EvF.of Try.func10 (EvK.done (n := 71) (sc := [.reg [], .reg [⟨.auto, .call [] false [.v (.bool alive)]⟩], .reg [{}, {}, {}, ⟨.spec, .h⟩, ⟨.spec, .call [] false [.v (.bool few)]⟩, ⟨.spec, .d⟩, {}, {}, ⟨.spec, .h⟩, ⟨.spec, .call [] false [.v (.bool rightcond)]⟩, ⟨.spec, .d⟩], .br (some true), .reg []]) (by kernel_rfl) (ob1 (show (!(!alive)) = true → (!(!alive)) = true from idG (!(!alive))) (ob1 (show (!(!alive)) = true → (!(!alive)) = true from idG (!(!alive))) (ob1 (show (!alive) = false → (!(!alive)) = true from notF) (ob1 (show (!(bif (!alive) then true else (!few))) = true → (!(bif (!alive) then true else (!few))) = true from idG (!(bif (!alive) then true else (!few)))) (ob1 (show (!(bif (!alive) then true else (!few))) = true → (!(bif (!alive) then true else (!few))) = true from idG (!(bif (!alive) then true else (!few)))) (ob1 (show (bif (!alive) then true else (!few)) = false → (!(bif (!alive) then true else (!few))) = true from notF) (ob1 ho0 ob0))))))) (ca1 (fun _ : True => hc0) (ca1 (fun g : (!(!alive)) = true ∧ True => hc1 g.1) (ca1 (fun g : (!(bif (!alive) then true else (!few))) = true ∧ True => hc2 g.1) ca0))))
-- entry: ret
theorem F10.p1 (c0 c1 c2 c3 c4 : Int) (c5 : List (List PV)) (args0 args1 args2 args3 args4 args5 : Int) (alive few rightcond : Bool) (of0 : List (List PV)) (of1 num num_1 : Int) (ho0 : (bif (bif (!alive) then true else (!few)) then true else (!rightcond)) = false)
    (ho1 : (num != 0) = true)
    (hc0 : EvF Try.prog prim 29 [] [] [] [.v (.bool alive)] [])
    (hc1 : (!(!alive)) = true → EvF Try.prog prim 13 [.agg [.int .i64 c0, .int .i64 c1, .int .i64 c2, .int .u64 c3, .int .u64 c4, .sl c5]] [] [] [.v (.bool few)] [])
    (hc2 : (!(bif (!alive) then true else (!few))) = true → EvF Try.prog prim 18 [.agg [.int .i64 c0, .int .i64 c1, .int .i64 c2, .int .u64 c3, .int .u64 c4, .sl c5]] [] [] [.v (.bool rightcond)] [])
    (hc3 : EvF Try.prog prim 30 [.agg [.int .i64 c0, .int .i64 c1, .int .i64 c2, .int .u64 c3, .int .u64 c4, .sl c5]] [] [] [.v (.sl of0), .v (.int .i64 of1)] [])
    (hc4 : EvF Try.prog prim 32 [.v (.int .i64 of1)] [] [] [.v (.int .i64 num)] [])
    (hc5 : EvF Try.prog prim 32 [.v (.int .i64 of1)] [] [] [.v (.int .i64 num_1)] []) :
    EvF Try.prog prim 10 [.agg [.int .i64 c0, .int .i64 c1, .int .i64 c2, .int .u64 c3, .int .u64 c4, .sl c5], .agg [.int .u64 args0, .int .u64 args1, .int .u64 args2, .int .u64 args3, .int .u64 args4, .int .u64 args5]] [] [] [.v (.bool (num_1 == 9))] [] :=
  EvF.of Try.func10 (EvK.done (n := 78) (sc := [.reg [], .reg [⟨.auto, .call [] false [.v (.bool alive)]⟩], .reg [{}, {}, {}, ⟨.spec, .h⟩, ⟨.spec, .call [] false [.v (.bool few)]⟩, ⟨.spec, .d⟩, {}, {}, ⟨.spec, .h⟩, ⟨.spec, .call [] false [.v (.bool rightcond)]⟩, ⟨.spec, .d⟩], .br (some false), .reg [⟨.auto, .h⟩, ⟨.auto, .call [] false [.v (.sl of0), .v (.int .i64 of1)]⟩], .reg [{}, ⟨.auto, .call [] false [.v (.int .i64 num)]⟩], .br (some true), .reg [{}, ⟨.auto, .call [] false [.v (.int .i64 num_1)]⟩]]) (by kernel_rfl) (ob1 (show (!(!alive)) = true → (!(!alive)) = true from idG (!(!alive))) (ob1 (show (!(!alive)) = true → (!(!alive)) = true from idG (!(!alive))) (ob1 (show (!alive) = false → (!(!alive)) = true from notF) (ob1 (show (!(bif (!alive) then true else (!few))) = true → (!(bif (!alive) then true else (!few))) = true from idG (!(bif (!alive) then true else (!few)))) (ob1 (show (!(bif (!alive) then true else (!few))) = true → (!(bif (!alive) then true else (!few))) = true from idG (!(bif (!alive) then true else (!few)))) (ob1 (show (bif (!alive) then true else (!few)) = false → (!(bif (!alive) then true else (!few))) = true from notF) (ob1 ho0 (ob1 ho1 ob0)))))))) (ca1 (fun _ : True => hc0) (ca1 (fun g : (!(!alive)) = true ∧ True => hc1 g.1) (ca1 (fun g : (!(bif (!alive) then true else (!few))) = true ∧ True => hc2 g.1) (ca1 (fun _ : True => hc3) (ca1 (fun _ : True => hc4) (ca1 (fun _ : True => hc5) ca0)))))))
-- entry: to h0
theorem F10.p2 (c0 c1 c2 c3 c4 : Int) (c5 : List (List PV)) (args0 args1 args2 args3 args4 args5 : Int) (alive few rightcond : Bool) (of0 : List (List PV)) (of1 num : Int) {r : List AV} {h : List (List AV)} (ho0 : (bif (bif (!alive) then true else (!few)) then true else (!rightcond)) = false)
    (ho1 : (num != 0) = false)
    (hc0 : EvF Try.prog prim 29 [] [] [] [.v (.bool alive)] [])
    (hc1 : (!(!alive)) = true → EvF Try.prog prim 13 [.agg [.int .i64 c0, .int .i64 c1, .int .i64 c2, .int .u64 c3, .int .u64 c4, .sl c5]] [] [] [.v (.bool few)] [])
    (hc2 : (!(bif (!alive) then true else (!few))) = true → EvF Try.prog prim 18 [.agg [.int .i64 c0, .int .i64 c1, .int .i64 c2, .int .u64 c3, .int .u64 c4, .sl c5]] [] [] [.v (.bool rightcond)] [])
    (hc3 : EvF Try.prog prim 30 [.agg [.int .i64 c0, .int .i64 c1, .int .i64 c2, .int .u64 c3, .int .u64 c4, .sl c5]] [] [] [.v (.sl of0), .v (.int .i64 of1)] [])
    (hc4 : EvF Try.prog prim 32 [.v (.int .i64 of1)] [] [] [.v (.int .i64 num)] [])
    (hk : EvK Try.prog prim Try.f10 (loopAt Try.f10 0) (F10.h0 c0 c1 c2 c3 c4 c5 args0 args1 args2 args3 args4 args5 of0 false 0) r h) :
    EvF Try.prog prim 10 [.agg [.int .i64 c0, .int .i64 c1, .int .i64 c2, .int .u64 c3, .int .u64 c4, .sl c5], .agg [.int .u64 args0, .int .u64 args1, .int .u64 args2, .int .u64 args3, .int .u64 args4, .int .u64 args5]] [] [] r h :=
  EvF.of Try.func10 (EvK.cont (n := 83) (sc := [.reg [], .reg [⟨.auto, .call [] false [.v (.bool alive)]⟩], .reg [{}, {}, {}, ⟨.spec, .h⟩, ⟨.spec, .call [] false [.v (.bool few)]⟩, ⟨.spec, .d⟩, {}, {}, ⟨.spec, .h⟩, ⟨.spec, .call [] false [.v (.bool rightcond)]⟩, ⟨.spec, .d⟩], .br (some false), .reg [⟨.auto, .h⟩, ⟨.auto, .call [] false [.v (.sl of0), .v (.int .i64 of1)]⟩], .reg [{}, ⟨.auto, .call [] false [.v (.int .i64 num)]⟩], .br (some false), .reg [], .reg [], .cut { kill := [0, 1, 4, 5, 7, 12, 13, 14, 15, 16, 17, 18, 19, 20, 21, 22, 23, 24, 26, 27, 28, 29, 30, 31, 32, 33], weak := [], adopt := [], adoptB := [], heapLen := 2, toks := [] }]) (todo' := loopAt Try.f10 0) (s' := F10.h0 c0 c1 c2 c3 c4 c5 args0 args1 args2 args3 args4 args5 of0 false 0) (by kernel_rfl) (ob1 (show (!(!alive)) = true → (!(!alive)) = true from idG (!(!alive))) (ob1 (show (!(!alive)) = true → (!(!alive)) = true from idG (!(!alive))) (ob1 (show (!alive) = false → (!(!alive)) = true from notF) (ob1 (show (!(bif (!alive) then true else (!few))) = true → (!(bif (!alive) then true else (!few))) = true from idG (!(bif (!alive) then true else (!few)))) (ob1 (show (!(bif (!alive) then true else (!few))) = true → (!(bif (!alive) then true else (!few))) = true from idG (!(bif (!alive) then true else (!few)))) (ob1 (show (bif (!alive) then true else (!few)) = false → (!(bif (!alive) then true else (!few))) = true from notF) (ob1 ho0 (ob1 ho1 ob0)))))))) (ca1 (fun _ : True => hc0) (ca1 (fun g : (!(!alive)) = true ∧ True => hc1 g.1) (ca1 (fun g : (!(bif (!alive) then true else (!few))) = true ∧ True => hc2 g.1) (ca1 (fun _ : True => hc3) (ca1 (fun _ : True => hc4) ca0))))) hk)
-- h0: to h1
theorem F10.l0_3 (c0 c1 c2 c3 c4 : Int) (c5 : List (List PV)) (args0 args1 args2 args3 args4 args5 : Int) (of0 : List (List PV)) (some_ : Bool) (i : Int) {r : List AV} {h : List (List AV)} (ho0 : (decide (i < ((of0.length : Int)))) = true)
    (hk : EvK Try.prog prim Try.f10 (loopAt Try.f10 1) (F10.h1 c0 c1 c2 c3 c4 c5 args0 args1 args2 args3 args4 args5 of0 true 0 some_ i) r h) :
    EvK Try.prog prim Try.f10 (loopAt Try.f10 0) (F10.h0 c0 c1 c2 c3 c4 c5 args0 args1 args2 args3 args4 args5 of0 some_ i) r h :=
  EvK.cont (n := 74) (sc := [.reg [], .br (some true), .reg [], .reg [], .cut { kill := [37, 38, 39, 40], weak := [], adopt := [], adoptB := [], heapLen := 2, toks := [] }]) (todo' := loopAt Try.f10 1) (s' := F10.h1 c0 c1 c2 c3 c4 c5 args0 args1 args2 args3 args4 args5 of0 true 0 some_ i) (by kernel_rfl) (ob1 ho0 ob0) ca0 hk
-- h0: ret
theorem F10.l0_4 (c0 c1 c2 c3 c4 : Int) (c5 : List (List PV)) (args0 args1 args2 args3 args4 args5 : Int) (of0 : List (List PV)) (some_ : Bool) (i : Int) (holds_2 : Bool) (ho0 : (decide (i < ((of0.length : Int)))) = false)
    (hc0 : EvF Try.prog prim 19 [.agg [.int .i64 c0, .int .i64 c1, .int .i64 c2, .int .u64 c3, .int .u64 c4, .sl c5], .agg [.int .u64 args0, .int .u64 args1, .int .u64 args2, .int .u64 args3, .int .u64 args4, .int .u64 args5]] [] [] [.v (.bool holds_2)] []) :
    EvK Try.prog prim Try.f10 (loopAt Try.f10 0) (F10.h0 c0 c1 c2 c3 c4 c5 args0 args1 args2 args3 args4 args5 of0 some_ i) [.v (.bool (some_ == holds_2))] [] :=
  EvK.done (n := 68) (sc := [.reg [], .br (some false), .reg [{}, ⟨.auto, .h⟩, ⟨.auto, .h⟩, ⟨.auto, .call [] false [.v (.bool holds_2)]⟩]]) (by kernel_rfl) (ob1 ho0 ob0) (ca1 (fun _ : True => hc0) ca0)
-- h1: to h1
theorem F10.l1_5 (c0 c1 c2 c3 c4 : Int) (c5 : List (List PV)) (args0 args1 args2 args3 args4 args5 : Int) (of0 : List (List PV)) (ok : Bool) (k : Int) (some__1 : Bool) (i_1 : Int) (y0_6 : List (List PV)) (y0_7 y1_3 y2_3 y3_3 : Int) (holds_3 : Bool) {r : List AV} {h : List (List AV)} (ho0 : (0 : Int) ≤ i_1)
    (ho1 : (of0 : List (List PV))[Int.toNat i_1]? = some [.sl y0_6])
    (ho2 : (decide (k < ((y0_6.length : Int)))) = true)
    (ho3 : ok = true → (0 : Int) ≤ i_1)
    (ho4 : ok = true → (of0 : List (List PV))[Int.toNat i_1]? = some [.sl y0_6])
    (ho5 : ok = true → (0 : Int) ≤ k)
    (ho6 : ok = true → (y0_6 : List (List PV))[Int.toNat k]? = some [.int .i64 y0_7, .int .i64 y1_3, .int .u64 y2_3, .int .u64 y3_3])
    (ho7 : inR .i64 (k + 1))
    (hc0 : ok = true → EvF Try.prog prim 19 [.agg [.int .i64 5, .int .i64 y0_7, .int .i64 y1_3, .int .u64 y2_3, .int .u64 y3_3, .sl []], .agg [.int .u64 args0, .int .u64 args1, .int .u64 args2, .int .u64 args3, .int .u64 args4, .int .u64 args5]] [] [] [.v (.bool holds_3)] [])
    (hk : EvK Try.prog prim Try.f10 (loopAt Try.f10 1) (F10.h1 c0 c1 c2 c3 c4 c5 args0 args1 args2 args3 args4 args5 of0 ((bif ok then holds_3 else false)) ((k + 1)) some__1 i_1) r h) :
    EvK Try.prog prim Try.f10 (loopAt Try.f10 1) (F10.h1 c0 c1 c2 c3 c4 c5 args0 args1 args2 args3 args4 args5 of0 ok k some__1 i_1) r h :=
  EvK.cont (n := 71) (sc := [.reg [{}, {}, {}, ⟨.auto, .row [.sl y0_6]⟩], .br (some true), .reg [{}, {}, ⟨.spec, .d⟩, ⟨.spec, .d⟩, ⟨.spec, .row [.sl y0_6]⟩, ⟨.spec, .d⟩, ⟨.spec, .d⟩, ⟨.spec, .row [.int .i64 y0_7, .int .i64 y1_3, .int .u64 y2_3, .int .u64 y3_3]⟩, ⟨.spec, .d⟩, ⟨.spec, .d⟩, ⟨.spec, .h⟩, ⟨.spec, .call [] false [.v (.bool holds_3)]⟩], .reg [{}, ⟨.auto, .nw⟩], .cut { kill := [43, 44, 45, 46, 47, 48, 49, 50, 51, 52, 53, 54, 55, 56, 57, 58, 59, 60, 61, 62, 63, 64], weak := [], adopt := [], adoptB := [], heapLen := 2, toks := [] }]) (todo' := loopAt Try.f10 1) (s' := F10.h1 c0 c1 c2 c3 c4 c5 args0 args1 args2 args3 args4 args5 of0 ((bif ok then holds_3 else false)) ((k + 1)) some__1 i_1) (by kernel_rfl) (ob1 ho0 (ob1 ho1 (ob1 ho2 (ob1 (show ok = true → ok = true from idG ok) (ob1 (show ok = true → ok = true from idG ok) (ob1 ho3 (ob1 ho4 (ob1 (show ok = true → ok = true from idG ok) (ob1 (show ok = true → ok = true from idG ok) (ob1 (show ok = true → ok = true from idG ok) (ob1 ho5 (ob1 ho6 (ob1 (show ok = true → ok = true from idG ok) (ob1 (show ok = true → ok = true from idG ok) (ob1 (show ok = true → ok = true from idG ok) (ob1 (show ok = true → ok = true from idG ok) (ob1 (show ok = true → ok = true from idG ok) (ob1 ho7 ob0)))))))))))))))))) (ca1 (fun g : ok = true ∧ True => hc0 g.1) ca0) hk
-- h1: to h0
theorem F10.l1_6 (c0 c1 c2 c3 c4 : Int) (c5 : List (List PV)) (args0 args1 args2 args3 args4 args5 : Int) (of0 : List (List PV)) (ok : Bool) (k : Int) (some__1 : Bool) (i_1 : Int) (y0_6 : List (List PV)) {r : List AV} {h : List (List AV)} (ho0 : (0 : Int) ≤ i_1)
    (ho1 : (of0 : List (List PV))[Int.toNat i_1]? = some [.sl y0_6])
    (ho2 : (decide (k < ((y0_6.length : Int)))) = false)
    (ho3 : inR .i64 (i_1 + 1))
    (hk : EvK Try.prog prim Try.f10 (loopAt Try.f10 0) (F10.h0 c0 c1 c2 c3 c4 c5 args0 args1 args2 args3 args4 args5 of0 ((bif some__1 then true else ok)) ((i_1 + 1))) r h) :
    EvK Try.prog prim Try.f10 (loopAt Try.f10 1) (F10.h1 c0 c1 c2 c3 c4 c5 args0 args1 args2 args3 args4 args5 of0 ok k some__1 i_1) r h :=
  EvK.cont (n := 69) (sc := [.reg [{}, {}, {}, ⟨.auto, .row [.sl y0_6]⟩], .br (some false), .reg [{}, {}, ⟨.spec, .d⟩], .reg [{}, ⟨.auto, .nw⟩], .cut { kill := [10, 11, 41, 42, 43, 44, 45, 46, 47, 48, 49, 65, 66, 67, 68], weak := [], adopt := [], adoptB := [], heapLen := 2, toks := [] }]) (todo' := loopAt Try.f10 0) (s' := F10.h0 c0 c1 c2 c3 c4 c5 args0 args1 args2 args3 args4 args5 of0 ((bif some__1 then true else ok)) ((i_1 + 1))) (by kernel_rfl) (ob1 ho0 (ob1 ho1 (ob1 ho2 (ob1 (show some__1 = false → (!some__1) = true from notF) (ob1 ho3 ob0))))) ca0 hk
/-! ### tipstaff/tipstafflaw19.ClausesMany (function 11) -/
def F11.h0 (n width i : Int) (b0_5 : List (List PV)) : St :=
  { tmps := [.v (.int .i64 n), .v (.int .i64 width), .none, .none, .none, .none, .ptr 0 0, .v (.int .i64 i), .none, .none, .none, .none, .none, .none, .none, .none, .none, .none, .none, .none, .none, .none, .none, .none, .none, .none, .none, .none, .none, .none, .none, .none, .none, .none, .none, .none, .none, .none, .none, .none, .none, .none, .none, .none, .none, .none, .none, .none, .none, .none, .none, .none, .none, .none, .none, .none, .none, .none, .none, .none, .none, .none, .none, .none, .none, .none, .none, .none, .none, .none, .none, .none, .none, .none, .none, .none, .none, .none, .none, .none, .none, .none, .none, .none, .none, .none, .none, .none, .none, .none, .none, .none, .none, .none, .none, .none, .none], toks := [some b0_5.length], outer := [], heap := [[.v (.int .i64 4), .v (.int .i64 0), .v (.int .i64 0), .v (.int .u64 0), .v (.int .u64 0), .own 0 b0_5]] }
def F11.h1 (n width : Int) (b0_5_1 : List (List PV)) (want i_1 : Int) (b1_5 : List (List PV)) : St :=
  { tmps := [.v (.int .i64 n), .v (.int .i64 width), .none, .none, .none, .none, .ptr 0 0, .none, .ptr 1 0, .v (.int .i64 want), .v (.int .i64 i_1), .none, .none, .none, .none, .none, .none, .none, .none, .none, .none, .none, .none, .none, .none, .none, .none, .none, .none, .none, .none, .none, .none, .none, .none, .none, .none, .none, .none, .none, .none, .none, .none, .none, .none, .none, .none, .none, .none, .none, .none, .none, .none, .none, .none, .none, .none, .none, .none, .none, .none, .none, .none, .none, .none, .none, .none, .none, .none, .none, .none, .none, .none, .none, .none, .none, .none, .none, .none, .none, .none, .none, .none, .none, .none, .none, .none, .none, .none, .none, .none, .none, .none, .none, .none, .none, .none], toks := [some b0_5_1.length, some b1_5.length], outer := [], heap := [[.v (.int .i64 4), .v (.int .i64 0), .v (.int .i64 0), .v (.int .u64 0), .v (.int .u64 0), .own 0 b0_5_1], [.v (.int .i64 3), .v (.int .i64 0), .v (.int .i64 0), .v (.int .u64 0), .v (.int .u64 0), .own 1 b1_5]] }
-- entry: ret
theorem F11.p0 (n width : Int) (alive : Bool) (ho0 : (bif (bif (bif (bif (!alive) then true else (decide (n < 1))) then true else (decide (n > 10))) then true else (decide (width < 1))) then true else (decide (width > 20))) = true)
    (hc0 : EvF Try.prog prim 29 [] [] [] [.v (.bool alive)] []) :
    EvF Try.prog prim 11 [.v (.int .i64 n), .v (.int .i64 width)] [] [] [.v (.bool alive)] [] :=
  EvF.of Try.func11 (EvK.done (n := 71) (sc := [.reg [], .reg [⟨.auto, .call [] false [.v (.bool alive)]⟩], .reg [{}, {}, {}, ⟨.spec, .d⟩, ⟨.spec, .d⟩, {}, {}, ⟨.spec, .d⟩, ⟨.spec, .d⟩, {}, {}, ⟨.spec, .d⟩, ⟨.spec, .d⟩, {}, {}, ⟨.spec, .d⟩, ⟨.spec, .d⟩], .br (some true), .reg []]) (by kernel_rfl) (ob1 (show (!(!alive)) = true → (!(!alive)) = true from idG (!(!alive))) (ob1 (show (!alive) = false → (!(!alive)) = true from notF) (ob1 (show (!(bif (!alive) then true else (decide (n < 1)))) = true → (!(bif (!alive) then true else (decide (n < 1)))) = true from idG (!(bif (!alive) then true else (decide (n < 1))))) (ob1 (show (bif (!alive) then true else (decide (n < 1))) = false → (!(bif (!alive) then true else (decide (n < 1)))) = true from notF) (ob1 (show (!(bif (bif (!alive) then true else (decide (n < 1))) then true else (decide (n > 10)))) = true → (!(bif (bif (!alive) then true else (decide (n < 1))) then true else (decide (n > 10)))) = true from idG (!(bif (bif (!alive) then true else (decide (n < 1))) then true else (decide (n > 10))))) (ob1 (show (bif (bif (!alive) then true else (decide (n < 1))) then true else (decide (n > 10))) = false → (!(bif (bif (!alive) then true else (decide (n < 1))) then true else (decide (n > 10)))) = true from notF) (ob1 (show (!(bif (bif (bif (!alive) then true else (decide (n < 1))) then true else (decide (n > 10))) then true else (decide (width < 1)))) = true → (!(bif (bif (bif (!alive) then true else (decide (n < 1))) then true else (decide (n > 10))) then true else (decide (width < 1)))) = true from idG (!(bif (bif (bif (!alive) then true else (decide (n < 1))) then true else (decide (n > 10))) then true else (decide (width < 1))))) (ob1 (show (bif (bif (bif (!alive) then true else (decide (n < 1))) then true else (decide (n > 10))) then true else (decide (width < 1))) = false → (!(bif (bif (bif (!alive) then true else (decide (n < 1))) then true else (decide (n > 10))) then true else (decide (width < 1)))) = true from notF) (ob1 ho0 ob0))))))))) (ca1 (fun _ : True => hc0) ca0))
-- entry: to h0
theorem F11.p1 (n width : Int) (alive : Bool) {r : List AV} {h : List (List AV)} (ho0 : (bif (bif (bif (bif (!alive) then true else (decide (n < 1))) then true else (decide (n > 10))) then true else (decide (width < 1))) then true else (decide (width > 20))) = false)
    (hc0 : EvF Try.prog prim 29 [] [] [] [.v (.bool alive)] [])
    (hk : EvK Try.prog prim Try.f11 (loopAt Try.f11 0) (F11.h0 n width 0 ([])) r h) :
    EvF Try.prog prim 11 [.v (.int .i64 n), .v (.int .i64 width)] [] [] r h :=
  EvF.of Try.func11 (EvK.cont (n := 76) (sc := [.reg [], .reg [⟨.auto, .call [] false [.v (.bool alive)]⟩], .reg [{}, {}, {}, ⟨.spec, .d⟩, ⟨.spec, .d⟩, {}, {}, ⟨.spec, .d⟩, ⟨.spec, .d⟩, {}, {}, ⟨.spec, .d⟩, ⟨.spec, .d⟩, {}, {}, ⟨.spec, .d⟩, ⟨.spec, .d⟩], .br (some false), .reg [], .reg [], .cut { kill := [4, 5, 13, 14, 15, 16, 17, 18, 19, 20, 21, 22, 23, 24, 25, 26, 27, 28, 29, 30, 31, 33], weak := [], adopt := [], adoptB := [(0, 5)], heapLen := 1, toks := [0] }]) (todo' := loopAt Try.f11 0) (s' := F11.h0 n width 0 ([])) (by kernel_rfl) (ob1 (show (!(!alive)) = true → (!(!alive)) = true from idG (!(!alive))) (ob1 (show (!alive) = false → (!(!alive)) = true from notF) (ob1 (show (!(bif (!alive) then true else (decide (n < 1)))) = true → (!(bif (!alive) then true else (decide (n < 1)))) = true from idG (!(bif (!alive) then true else (decide (n < 1))))) (ob1 (show (bif (!alive) then true else (decide (n < 1))) = false → (!(bif (!alive) then true else (decide (n < 1)))) = true from notF) (ob1 (show (!(bif (bif (!alive) then true else (decide (n < 1))) then true else (decide (n > 10)))) = true → (!(bif (bif (!alive) then true else (decide (n < 1))) then true else (decide (n > 10)))) = true from idG (!(bif (bif (!alive) then true else (decide (n < 1))) then true else (decide (n > 10))))) (ob1 (show (bif (bif (!alive) then true else (decide (n < 1))) then true else (decide (n > 10))) = false → (!(bif (bif (!alive) then true else (decide (n < 1))) then true else (decide (n > 10)))) = true from notF) (ob1 (show (!(bif (bif (bif (!alive) then true else (decide (n < 1))) then true else (decide (n > 10))) then true else (decide (width < 1)))) = true → (!(bif (bif (bif (!alive) then true else (decide (n < 1))) then true else (decide (n > 10))) then true else (decide (width < 1)))) = true from idG (!(bif (bif (bif (!alive) then true else (decide (n < 1))) then true else (decide (n > 10))) then true else (decide (width < 1))))) (ob1 (show (bif (bif (bif (!alive) then true else (decide (n < 1))) then true else (decide (n > 10))) then true else (decide (width < 1))) = false → (!(bif (bif (bif (!alive) then true else (decide (n < 1))) then true else (decide (n > 10))) then true else (decide (width < 1)))) = true from notF) (ob1 ho0 ob0))))))))) (ca1 (fun _ : True => hc0) ca0) hk)
-- h0: to h0
theorem F11.l0_2 (n width i : Int) (b0_5 : List (List PV)) {r : List AV} {h : List (List AV)} (ho0 : (decide (i < width)) = true)
    (ho1 : ((b0_5 ++ [[.int .i64 5, .int .i64 0, .int .i64 1, .int .u64 0, .int .u64 (IntKind.u64.wrap i), .sl []]]) : List (List PV)).length * 64 ≤ 2 ^ 47)
    (ho2 : ∀ r ∈ ((b0_5 ++ [[.int .i64 5, .int .i64 0, .int .i64 1, .int .u64 0, .int .u64 (IntKind.u64.wrap i), .sl []]]) : List (List PV)), r.length = 6)
    (ho3 : inR .i64 (i + 1))
    (hk : EvK Try.prog prim Try.f11 (loopAt Try.f11 0) (F11.h0 n width ((i + 1)) ((b0_5 ++ [[.int .i64 5, .int .i64 0, .int .i64 1, .int .u64 0, .int .u64 (IntKind.u64.wrap i), .sl []]]))) r h) :
    EvK Try.prog prim Try.f11 (loopAt Try.f11 0) (F11.h0 n width i b0_5) r h :=
  EvK.cont (n := 71) (sc := [.reg [], .br (some true), .reg [{}, ⟨.auto, .h⟩], .reg [{}, ⟨.auto, .nw⟩], .cut { kill := [34, 35, 36, 37, 38, 39, 40, 41, 42, 43, 44, 45, 46, 47], weak := [], adopt := [], adoptB := [(0, 5)], heapLen := 1, toks := [0] }]) (todo' := loopAt Try.f11 0) (s' := F11.h0 n width ((i + 1)) ((b0_5 ++ [[.int .i64 5, .int .i64 0, .int .i64 1, .int .u64 0, .int .u64 (IntKind.u64.wrap i), .sl []]]))) (by kernel_rfl) (ob1 ho0 (ob1 (show b0_5.length = b0_5.length from rfl) (ob1 ho1 (ob1 ho2 (ob1 ho3 ob0))))) ca0 hk
-- h0: to h1
theorem F11.l0_3 (n width i : Int) (b0_5 : List (List PV)) {r : List AV} {h : List (List AV)} (ho0 : (decide (i < width)) = false)
    (hk : EvK Try.prog prim Try.f11 (loopAt Try.f11 1) (F11.h1 n width b0_5 1 0 ([])) r h) :
    EvK Try.prog prim Try.f11 (loopAt Try.f11 0) (F11.h0 n width i b0_5) r h :=
  EvK.cont (n := 74) (sc := [.reg [], .br (some false), .reg [], .reg [], .reg [], .cut { kill := [7, 34, 35, 36, 48], weak := [], adopt := [], adoptB := [(0, 5), (1, 5)], heapLen := 2, toks := [0, 1] }]) (todo' := loopAt Try.f11 1) (s' := F11.h1 n width b0_5 1 0 ([])) (by kernel_rfl) (ob1 ho0 ob0) ca0 hk
-- h1: to h1
theorem F11.l1_4 (n width : Int) (b0_5_1 : List (List PV)) (want i_1 : Int) (b1_5 : List (List PV)) {r : List AV} {h : List (List AV)} (ho0 : (decide (i_1 < n)) = true)
    (ho1 : ((b1_5 ++ [[.int .i64 4, .int .i64 0, .int .i64 0, .int .u64 0, .int .u64 0, .sl b0_5_1]]) : List (List PV)).length * 64 ≤ 2 ^ 47)
    (ho2 : ∀ r ∈ ((b1_5 ++ [[.int .i64 4, .int .i64 0, .int .i64 0, .int .u64 0, .int .u64 0, .sl b0_5_1]]) : List (List PV)), r.length = 6)
    (ho3 : (decide (want ≤ 256)) = true)
    (ho4 : inR .i64 (want * width))
    (ho5 : inR .i64 (i_1 + 1))
    (hk : EvK Try.prog prim Try.f11 (loopAt Try.f11 1) (F11.h1 n width b0_5_1 ((want * width)) ((i_1 + 1)) ((b1_5 ++ [[.int .i64 4, .int .i64 0, .int .i64 0, .int .u64 0, .int .u64 0, .sl b0_5_1]]))) r h) :
    EvK Try.prog prim Try.f11 (loopAt Try.f11 1) (F11.h1 n width b0_5_1 want i_1 b1_5) r h :=
  EvK.cont (n := 76) (sc := [.reg [], .br (some true), .reg [{}, ⟨.auto, .h⟩, ⟨.auto, .h⟩], .reg [], .br (some true), .reg [{}, {}, ⟨.auto, .nw⟩], .reg [{}, ⟨.auto, .nw⟩], .cut { kill := [49, 50, 51, 52, 53, 54, 55, 56, 57, 58, 59, 60, 61, 62, 63, 64], weak := [], adopt := [], adoptB := [(0, 5), (1, 5)], heapLen := 2, toks := [0, 1] }]) (todo' := loopAt Try.f11 1) (s' := F11.h1 n width b0_5_1 ((want * width)) ((i_1 + 1)) ((b1_5 ++ [[.int .i64 4, .int .i64 0, .int .i64 0, .int .u64 0, .int .u64 0, .sl b0_5_1]]))) (by kernel_rfl) (ob1 ho0 (ob1 (show b1_5.length = b1_5.length from rfl) (ob1 ho1 (ob1 ho2 (ob1 ho3 (ob1 ho4 (ob1 ho5 ob0))))))) ca0 hk
-- h1: to h1
theorem F11.l1_5 (n width : Int) (b0_5_1 : List (List PV)) (want i_1 : Int) (b1_5 : List (List PV)) {r : List AV} {h : List (List AV)} (ho0 : (decide (i_1 < n)) = true)
    (ho1 : ((b1_5 ++ [[.int .i64 4, .int .i64 0, .int .i64 0, .int .u64 0, .int .u64 0, .sl b0_5_1]]) : List (List PV)).length * 64 ≤ 2 ^ 47)
    (ho2 : ∀ r ∈ ((b1_5 ++ [[.int .i64 4, .int .i64 0, .int .i64 0, .int .u64 0, .int .u64 0, .sl b0_5_1]]) : List (List PV)), r.length = 6)
    (ho3 : (decide (want ≤ 256)) = false)
    (ho4 : inR .i64 (i_1 + 1))
    (hk : EvK Try.prog prim Try.f11 (loopAt Try.f11 1) (F11.h1 n width b0_5_1 want ((i_1 + 1)) ((b1_5 ++ [[.int .i64 4, .int .i64 0, .int .i64 0, .int .u64 0, .int .u64 0, .sl b0_5_1]]))) r h) :
    EvK Try.prog prim Try.f11 (loopAt Try.f11 1) (F11.h1 n width b0_5_1 want i_1 b1_5) r h :=
  EvK.cont (n := 76) (sc := [.reg [], .br (some true), .reg [{}, ⟨.auto, .h⟩, ⟨.auto, .h⟩], .reg [], .br (some false), .reg [{}, ⟨.auto, .nw⟩], .cut { kill := [49, 50, 51, 52, 53, 54, 55, 56, 57, 58, 59, 60, 61], weak := [], adopt := [], adoptB := [(0, 5), (1, 5)], heapLen := 2, toks := [0, 1] }]) (todo' := loopAt Try.f11 1) (s' := F11.h1 n width b0_5_1 want ((i_1 + 1)) ((b1_5 ++ [[.int .i64 4, .int .i64 0, .int .i64 0, .int .u64 0, .int .u64 0, .sl b0_5_1]]))) (by kernel_rfl) (ob1 ho0 (ob1 (show b1_5.length = b1_5.length from rfl) (ob1 ho1 (ob1 ho2 (ob1 ho3 (ob1 ho4 ob0)))))) ca0 hk
-- h1: ret
theorem F11.l1_6 (n width : Int) (b0_5_1 : List (List PV)) (want i_1 : Int) (b1_5 of0 : List (List PV)) (of1 num : Int) (ho0 : (decide (i_1 < n)) = false)
    (ho1 : (decide (want > 256)) = true)
    (hc0 : EvF Try.prog prim 30 [.agg [.int .i64 3, .int .i64 0, .int .i64 0, .int .u64 0, .int .u64 0, .sl b1_5]] [] [] [.v (.sl of0), .v (.int .i64 of1)] [])
    (hc1 : EvF Try.prog prim 32 [.v (.int .i64 of1)] [] [] [.v (.int .i64 num)] []) :
    EvK Try.prog prim Try.f11 (loopAt Try.f11 1) (F11.h1 n width b0_5_1 want i_1 b1_5) [.v (.bool (bif (num == 9) then (((of0.length : Int)) == 0) else false))] [] :=
  EvK.done (n := 74) (sc := [.reg [], .br (some false), .reg [⟨.auto, .h⟩, ⟨.auto, .call [] false [.v (.sl of0), .v (.int .i64 of1)]⟩], .reg [], .br (some true), .reg [{}, ⟨.auto, .call [] false [.v (.int .i64 num)]⟩, {}, {}, ⟨.spec, .d⟩, ⟨.spec, .d⟩, ⟨.spec, .d⟩]]) (by kernel_rfl) (ob1 ho0 (ob1 ho1 (ob1 (show (num == 9) = true → (num == 9) = true from idG (num == 9)) (ob1 (show (num == 9) = true → (num == 9) = true from idG (num == 9)) (ob1 (show (num == 9) = true → (num == 9) = true from idG (num == 9)) ob0))))) (ca1 (fun _ : True => hc0) (ca1 (fun _ : True => hc1) ca0))
-- h1: ret
theorem F11.l1_7 (n width : Int) (b0_5_1 : List (List PV)) (want i_1 : Int) (b1_5 of0 : List (List PV)) (of1 num : Int) (y0 : List (List PV)) (ho0 : (decide (i_1 < n)) = false)
    (ho1 : (decide (want > 256)) = false)
    (ho2 : (bif (num == 0) then (((of0.length : Int)) == want) else false) = true → (of0 : List (List PV))[Int.toNat 0]? = some [.sl y0])
    (hc0 : EvF Try.prog prim 30 [.agg [.int .i64 3, .int .i64 0, .int .i64 0, .int .u64 0, .int .u64 0, .sl b1_5]] [] [] [.v (.sl of0), .v (.int .i64 of1)] [])
    (hc1 : EvF Try.prog prim 32 [.v (.int .i64 of1)] [] [] [.v (.int .i64 num)] []) :
    EvK Try.prog prim Try.f11 (loopAt Try.f11 1) (F11.h1 n width b0_5_1 want i_1 b1_5) [.v (.bool (bif (bif (num == 0) then (((of0.length : Int)) == want) else false) then (((y0.length : Int)) == n) else false))] [] :=
  EvK.done (n := 75) (sc := [.reg [], .br (some false), .reg [⟨.auto, .h⟩, ⟨.auto, .call [] false [.v (.sl of0), .v (.int .i64 of1)]⟩], .reg [], .br (some false), .reg [{}, ⟨.auto, .call [] false [.v (.int .i64 num)]⟩, {}, {}, ⟨.spec, .d⟩, ⟨.spec, .d⟩, ⟨.spec, .d⟩, ⟨.spec, .d⟩, {}, {}, ⟨.spec, .d⟩, ⟨.spec, .row [.sl y0]⟩, ⟨.spec, .d⟩, ⟨.spec, .d⟩, ⟨.spec, .d⟩, ⟨.spec, .d⟩]]) (by kernel_rfl) (ob1 ho0 (ob1 ho1 (ob1 (show (num == 0) = true → (num == 0) = true from idG (num == 0)) (ob1 (show (num == 0) = true → (num == 0) = true from idG (num == 0)) (ob1 (show (num == 0) = true → (num == 0) = true from idG (num == 0)) (ob1 (show (num == 0) = true → (num == 0) = true from idG (num == 0)) (ob1 (show (bif (num == 0) then (((of0.length : Int)) == want) else false) = true → (bif (num == 0) then (((of0.length : Int)) == want) else false) = true from idG (bif (num == 0) then (((of0.length : Int)) == want) else false)) (ob1 (fun _ : (bif (num == 0) then (((of0.length : Int)) == want) else false) = true => show (0 : Int) ≤ 0 from (by decide)) (ob1 ho2 (ob1 (show (bif (num == 0) then (((of0.length : Int)) == want) else false) = true → (bif (num == 0) then (((of0.length : Int)) == want) else false) = true from idG (bif (num == 0) then (((of0.length : Int)) == want) else false)) (ob1 (show (bif (num == 0) then (((of0.length : Int)) == want) else false) = true → (bif (num == 0) then (((of0.length : Int)) == want) else false) = true from idG (bif (num == 0) then (((of0.length : Int)) == want) else false)) (ob1 (show (bif (num == 0) then (((of0.length : Int)) == want) else false) = true → (bif (num == 0) then (((of0.length : Int)) == want) else false) = true from idG (bif (num == 0) then (((of0.length : Int)) == want) else false)) (ob1 (show (bif (num == 0) then (((of0.length : Int)) == want) else false) = true → (bif (num == 0) then (((of0.length : Int)) == want) else false) = true from idG (bif (num == 0) then (((of0.length : Int)) == want) else false)) (ob1 (show (bif (num == 0) then (((of0.length : Int)) == want) else false) = true → (bif (num == 0) then (((of0.length : Int)) == want) else false) = true from idG (bif (num == 0) then (((of0.length : Int)) == want) else false)) ob0)))))))))))))) (ca1 (fun _ : True => hc0) (ca1 (fun _ : True => hc1) ca0))
/-! ### tipstaff/tipstafflaw19.alive (function 29) -/
-- entry: ret
theorem F29.p0 (of0 : List (List PV)) (of1 : Int) (of0_1 : List (List PV)) (of1_1 num : Int) (y0 : List (List PV)) (num_1 : Int) (y0_1 : List (List PV)) (ho0 : (bif (num == 0) then (((of0.length : Int)) == 1) else false) = true → (of0 : List (List PV))[Int.toNat 0]? = some [.sl y0])
    (ho1 : (bif (bif (bif (bif (num == 0) then (((of0.length : Int)) == 1) else false) then (((y0.length : Int)) == 0) else false) then (num_1 == 0) else false) then (((of0_1.length : Int)) == 1) else false) = true → (of0_1 : List (List PV))[Int.toNat 0]? = some [.sl y0_1])
    (hc0 : EvF Try.prog prim 30 [.agg [.int .i64 1, .int .i64 0, .int .i64 0, .int .u64 0, .int .u64 0, .sl []]] [] [] [.v (.sl of0), .v (.int .i64 of1)] [])
    (hc1 : EvF Try.prog prim 30 [.agg [.int .i64 5, .int .i64 0, .int .i64 1, .int .u64 0, .int .u64 0, .sl []]] [] [] [.v (.sl of0_1), .v (.int .i64 of1_1)] [])
    (hc2 : EvF Try.prog prim 32 [.v (.int .i64 of1)] [] [] [.v (.int .i64 num)] [])
    (hc3 : (bif (bif (num == 0) then (((of0.length : Int)) == 1) else false) then (((y0.length : Int)) == 0) else false) = true → EvF Try.prog prim 32 [.v (.int .i64 of1_1)] [] [] [.v (.int .i64 num_1)] []) :
    EvF Try.prog prim 29 [] [] [] [.v (.bool (bif (bif (bif (bif (bif (num == 0) then (((of0.length : Int)) == 1) else false) then (((y0.length : Int)) == 0) else false) then (num_1 == 0) else false) then (((of0_1.length : Int)) == 1) else false) then (((y0_1.length : Int)) == 1) else false))] [] :=
  EvF.of Try.func29 (EvK.done (n := 69) (sc := [.reg [], .reg [{}, ⟨.auto, .call [] false [.v (.sl of0), .v (.int .i64 of1)]⟩], .reg [{}, {}, ⟨.auto, .call [] false [.v (.sl of0_1), .v (.int .i64 of1_1)]⟩], .reg [{}, ⟨.auto, .call [] false [.v (.int .i64 num)]⟩, {}, {}, ⟨.spec, .d⟩, ⟨.spec, .d⟩, ⟨.spec, .d⟩, {}, {}, ⟨.spec, .d⟩, ⟨.spec, .row [.sl y0]⟩, ⟨.spec, .d⟩, ⟨.spec, .d⟩, ⟨.spec, .d⟩, {}, {}, ⟨.spec, .d⟩, ⟨.spec, .call [] false [.v (.int .i64 num_1)]⟩, ⟨.spec, .d⟩, {}, {}, ⟨.spec, .d⟩, ⟨.spec, .d⟩, ⟨.spec, .d⟩, {}, {}, ⟨.spec, .d⟩, ⟨.spec, .row [.sl y0_1]⟩, ⟨.spec, .d⟩, ⟨.spec, .d⟩, ⟨.spec, .d⟩]]) (by kernel_rfl) (ob1 (show (num == 0) = true → (num == 0) = true from idG (num == 0)) (ob1 (show (num == 0) = true → (num == 0) = true from idG (num == 0)) (ob1 (show (num == 0) = true → (num == 0) = true from idG (num == 0)) (ob1 (show (bif (num == 0) then (((of0.length : Int)) == 1) else false) = true → (bif (num == 0) then (((of0.length : Int)) == 1) else false) = true from idG (bif (num == 0) then (((of0.length : Int)) == 1) else false)) (ob1 (fun _ : (bif (num == 0) then (((of0.length : Int)) == 1) else false) = true => show (0 : Int) ≤ 0 from (by decide)) (ob1 ho0 (ob1 (show (bif (num == 0) then (((of0.length : Int)) == 1) else false) = true → (bif (num == 0) then (((of0.length : Int)) == 1) else false) = true from idG (bif (num == 0) then (((of0.length : Int)) == 1) else false)) (ob1 (show (bif (num == 0) then (((of0.length : Int)) == 1) else false) = true → (bif (num == 0) then (((of0.length : Int)) == 1) else false) = true from idG (bif (num == 0) then (((of0.length : Int)) == 1) else false)) (ob1 (show (bif (num == 0) then (((of0.length : Int)) == 1) else false) = true → (bif (num == 0) then (((of0.length : Int)) == 1) else false) = true from idG (bif (num == 0) then (((of0.length : Int)) == 1) else false)) (ob1 (show (bif (num == 0) then (((of0.length : Int)) == 1) else false) = true → (bif (num == 0) then (((of0.length : Int)) == 1) else false) = true from idG (bif (num == 0) then (((of0.length : Int)) == 1) else false)) (ob1 (show (bif (bif (num == 0) then (((of0.length : Int)) == 1) else false) then (((y0.length : Int)) == 0) else false) = true → (bif (bif (num == 0) then (((of0.length : Int)) == 1) else false) then (((y0.length : Int)) == 0) else false) = true from idG (bif (bif (num == 0) then (((of0.length : Int)) == 1) else false) then (((y0.length : Int)) == 0) else false)) (ob1 (show (bif (bif (num == 0) then (((of0.length : Int)) == 1) else false) then (((y0.length : Int)) == 0) else false) = true → (bif (bif (num == 0) then (((of0.length : Int)) == 1) else false) then (((y0.length : Int)) == 0) else false) = true from idG (bif (bif (num == 0) then (((of0.length : Int)) == 1) else false) then (((y0.length : Int)) == 0) else false)) (ob1 (show (bif (bif (num == 0) then (((of0.length : Int)) == 1) else false) then (((y0.length : Int)) == 0) else false) = true → (bif (bif (num == 0) then (((of0.length : Int)) == 1) else false) then (((y0.length : Int)) == 0) else false) = true from idG (bif (bif (num == 0) then (((of0.length : Int)) == 1) else false) then (((y0.length : Int)) == 0) else false)) (ob1 (show (bif (bif (bif (num == 0) then (((of0.length : Int)) == 1) else false) then (((y0.length : Int)) == 0) else false) then (num_1 == 0) else false) = true → (bif (bif (bif (num == 0) then (((of0.length : Int)) == 1) else false) then (((y0.length : Int)) == 0) else false) then (num_1 == 0) else false) = true from idG (bif (bif (bif (num == 0) then (((of0.length : Int)) == 1) else false) then (((y0.length : Int)) == 0) else false) then (num_1 == 0) else false)) (ob1 (show (bif (bif (bif (num == 0) then (((of0.length : Int)) == 1) else false) then (((y0.length : Int)) == 0) else false) then (num_1 == 0) else false) = true → (bif (bif (bif (num == 0) then (((of0.length : Int)) == 1) else false) then (((y0.length : Int)) == 0) else false) then (num_1 == 0) else false) = true from idG (bif (bif (bif (num == 0) then (((of0.length : Int)) == 1) else false) then (((y0.length : Int)) == 0) else false) then (num_1 == 0) else false)) (ob1 (show (bif (bif (bif (num == 0) then (((of0.length : Int)) == 1) else false) then (((y0.length : Int)) == 0) else false) then (num_1 == 0) else false) = true → (bif (bif (bif (num == 0) then (((of0.length : Int)) == 1) else false) then (((y0.length : Int)) == 0) else false) then (num_1 == 0) else false) = true from idG (bif (bif (bif (num == 0) then (((of0.length : Int)) == 1) else false) then (((y0.length : Int)) == 0) else false) then (num_1 == 0) else false)) (ob1 (show (bif (bif (bif (bif (num == 0) then (((of0.length : Int)) == 1) else false) then (((y0.length : Int)) == 0) else false) then (num_1 == 0) else false) then (((of0_1.length : Int)) == 1) else false) = true → (bif (bif (bif (bif (num == 0) then (((of0.length : Int)) == 1) else false) then (((y0.length : Int)) == 0) else false) then (num_1 == 0) else false) then (((of0_1.length : Int)) == 1) else false) = true from idG (bif (bif (bif (bif (num == 0) then (((of0.length : Int)) == 1) else false) then (((y0.length : Int)) == 0) else false) then (num_1 == 0) else false) then (((of0_1.length : Int)) == 1) else false)) (ob1 (fun _ : (bif (bif (bif (bif (num == 0) then (((of0.length : Int)) == 1) else false) then (((y0.length : Int)) == 0) else false) then (num_1 == 0) else false) then (((of0_1.length : Int)) == 1) else false) = true => show (0 : Int) ≤ 0 from (by decide)) (ob1 ho1 (ob1 (show (bif (bif (bif (bif (num == 0) then (((of0.length : Int)) == 1) else false) then (((y0.length : Int)) == 0) else false) then (num_1 == 0) else false) then (((of0_1.length : Int)) == 1) else false) = true → (bif (bif (bif (bif (num == 0) then (((of0.length : Int)) == 1) else false) then (((y0.length : Int)) == 0) else false) then (num_1 == 0) else false) then (((of0_1.length : Int)) == 1) else false) = true from idG (bif (bif (bif (bif (num == 0) then (((of0.length : Int)) == 1) else false) then (((y0.length : Int)) == 0) else false) then (num_1 == 0) else false) then (((of0_1.length : Int)) == 1) else false)) (ob1 (show (bif (bif (bif (bif (num == 0) then (((of0.length : Int)) == 1) else false) then (((y0.length : Int)) == 0) else false) then (num_1 == 0) else false) then (((of0_1.length : Int)) == 1) else false) = true → (bif (bif (bif (bif (num == 0) then (((of0.length : Int)) == 1) else false) then (((y0.length : Int)) == 0) else false) then (num_1 == 0) else false) then (((of0_1.length : Int)) == 1) else false) = true from idG (bif (bif (bif (bif (num == 0) then (((of0.length : Int)) == 1) else false) then (((y0.length : Int)) == 0) else false) then (num_1 == 0) else false) then (((of0_1.length : Int)) == 1) else false)) (ob1 (show (bif (bif (bif (bif (num == 0) then (((of0.length : Int)) == 1) else false) then (((y0.length : Int)) == 0) else false) then (num_1 == 0) else false) then (((of0_1.length : Int)) == 1) else false) = true → (bif (bif (bif (bif (num == 0) then (((of0.length : Int)) == 1) else false) then (((y0.length : Int)) == 0) else false) then (num_1 == 0) else false) then (((of0_1.length : Int)) == 1) else false) = true from idG (bif (bif (bif (bif (num == 0) then (((of0.length : Int)) == 1) else false) then (((y0.length : Int)) == 0) else false) then (num_1 == 0) else false) then (((of0_1.length : Int)) == 1) else false)) (ob1 (show (bif (bif (bif (bif (num == 0) then (((of0.length : Int)) == 1) else false) then (((y0.length : Int)) == 0) else false) then (num_1 == 0) else false) then (((of0_1.length : Int)) == 1) else false) = true → (bif (bif (bif (bif (num == 0) then (((of0.length : Int)) == 1) else false) then (((y0.length : Int)) == 0) else false) then (num_1 == 0) else false) then (((of0_1.length : Int)) == 1) else false) = true from idG (bif (bif (bif (bif (num == 0) then (((of0.length : Int)) == 1) else false) then (((y0.length : Int)) == 0) else false) then (num_1 == 0) else false) then (((of0_1.length : Int)) == 1) else false)) ob0))))))))))))))))))))))) (ca1 (fun _ : True => hc0) (ca1 (fun _ : True => hc1) (ca1 (fun _ : True => hc2) (ca1 (fun g : (bif (bif (num == 0) then (((of0.length : Int)) == 1) else false) then (((y0.length : Int)) == 0) else false) = true ∧ True => hc3 g.1) ca0)))))
/-! ### tipstaff/clauses.Of (function 30) -/
-- entry: ret
theorem F30.p0 (c0 c1 c2 c3 c4 : Int) (c5 : List (List PV)) (down0 down1 down2 down3 down4 : Int) (down5 z : List (List PV)) (hc0 : EvF Try.prog prim 14 [.agg [.int .i64 c0, .int .i64 c1, .int .i64 c2, .int .u64 c3, .int .u64 c4, .sl c5]] [] [] [.agg [.int .i64 down0, .int .i64 down1, .int .i64 down2, .int .u64 down3, .int .u64 down4, .sl down5]] [])
    (hc1 : EvF Try.prog prim 43 [.agg [.int .i64 down0, .int .i64 down1, .int .i64 down2, .int .u64 down3, .int .u64 down4, .sl down5]] [] [] [.v (.sl z), .v (.bool true)] []) :
    EvF Try.prog prim 30 [.agg [.int .i64 c0, .int .i64 c1, .int .i64 c2, .int .u64 c3, .int .u64 c4, .sl c5]] [] [] [.v (.sl z), .v (.int .i64 0)] [] :=
  EvF.of Try.func30 (EvK.done (n := 72) (sc := [.reg [], .reg [⟨.auto, .h⟩, ⟨.auto, .call [] false [.agg [.int .i64 down0, .int .i64 down1, .int .i64 down2, .int .u64 down3, .int .u64 down4, .sl down5]]⟩, ⟨.auto, .call [] false [.v (.sl z), .v (.bool true)]⟩], .reg [], .br .none, .reg []]) (by kernel_rfl) ob0 (ca1 (fun _ : True => hc0) (ca1 (fun _ : True => hc1) ca0)))
-- entry: ret
theorem F30.p1 (c0 c1 c2 c3 c4 : Int) (c5 : List (List PV)) (down0 down1 down2 down3 down4 : Int) (down5 z : List (List PV)) (hc0 : EvF Try.prog prim 14 [.agg [.int .i64 c0, .int .i64 c1, .int .i64 c2, .int .u64 c3, .int .u64 c4, .sl c5]] [] [] [.agg [.int .i64 down0, .int .i64 down1, .int .i64 down2, .int .u64 down3, .int .u64 down4, .sl down5]] [])
    (hc1 : EvF Try.prog prim 43 [.agg [.int .i64 down0, .int .i64 down1, .int .i64 down2, .int .u64 down3, .int .u64 down4, .sl down5]] [] [] [.v (.sl z), .v (.bool false)] []) :
    EvF Try.prog prim 30 [.agg [.int .i64 c0, .int .i64 c1, .int .i64 c2, .int .u64 c3, .int .u64 c4, .sl c5]] [] [] [.v (.sl []), .v (.int .i64 9)] [] :=
  EvF.of Try.func30 (EvK.done (n := 71) (sc := [.reg [], .reg [⟨.auto, .h⟩, ⟨.auto, .call [] false [.agg [.int .i64 down0, .int .i64 down1, .int .i64 down2, .int .u64 down3, .int .u64 down4, .sl down5]]⟩, ⟨.auto, .call [] false [.v (.sl z), .v (.bool false)]⟩], .reg [], .br .none, .reg []]) (by kernel_rfl) ob0 (ca1 (fun _ : True => hc0) (ca1 (fun _ : True => hc1) ca0)))
/-! ### tipstaff/tipstaffref17.Clauses (function 31) -/
-- entry: ret
theorem F31.p0 (c0 c1 c2 c3 c4 : Int) (c5 : List (List PV)) (down0 down1 down2 down3 down4 : Int) (down5 dnf0 : List (List PV)) (dnf1 : Int) (hc0 : EvF Try.prog prim 16 [.agg [.int .i64 c0, .int .i64 c1, .int .i64 c2, .int .u64 c3, .int .u64 c4, .sl c5]] [] [] [.agg [.int .i64 down0, .int .i64 down1, .int .i64 down2, .int .u64 down3, .int .u64 down4, .sl down5]] [])
    (hc1 : EvF Try.prog prim 44 [.agg [.int .i64 down0, .int .i64 down1, .int .i64 down2, .int .u64 down3, .int .u64 down4, .sl down5]] [] [] [.v (.sl dnf0), .v (.int .i64 dnf1)] []) :
    EvF Try.prog prim 31 [.agg [.int .i64 c0, .int .i64 c1, .int .i64 c2, .int .u64 c3, .int .u64 c4, .sl c5]] [] [] [.v (.sl dnf0), .v (.int .i64 dnf1)] [] :=
  EvF.of Try.func31 (EvK.done (n := 65) (sc := [.reg [], .reg [⟨.auto, .h⟩, ⟨.auto, .call [] false [.agg [.int .i64 down0, .int .i64 down1, .int .i64 down2, .int .u64 down3, .int .u64 down4, .sl down5]]⟩, ⟨.auto, .call [] false [.v (.sl dnf0), .v (.int .i64 dnf1)]⟩]]) (by kernel_rfl) ob0 (ca1 (fun _ : True => hc0) (ca1 (fun _ : True => hc1) ca0)))
/-! ### tipstaff/tipstafflaw19.num (function 32) -/
-- entry: ret
theorem F32.p0 (e : Int)  :
    EvF Try.prog prim 32 [.v (.int .i64 e)] [] [] [.v (.int .i64 e)] [] :=
  EvF.of Try.func32 (EvK.done (n := 65) (sc := [.reg [], .reg []]) (by kernel_rfl) ob0 ca0)
/-! ### tipstaff/clauses.of (function 43) -/
def F43.h0 (c0 c1 c2 c3 c4 : Int) (c5 out : List (List PV)) (t24 : Int) : St :=
  { tmps := [.none, .ptr 0 0, .none, .none, .own 0 out, .none, .none, .none, .none, .none, .none, .none, .none, .none, .none, .none, .none, .none, .none, .none, .none, .none, .v (.sl c5), .v (.int .i64 ((c5.length : Int))), .v (.int .i64 t24), .none, .none, .none, .none, .none, .none, .none, .none, .none, .none, .none, .none, .none, .none, .none, .none, .none, .none, .none, .none, .none, .none], toks := [some out.length], outer := [], heap := [[.v (.int .i64 c0), .v (.int .i64 c1), .v (.int .i64 c2), .v (.int .u64 c3), .v (.int .u64 c4), .v (.sl c5)]] }
-- entry: ret
theorem F43.p0 (c0 c1 c2 c3 c4 : Int) (c5 : List (List PV)) (ho0 : (c0 == 5) = true) :
    EvF Try.prog prim 43 [.agg [.int .i64 c0, .int .i64 c1, .int .i64 c2, .int .u64 c3, .int .u64 c4, .sl c5]] [] [] [.own 0 [[.sl [[.int .i64 c1, .int .i64 c2, .int .u64 c3, .int .u64 c4]]]], .v (.bool true)] [] :=
  EvF.of Try.func43 (EvK.done (n := 74) (sc := [.reg [], .reg [], .reg [{}, ⟨.auto, .h⟩], .reg [], .br (some true), .reg [{}, ⟨.auto, .h⟩, {}, ⟨.auto, .keep⟩]]) (by kernel_rfl) (ob1 ho0 (ob1 (show ([[.sl [[.int .i64 c1, .int .i64 c2, .int .u64 c3, .int .u64 c4]]]] : List (List PV)).length = ([[.sl [[.int .i64 c1, .int .i64 c2, .int .u64 c3, .int .u64 c4]]]] : List (List PV)).length from rfl) ob0)) ca0)
-- entry: to h0
theorem F43.p1 (c0 c1 c2 c3 c4 : Int) (c5 : List (List PV)) {r : List AV} {h : List (List AV)} (ho0 : (c0 == 5) = false)
    (ho1 : (c0 == 1) = true)
    (hk : EvK Try.prog prim Try.f43 (loopAt Try.f43 0) (F43.h0 c0 c1 c2 c3 c4 c5 ([[.sl []]]) 0) r h) :
    EvF Try.prog prim 43 [.agg [.int .i64 c0, .int .i64 c1, .int .i64 c2, .int .u64 c3, .int .u64 c4, .sl c5]] [] [] r h :=
  EvF.of Try.func43 (EvK.cont (n := 84) (sc := [.reg [], .reg [], .reg [{}, ⟨.auto, .h⟩], .reg [], .br (some false), .reg [], .br (some true), .br (some true), .reg [⟨.auto, .keep⟩], .reg [{}, ⟨.auto, .h⟩], .cut { kill := [0, 2, 3, 9, 10, 11, 12, 17, 18, 20, 21], weak := [], adopt := [4], adoptB := [], heapLen := 1, toks := [0] }]) (todo' := loopAt Try.f43 0) (s' := F43.h0 c0 c1 c2 c3 c4 c5 ([[.sl []]]) 0) (by kernel_rfl) (ob1 ho0 (ob1 ho1 (ob1 ho1 ob0))) ca0 hk)
-- entry: to h0
theorem F43.p2 (c0 c1 c2 c3 c4 : Int) (c5 : List (List PV)) {r : List AV} {h : List (List AV)} (ho0 : (c0 == 5) = false)
    (ho1 : (c0 == 1) = false)
    (ho2 : (c0 == 3) = true)
    (hk : EvK Try.prog prim Try.f43 (loopAt Try.f43 0) (F43.h0 c0 c1 c2 c3 c4 c5 ([[.sl []]]) 0) r h) :
    EvF Try.prog prim 43 [.agg [.int .i64 c0, .int .i64 c1, .int .i64 c2, .int .u64 c3, .int .u64 c4, .sl c5]] [] [] r h :=
  EvF.of Try.func43 (EvK.cont (n := 84) (sc := [.reg [], .reg [], .reg [{}, ⟨.auto, .h⟩], .reg [], .br (some false), .reg [], .br (some false), .reg [], .br (some true), .reg [⟨.auto, .keep⟩], .reg [{}, ⟨.auto, .h⟩], .cut { kill := [0, 2, 3, 9, 10, 11, 12, 17, 18, 19, 20, 21], weak := [], adopt := [4], adoptB := [], heapLen := 1, toks := [0] }]) (todo' := loopAt Try.f43 0) (s' := F43.h0 c0 c1 c2 c3 c4 c5 ([[.sl []]]) 0) (by kernel_rfl) (ob1 ho0 (ob1 ho1 (ob1 ho2 ob0))) ca0 hk)
-- entry: to h0
theorem F43.p3 (c0 c1 c2 c3 c4 : Int) (c5 : List (List PV)) {r : List AV} {h : List (List AV)} (ho0 : (c0 == 5) = false)
    (ho1 : (c0 == 1) = false)
    (ho2 : (c0 == 3) = false)
    (hk : EvK Try.prog prim Try.f43 (loopAt Try.f43 0) (F43.h0 c0 c1 c2 c3 c4 c5 ([]) 0) r h) :
    EvF Try.prog prim 43 [.agg [.int .i64 c0, .int .i64 c1, .int .i64 c2, .int .u64 c3, .int .u64 c4, .sl c5]] [] [] r h :=
  EvF.of Try.func43 (EvK.cont (n := 84) (sc := [.reg [], .reg [], .reg [{}, ⟨.auto, .h⟩], .reg [], .br (some false), .reg [], .br (some false), .reg [], .br (some false), .reg [{}, ⟨.auto, .h⟩], .cut { kill := [0, 2, 3, 9, 10, 11, 12, 17, 18, 19, 21], weak := [], adopt := [4], adoptB := [], heapLen := 1, toks := [0] }]) (todo' := loopAt Try.f43 0) (s' := F43.h0 c0 c1 c2 c3 c4 c5 ([]) 0) (by kernel_rfl) (ob1 ho0 (ob1 ho1 (ob1 ho2 ob0))) ca0 hk)
-- h0: to h0
theorem F43.l0_4 (c0 c1 c2 c3 c4 : Int) (c5 out : List (List PV)) (t24 y0_2 y1_2 y2_2 y3_2 y4_2 : Int) (y5_2 z_4 z_5 : List (List PV)) {r : List AV} {h : List (List AV)} (ho0 : (decide (t24 < ((c5.length : Int)))) = true)
    (ho1 : (0 : Int) ≤ t24)
    (ho2 : (c5 : List (List PV))[Int.toNat t24]? = some [.int .i64 y0_2, .int .i64 y1_2, .int .i64 y2_2, .int .u64 y3_2, .int .u64 y4_2, .sl y5_2])
    (ho3 : inR .i64 (t24 + 1))
    (hc0 : EvF Try.prog prim 43 [.agg [.int .i64 y0_2, .int .i64 y1_2, .int .i64 y2_2, .int .u64 y3_2, .int .u64 y4_2, .sl y5_2]] [] [] [.v (.sl z_4), .v (.bool true)] [])
    (hc1 : EvF Try.prog prim 54 [.v (.int .i64 c0), .own 0 out, .v (.sl z_4)] [some out.length] [] [.own 0 z_5, .v (.bool true)] [])
    (hk : EvK Try.prog prim Try.f43 (loopAt Try.f43 0) (F43.h0 c0 c1 c2 c3 c4 c5 z_5 ((t24 + 1))) r h) :
    EvK Try.prog prim Try.f43 (loopAt Try.f43 0) (F43.h0 c0 c1 c2 c3 c4 c5 out t24) r h :=
  EvK.cont (n := 85) (sc := [.reg [], .br (some true), .reg [⟨.auto, .row [.int .i64 y0_2, .int .i64 y1_2, .int .i64 y2_2, .int .u64 y3_2, .int .u64 y4_2, .sl y5_2]⟩], .reg [⟨.auto, .h⟩, ⟨.auto, .call [] false [.v (.sl z_4), .v (.bool true)]⟩], .reg [], .br .none, .reg [{}, ⟨.auto, .h⟩, {}, {}, ⟨.auto, .call [false, true, false] true [.own 0 z_5, .v (.bool true)]⟩], .reg [], .br .none, .reg [⟨.auto, .nw⟩], .cut { kill := [6, 7, 8, 25, 26, 27, 28, 29, 30, 31, 32, 33, 34, 35, 36, 37, 38, 39, 40, 41, 42, 43, 44, 45], weak := [], adopt := [4], adoptB := [], heapLen := 1, toks := [1] }]) (todo' := loopAt Try.f43 0) (s' := F43.h0 c0 c1 c2 c3 c4 c5 z_5 ((t24 + 1))) (by kernel_rfl) (ob1 ho0 (ob1 ho1 (ob1 ho2 (ob1 (show out.length = out.length from rfl) (ob1 ho3 ob0))))) (ca1 (fun _ : True => hc0) (ca1 (fun _ : True => hc1) ca0)) hk
-- h0: ret
theorem F43.l0_5 (c0 c1 c2 c3 c4 : Int) (c5 out : List (List PV)) (t24 y0_2 y1_2 y2_2 y3_2 y4_2 : Int) (y5_2 z_4 z_5 : List (List PV)) (ho0 : (decide (t24 < ((c5.length : Int)))) = true)
    (ho1 : (0 : Int) ≤ t24)
    (ho2 : (c5 : List (List PV))[Int.toNat t24]? = some [.int .i64 y0_2, .int .i64 y1_2, .int .i64 y2_2, .int .u64 y3_2, .int .u64 y4_2, .sl y5_2])
    (hc0 : EvF Try.prog prim 43 [.agg [.int .i64 y0_2, .int .i64 y1_2, .int .i64 y2_2, .int .u64 y3_2, .int .u64 y4_2, .sl y5_2]] [] [] [.v (.sl z_4), .v (.bool true)] [])
    (hc1 : EvF Try.prog prim 54 [.v (.int .i64 c0), .own 0 out, .v (.sl z_4)] [some out.length] [] [.v (.sl z_5), .v (.bool false)] []) :
    EvK Try.prog prim Try.f43 (loopAt Try.f43 0) (F43.h0 c0 c1 c2 c3 c4 c5 out t24) [.v (.sl []), .v (.bool false)] [] :=
  EvK.done (n := 84) (sc := [.reg [], .br (some true), .reg [⟨.auto, .row [.int .i64 y0_2, .int .i64 y1_2, .int .i64 y2_2, .int .u64 y3_2, .int .u64 y4_2, .sl y5_2]⟩], .reg [⟨.auto, .h⟩, ⟨.auto, .call [] false [.v (.sl z_4), .v (.bool true)]⟩], .reg [], .br .none, .reg [{}, ⟨.auto, .h⟩, {}, {}, ⟨.auto, .call [false, true, false] true [.v (.sl z_5), .v (.bool false)]⟩], .reg [], .br .none, .reg []]) (by kernel_rfl) (ob1 ho0 (ob1 ho1 (ob1 ho2 (ob1 (show out.length = out.length from rfl) ob0)))) (ca1 (fun _ : True => hc0) (ca1 (fun _ : True => hc1) ca0))
-- h0: ret
theorem F43.l0_6 (c0 c1 c2 c3 c4 : Int) (c5 out : List (List PV)) (t24 y0_2 y1_2 y2_2 y3_2 y4_2 : Int) (y5_2 z_4 : List (List PV)) (ho0 : (decide (t24 < ((c5.length : Int)))) = true)
    (ho1 : (0 : Int) ≤ t24)
    (ho2 : (c5 : List (List PV))[Int.toNat t24]? = some [.int .i64 y0_2, .int .i64 y1_2, .int .i64 y2_2, .int .u64 y3_2, .int .u64 y4_2, .sl y5_2])
    (hc0 : EvF Try.prog prim 43 [.agg [.int .i64 y0_2, .int .i64 y1_2, .int .i64 y2_2, .int .u64 y3_2, .int .u64 y4_2, .sl y5_2]] [] [] [.v (.sl z_4), .v (.bool false)] []) :
    EvK Try.prog prim Try.f43 (loopAt Try.f43 0) (F43.h0 c0 c1 c2 c3 c4 c5 out t24) [.v (.sl []), .v (.bool false)] [] :=
  EvK.done (n := 78) (sc := [.reg [], .br (some true), .reg [⟨.auto, .row [.int .i64 y0_2, .int .i64 y1_2, .int .i64 y2_2, .int .u64 y3_2, .int .u64 y4_2, .sl y5_2]⟩], .reg [⟨.auto, .h⟩, ⟨.auto, .call [] false [.v (.sl z_4), .v (.bool false)]⟩], .reg [], .br .none, .reg []]) (by kernel_rfl) (ob1 ho0 (ob1 ho1 (ob1 ho2 ob0))) (ca1 (fun _ : True => hc0) ca0)
-- h0: ret
theorem F43.l0_7 (c0 c1 c2 c3 c4 : Int) (c5 out : List (List PV)) (t24 : Int) (ho0 : (decide (t24 < ((c5.length : Int)))) = false) :
    EvK Try.prog prim Try.f43 (loopAt Try.f43 0) (F43.h0 c0 c1 c2 c3 c4 c5 out t24) [.own 0 out, .v (.bool true)] [] :=
  EvK.done (n := 68) (sc := [.reg [], .br (some false), .reg []]) (by kernel_rfl) (ob1 ho0 (ob1 (show out.length = out.length from rfl) ob0)) ca0
/-! ### tipstaff/tipstaffref17.dnf (function 44) -/
def F44.h0 (c0 c1 c2 c3 c4 : Int) (c5 out : List (List PV)) (i : Int) : St :=
  { tmps := [.none, .ptr 0 0, .none, .none, .own 0 out, .v (.int .i64 i), .none, .none, .none, .none, .none, .none, .none, .none, .none, .none, .none, .none, .none, .none, .none, .none, .none, .none, .none, .none, .none, .none, .none, .none, .none, .none, .none, .none, .none, .none, .none, .none, .none, .none, .none, .none, .none, .none, .none, .none, .none, .none, .none, .none, .none, .none, .none, .none, .none, .none, .none, .none, .none, .none, .none, .none, .none, .none, .none, .none, .none, .none, .none, .none, .none, .none, .none, .none, .none, .none, .none, .none, .none, .none, .none, .none, .none, .none, .none, .none, .none, .none, .none, .none, .none, .none, .none, .none, .none, .none, .none, .none, .none, .none, .none, .none, .none, .none, .none, .none, .none], toks := [some out.length], outer := [], heap := [[.v (.int .i64 c0), .v (.int .i64 c1), .v (.int .i64 c2), .v (.int .u64 c3), .v (.int .u64 c4), .v (.sl c5)]] }
def F44.h1 (c0 c1 c2 c3 c4 : Int) (c5 out : List (List PV)) (i : Int) : St :=
  { tmps := [.none, .ptr 0 0, .none, .none, .none, .none, .none, .none, .v (.sl out), .v (.int .i64 i), .none, .none, .none, .none, .none, .none, .none, .none, .none, .none, .none, .none, .none, .none, .none, .none, .none, .none, .none, .none, .none, .none, .none, .none, .none, .none, .none, .none, .none, .none, .none, .none, .none, .none, .none, .none, .none, .none, .none, .none, .none, .none, .none, .none, .none, .none, .none, .none, .none, .none, .none, .none, .none, .none, .none, .none, .none, .none, .none, .none, .none, .none, .none, .none, .none, .none, .none, .none, .none, .none, .none, .none, .none, .none, .none, .none, .none, .none, .none, .none, .none, .none, .none, .none, .none, .none, .none, .none, .none, .none, .none, .none, .none, .none, .none, .none, .none], toks := [], outer := [], heap := [[.v (.int .i64 c0), .v (.int .i64 c1), .v (.int .i64 c2), .v (.int .u64 c3), .v (.int .u64 c4), .v (.sl c5)]] }
def F44.h2 (c0 c1 c2 c3 c4 : Int) (c5 : List (List PV)) (j : Int) (next_1 out_1 : List (List PV)) (i_1 : Int) (x : List (List PV)) : St :=
  { tmps := [.none, .ptr 0 0, .none, .none, .none, .none, .none, .none, .v (.sl out_1), .v (.int .i64 i_1), .v (.sl x), .none, .own 0 next_1, .v (.int .i64 j), .none, .none, .none, .none, .none, .none, .none, .none, .none, .none, .none, .none, .none, .none, .none, .none, .none, .none, .none, .none, .none, .none, .none, .none, .none, .none, .none, .none, .none, .none, .none, .none, .none, .none, .none, .none, .none, .none, .none, .none, .none, .none, .none, .none, .none, .none, .none, .none, .none, .none, .none, .none, .none, .none, .none, .none, .none, .none, .none, .none, .none, .none, .none, .none, .none, .none, .none, .none, .none, .none, .none, .none, .none, .none, .none, .none, .none, .none, .none, .none, .none, .none, .none, .none, .none, .none, .none, .none, .none, .none, .none, .none, .none], toks := [some next_1.length], outer := [], heap := [[.v (.int .i64 c0), .v (.int .i64 c1), .v (.int .i64 c2), .v (.int .u64 c3), .v (.int .u64 c4), .v (.sl c5)]] }
def F44.h3 (c0 c1 c2 c3 c4 : Int) (c5 next : List (List PV)) (k j_1 : Int) (out_2 : List (List PV)) (i_2 : Int) (x_1 : List (List PV)) : St :=
  { tmps := [.none, .ptr 0 0, .none, .none, .none, .none, .none, .none, .v (.sl out_2), .v (.int .i64 i_2), .v (.sl x_1), .none, .own 0 next, .v (.int .i64 j_1), .v (.int .i64 k), .none, .none, .none, .none, .none, .none, .none, .none, .none, .none, .none, .none, .none, .none, .none, .none, .none, .none, .none, .none, .none, .none, .none, .none, .none, .none, .none, .none, .none, .none, .none, .none, .none, .none, .none, .none, .none, .none, .none, .none, .none, .none, .none, .none, .none, .none, .none, .none, .none, .none, .none, .none, .none, .none, .none, .none, .none, .none, .none, .none, .none, .none, .none, .none, .none, .none, .none, .none, .none, .none, .none, .none, .none, .none, .none, .none, .none, .none, .none, .none, .none, .none, .none, .none, .none, .none, .none, .none, .none, .none, .none, .none], toks := [some next.length], outer := [], heap := [[.v (.int .i64 c0), .v (.int .i64 c1), .v (.int .i64 c2), .v (.int .u64 c3), .v (.int .u64 c4), .v (.sl c5)]] }
-- entry: ret
theorem F44.p0 (c0 c1 c2 c3 c4 : Int) (c5 : List (List PV)) (ho0 : (c0 == 1) = true) :
    EvF Try.prog prim 44 [.agg [.int .i64 c0, .int .i64 c1, .int .i64 c2, .int .u64 c3, .int .u64 c4, .sl c5]] [] [] [.v (.sl [[.sl []]]), .v (.int .i64 0)] [] :=
  EvF.of Try.func44 (EvK.done (n := 72) (sc := [.reg [], .reg [{}, ⟨.auto, .h⟩], .reg [], .br (some true), .reg []]) (by kernel_rfl) (ob1 ho0 ob0) ca0)
-- entry: ret
theorem F44.p1 (c0 c1 c2 c3 c4 : Int) (c5 : List (List PV)) (ho0 : (c0 == 1) = false)
    (ho1 : (c0 == 5) = true) :
    EvF Try.prog prim 44 [.agg [.int .i64 c0, .int .i64 c1, .int .i64 c2, .int .u64 c3, .int .u64 c4, .sl c5]] [] [] [.v (.sl [[.sl [[.int .i64 c1, .int .i64 c2, .int .u64 c3, .int .u64 c4]]]]), .v (.int .i64 0)] [] :=
  EvF.of Try.func44 (EvK.done (n := 75) (sc := [.reg [], .reg [{}, ⟨.auto, .h⟩], .reg [], .br (some false), .reg [], .br (some true), .reg [{}, ⟨.auto, .h⟩]]) (by kernel_rfl) (ob1 ho0 (ob1 ho1 ob0)) ca0)
-- entry: to h0
theorem F44.p2 (c0 c1 c2 c3 c4 : Int) (c5 : List (List PV)) {r : List AV} {h : List (List AV)} (ho0 : (c0 == 1) = false)
    (ho1 : (c0 == 5) = false)
    (ho2 : (c0 == 4) = true)
    (hk : EvK Try.prog prim Try.f44 (loopAt Try.f44 0) (F44.h0 c0 c1 c2 c3 c4 c5 ([]) 0) r h) :
    EvF Try.prog prim 44 [.agg [.int .i64 c0, .int .i64 c1, .int .i64 c2, .int .u64 c3, .int .u64 c4, .sl c5]] [] [] r h :=
  EvF.of Try.func44 (EvK.cont (n := 82) (sc := [.reg [], .reg [{}, ⟨.auto, .h⟩], .reg [], .br (some false), .reg [], .br (some false), .reg [], .br (some true), .reg [], .reg [], .cut { kill := [0, 2, 3, 15, 16, 17, 18, 20, 21, 26, 27], weak := [], adopt := [4], adoptB := [], heapLen := 1, toks := [0] }]) (todo' := loopAt Try.f44 0) (s' := F44.h0 c0 c1 c2 c3 c4 c5 ([]) 0) (by kernel_rfl) (ob1 ho0 (ob1 ho1 (ob1 ho2 ob0))) ca0 hk)
-- entry: to h1
theorem F44.p3 (c0 c1 c2 c3 c4 : Int) (c5 : List (List PV)) {r : List AV} {h : List (List AV)} (ho0 : (c0 == 1) = false)
    (ho1 : (c0 == 5) = false)
    (ho2 : (c0 == 4) = false)
    (hk : EvK Try.prog prim Try.f44 (loopAt Try.f44 1) (F44.h1 c0 c1 c2 c3 c4 c5 ([[.sl []]]) 0) r h) :
    EvF Try.prog prim 44 [.agg [.int .i64 c0, .int .i64 c1, .int .i64 c2, .int .u64 c3, .int .u64 c4, .sl c5]] [] [] r h :=
  EvF.of Try.func44 (EvK.cont (n := 84) (sc := [.reg [], .reg [{}, ⟨.auto, .h⟩], .reg [], .br (some false), .reg [], .br (some false), .reg [], .br (some false), .reg [], .reg [], .cut { kill := [0, 2, 3, 15, 16, 17, 18, 20, 21, 26, 27, 54], weak := [8], adopt := [], adoptB := [], heapLen := 1, toks := [] }]) (todo' := loopAt Try.f44 1) (s' := F44.h1 c0 c1 c2 c3 c4 c5 ([[.sl []]]) 0) (by kernel_rfl) (ob1 ho0 (ob1 ho1 (ob1 ho2 ob0))) ca0 hk)
-- h0: ret
theorem F44.l0_4 (c0 c1 c2 c3 c4 : Int) (c5 out : List (List PV)) (i y0_7 y1_7 y2_7 y3_7 y4_7 : Int) (y5_7 dnf0_7 : List (List PV)) (dnf1_7 : Int) (ho0 : (decide (i < ((c5.length : Int)))) = true)
    (ho1 : (0 : Int) ≤ i)
    (ho2 : (c5 : List (List PV))[Int.toNat i]? = some [.int .i64 y0_7, .int .i64 y1_7, .int .i64 y2_7, .int .u64 y3_7, .int .u64 y4_7, .sl y5_7])
    (ho3 : (dnf1_7 != 0) = true)
    (hc0 : EvF Try.prog prim 44 [.agg [.int .i64 y0_7, .int .i64 y1_7, .int .i64 y2_7, .int .u64 y3_7, .int .u64 y4_7, .sl y5_7]] [] [] [.v (.sl dnf0_7), .v (.int .i64 dnf1_7)] []) :
    EvK Try.prog prim Try.f44 (loopAt Try.f44 0) (F44.h0 c0 c1 c2 c3 c4 c5 out i) [.v (.sl []), .v (.int .i64 dnf1_7)] [] :=
  EvK.done (n := 76) (sc := [.reg [{}, {}, ⟨.auto, .h⟩], .br (some true), .reg [{}, ⟨.auto, .h⟩, {}, ⟨.auto, .row [.int .i64 y0_7, .int .i64 y1_7, .int .i64 y2_7, .int .u64 y3_7, .int .u64 y4_7, .sl y5_7]⟩, {}, ⟨.auto, .call [] false [.v (.sl dnf0_7), .v (.int .i64 dnf1_7)]⟩], .reg [], .br (some true), .reg []]) (by kernel_rfl) (ob1 ho0 (ob1 ho1 (ob1 ho2 (ob1 ho3 ob0)))) (ca1 (fun _ : True => hc0) ca0)
-- h0: ret
theorem F44.l0_5 (c0 c1 c2 c3 c4 : Int) (c5 out : List (List PV)) (i y0_7 y1_7 y2_7 y3_7 y4_7 : Int) (y5_7 dnf0_7 : List (List PV)) (dnf1_7 : Int) (ho0 : (decide (i < ((c5.length : Int)))) = true)
    (ho1 : (0 : Int) ≤ i)
    (ho2 : (c5 : List (List PV))[Int.toNat i]? = some [.int .i64 y0_7, .int .i64 y1_7, .int .i64 y2_7, .int .u64 y3_7, .int .u64 y4_7, .sl y5_7])
    (ho3 : (dnf1_7 != 0) = false)
    (ho4 : ((out ++ dnf0_7) : List (List PV)).length * 24 ≤ 2 ^ 47)
    (ho5 : ∀ r ∈ ((out ++ dnf0_7) : List (List PV)), r.length = 1)
    (ho6 : (decide ((((out ++ dnf0_7).length : Int)) > 256)) = true)
    (hc0 : EvF Try.prog prim 44 [.agg [.int .i64 y0_7, .int .i64 y1_7, .int .i64 y2_7, .int .u64 y3_7, .int .u64 y4_7, .sl y5_7]] [] [] [.v (.sl dnf0_7), .v (.int .i64 dnf1_7)] []) :
    EvK Try.prog prim Try.f44 (loopAt Try.f44 0) (F44.h0 c0 c1 c2 c3 c4 c5 out i) [.v (.sl []), .v (.int .i64 9)] [] :=
  EvK.done (n := 82) (sc := [.reg [{}, {}, ⟨.auto, .h⟩], .br (some true), .reg [{}, ⟨.auto, .h⟩, {}, ⟨.auto, .row [.int .i64 y0_7, .int .i64 y1_7, .int .i64 y2_7, .int .u64 y3_7, .int .u64 y4_7, .sl y5_7]⟩, {}, ⟨.auto, .call [] false [.v (.sl dnf0_7), .v (.int .i64 dnf1_7)]⟩], .reg [], .br (some false), .reg [], .reg [], .br (some true), .reg []]) (by kernel_rfl) (ob1 ho0 (ob1 ho1 (ob1 ho2 (ob1 ho3 (ob1 (show out.length = out.length from rfl) (ob1 ho4 (ob1 ho5 (ob1 ho6 ob0)))))))) (ca1 (fun _ : True => hc0) ca0)
-- h0: to h0
theorem F44.l0_6 (c0 c1 c2 c3 c4 : Int) (c5 out : List (List PV)) (i y0_7 y1_7 y2_7 y3_7 y4_7 : Int) (y5_7 dnf0_7 : List (List PV)) (dnf1_7 : Int) {r : List AV} {h : List (List AV)} (ho0 : (decide (i < ((c5.length : Int)))) = true)
    (ho1 : (0 : Int) ≤ i)
    (ho2 : (c5 : List (List PV))[Int.toNat i]? = some [.int .i64 y0_7, .int .i64 y1_7, .int .i64 y2_7, .int .u64 y3_7, .int .u64 y4_7, .sl y5_7])
    (ho3 : (dnf1_7 != 0) = false)
    (ho4 : ((out ++ dnf0_7) : List (List PV)).length * 24 ≤ 2 ^ 47)
    (ho5 : ∀ r ∈ ((out ++ dnf0_7) : List (List PV)), r.length = 1)
    (ho6 : (decide ((((out ++ dnf0_7).length : Int)) > 256)) = false)
    (ho7 : inR .i64 (i + 1))
    (hc0 : EvF Try.prog prim 44 [.agg [.int .i64 y0_7, .int .i64 y1_7, .int .i64 y2_7, .int .u64 y3_7, .int .u64 y4_7, .sl y5_7]] [] [] [.v (.sl dnf0_7), .v (.int .i64 dnf1_7)] [])
    (hk : EvK Try.prog prim Try.f44 (loopAt Try.f44 0) (F44.h0 c0 c1 c2 c3 c4 c5 ((out ++ dnf0_7)) ((i + 1))) r h) :
    EvK Try.prog prim Try.f44 (loopAt Try.f44 0) (F44.h0 c0 c1 c2 c3 c4 c5 out i) r h :=
  EvK.cont (n := 83) (sc := [.reg [{}, {}, ⟨.auto, .h⟩], .br (some true), .reg [{}, ⟨.auto, .h⟩, {}, ⟨.auto, .row [.int .i64 y0_7, .int .i64 y1_7, .int .i64 y2_7, .int .u64 y3_7, .int .u64 y4_7, .sl y5_7]⟩, {}, ⟨.auto, .call [] false [.v (.sl dnf0_7), .v (.int .i64 dnf1_7)]⟩], .reg [], .br (some false), .reg [], .reg [], .br (some false), .reg [{}, ⟨.auto, .nw⟩], .cut { kill := [6, 7, 28, 29, 30, 31, 32, 33, 34, 35, 36, 37, 38, 39, 40, 41, 42, 43, 44, 45, 47, 48, 49, 50, 51, 52], weak := [], adopt := [4], adoptB := [], heapLen := 1, toks := [0] }]) (todo' := loopAt Try.f44 0) (s' := F44.h0 c0 c1 c2 c3 c4 c5 ((out ++ dnf0_7)) ((i + 1))) (by kernel_rfl) (ob1 ho0 (ob1 ho1 (ob1 ho2 (ob1 ho3 (ob1 (show out.length = out.length from rfl) (ob1 ho4 (ob1 ho5 (ob1 ho6 (ob1 ho7 ob0))))))))) (ca1 (fun _ : True => hc0) ca0) hk
-- h0: ret
theorem F44.l0_7 (c0 c1 c2 c3 c4 : Int) (c5 out : List (List PV)) (i : Int) (ho0 : (decide (i < ((c5.length : Int)))) = false) :
    EvK Try.prog prim Try.f44 (loopAt Try.f44 0) (F44.h0 c0 c1 c2 c3 c4 c5 out i) [.own 0 out, .v (.int .i64 0)] [] :=
  EvK.done (n := 68) (sc := [.reg [{}, {}, ⟨.auto, .h⟩], .br (some false), .reg []]) (by kernel_rfl) (ob1 ho0 (ob1 (show out.length = out.length from rfl) ob0)) ca0
-- h1: ret
theorem F44.l1_8 (c0 c1 c2 c3 c4 : Int) (c5 out : List (List PV)) (i y0_5 y1_4 y2_4 y3_4 y4_4 : Int) (y5_4 dnf0_4 : List (List PV)) (dnf1_4 : Int) (ho0 : (decide (i < ((c5.length : Int)))) = true)
    (ho1 : (0 : Int) ≤ i)
    (ho2 : (c5 : List (List PV))[Int.toNat i]? = some [.int .i64 y0_5, .int .i64 y1_4, .int .i64 y2_4, .int .u64 y3_4, .int .u64 y4_4, .sl y5_4])
    (ho3 : (dnf1_4 != 0) = true)
    (hc0 : EvF Try.prog prim 44 [.agg [.int .i64 y0_5, .int .i64 y1_4, .int .i64 y2_4, .int .u64 y3_4, .int .u64 y4_4, .sl y5_4]] [] [] [.v (.sl dnf0_4), .v (.int .i64 dnf1_4)] []) :
    EvK Try.prog prim Try.f44 (loopAt Try.f44 1) (F44.h1 c0 c1 c2 c3 c4 c5 out i) [.v (.sl []), .v (.int .i64 dnf1_4)] [] :=
  EvK.done (n := 76) (sc := [.reg [{}, {}, ⟨.auto, .h⟩], .br (some true), .reg [{}, ⟨.auto, .h⟩, {}, ⟨.auto, .row [.int .i64 y0_5, .int .i64 y1_4, .int .i64 y2_4, .int .u64 y3_4, .int .u64 y4_4, .sl y5_4]⟩, {}, ⟨.auto, .call [] false [.v (.sl dnf0_4), .v (.int .i64 dnf1_4)]⟩], .reg [], .br (some true), .reg []]) (by kernel_rfl) (ob1 ho0 (ob1 ho1 (ob1 ho2 (ob1 ho3 ob0)))) (ca1 (fun _ : True => hc0) ca0)
-- h1: ret
theorem F44.l1_9 (c0 c1 c2 c3 c4 : Int) (c5 out : List (List PV)) (i y0_5 y1_4 y2_4 y3_4 y4_4 : Int) (y5_4 dnf0_4 : List (List PV)) (dnf1_4 : Int) (ho0 : (decide (i < ((c5.length : Int)))) = true)
    (ho1 : (0 : Int) ≤ i)
    (ho2 : (c5 : List (List PV))[Int.toNat i]? = some [.int .i64 y0_5, .int .i64 y1_4, .int .i64 y2_4, .int .u64 y3_4, .int .u64 y4_4, .sl y5_4])
    (ho3 : (dnf1_4 != 0) = false)
    (ho4 : inR .i64 (((out.length : Int)) * ((dnf0_4.length : Int))))
    (ho5 : (decide ((((out.length : Int)) * ((dnf0_4.length : Int))) > 256)) = true)
    (hc0 : EvF Try.prog prim 44 [.agg [.int .i64 y0_5, .int .i64 y1_4, .int .i64 y2_4, .int .u64 y3_4, .int .u64 y4_4, .sl y5_4]] [] [] [.v (.sl dnf0_4), .v (.int .i64 dnf1_4)] []) :
    EvK Try.prog prim Try.f44 (loopAt Try.f44 1) (F44.h1 c0 c1 c2 c3 c4 c5 out i) [.v (.sl []), .v (.int .i64 9)] [] :=
  EvK.done (n := 81) (sc := [.reg [{}, {}, ⟨.auto, .h⟩], .br (some true), .reg [{}, ⟨.auto, .h⟩, {}, ⟨.auto, .row [.int .i64 y0_5, .int .i64 y1_4, .int .i64 y2_4, .int .u64 y3_4, .int .u64 y4_4, .sl y5_4]⟩, {}, ⟨.auto, .call [] false [.v (.sl dnf0_4), .v (.int .i64 dnf1_4)]⟩], .reg [], .br (some false), .reg [{}, {}, {}, {}, ⟨.auto, .nw⟩], .br (some true), .reg []]) (by kernel_rfl) (ob1 ho0 (ob1 ho1 (ob1 ho2 (ob1 ho3 (ob1 ho4 (ob1 ho5 ob0)))))) (ca1 (fun _ : True => hc0) ca0)
-- h1: to h2
theorem F44.l1_10 (c0 c1 c2 c3 c4 : Int) (c5 out : List (List PV)) (i y0_5 y1_4 y2_4 y3_4 y4_4 : Int) (y5_4 dnf0_4 : List (List PV)) (dnf1_4 : Int) {r : List AV} {h : List (List AV)} (ho0 : (decide (i < ((c5.length : Int)))) = true)
    (ho1 : (0 : Int) ≤ i)
    (ho2 : (c5 : List (List PV))[Int.toNat i]? = some [.int .i64 y0_5, .int .i64 y1_4, .int .i64 y2_4, .int .u64 y3_4, .int .u64 y4_4, .sl y5_4])
    (ho3 : (dnf1_4 != 0) = false)
    (ho4 : inR .i64 (((out.length : Int)) * ((dnf0_4.length : Int))))
    (ho5 : (decide ((((out.length : Int)) * ((dnf0_4.length : Int))) > 256)) = false)
    (hc0 : EvF Try.prog prim 44 [.agg [.int .i64 y0_5, .int .i64 y1_4, .int .i64 y2_4, .int .u64 y3_4, .int .u64 y4_4, .sl y5_4]] [] [] [.v (.sl dnf0_4), .v (.int .i64 dnf1_4)] [])
    (hk : EvK Try.prog prim Try.f44 (loopAt Try.f44 2) (F44.h2 c0 c1 c2 c3 c4 c5 0 ([]) out i dnf0_4) r h) :
    EvK Try.prog prim Try.f44 (loopAt Try.f44 1) (F44.h1 c0 c1 c2 c3 c4 c5 out i) r h :=
  EvK.cont (n := 86) (sc := [.reg [{}, {}, ⟨.auto, .h⟩], .br (some true), .reg [{}, ⟨.auto, .h⟩, {}, ⟨.auto, .row [.int .i64 y0_5, .int .i64 y1_4, .int .i64 y2_4, .int .u64 y3_4, .int .u64 y4_4, .sl y5_4]⟩, {}, ⟨.auto, .call [] false [.v (.sl dnf0_4), .v (.int .i64 dnf1_4)]⟩], .reg [], .br (some false), .reg [{}, {}, {}, {}, ⟨.auto, .nw⟩], .br (some false), .reg [], .reg [], .cut { kill := [11, 55, 56, 57, 58, 59, 62, 63, 64, 65, 66, 67, 68, 69, 70, 71, 72, 74, 75, 76, 77, 78, 79], weak := [], adopt := [12], adoptB := [], heapLen := 1, toks := [0] }]) (todo' := loopAt Try.f44 2) (s' := F44.h2 c0 c1 c2 c3 c4 c5 0 ([]) out i dnf0_4) (by kernel_rfl) (ob1 ho0 (ob1 ho1 (ob1 ho2 (ob1 ho3 (ob1 ho4 (ob1 ho5 ob0)))))) (ca1 (fun _ : True => hc0) ca0) hk
-- h1: ret
theorem F44.l1_11 (c0 c1 c2 c3 c4 : Int) (c5 out : List (List PV)) (i : Int) (ho0 : (decide (i < ((c5.length : Int)))) = false) :
    EvK Try.prog prim Try.f44 (loopAt Try.f44 1) (F44.h1 c0 c1 c2 c3 c4 c5 out i) [.v (.sl out), .v (.int .i64 0)] [] :=
  EvK.done (n := 68) (sc := [.reg [{}, {}, ⟨.auto, .h⟩], .br (some false), .reg []]) (by kernel_rfl) (ob1 ho0 ob0) ca0
-- h2: to h3
theorem F44.l2_12 (c0 c1 c2 c3 c4 : Int) (c5 : List (List PV)) (j : Int) (next_1 out_1 : List (List PV)) (i_1 : Int) (x : List (List PV)) {r : List AV} {h : List (List AV)} (ho0 : (decide (j < ((out_1.length : Int)))) = true)
    (hk : EvK Try.prog prim Try.f44 (loopAt Try.f44 3) (F44.h3 c0 c1 c2 c3 c4 c5 next_1 0 j out_1 i_1 x) r h) :
    EvK Try.prog prim Try.f44 (loopAt Try.f44 2) (F44.h2 c0 c1 c2 c3 c4 c5 j next_1 out_1 i_1 x) r h :=
  EvK.cont (n := 71) (sc := [.reg [], .br (some true), .reg [], .cut { kill := [80, 81, 82, 83], weak := [], adopt := [12], adoptB := [], heapLen := 1, toks := [0] }]) (todo' := loopAt Try.f44 3) (s' := F44.h3 c0 c1 c2 c3 c4 c5 next_1 0 j out_1 i_1 x) (by kernel_rfl) (ob1 ho0 ob0) ca0 hk
-- h2: to h1
theorem F44.l2_13 (c0 c1 c2 c3 c4 : Int) (c5 : List (List PV)) (j : Int) (next_1 out_1 : List (List PV)) (i_1 : Int) (x : List (List PV)) {r : List AV} {h : List (List AV)} (ho0 : (decide (j < ((out_1.length : Int)))) = false)
    (ho1 : inR .i64 (i_1 + 1))
    (hk : EvK Try.prog prim Try.f44 (loopAt Try.f44 1) (F44.h1 c0 c1 c2 c3 c4 c5 next_1 ((i_1 + 1))) r h) :
    EvK Try.prog prim Try.f44 (loopAt Try.f44 2) (F44.h2 c0 c1 c2 c3 c4 c5 j next_1 out_1 i_1 x) r h :=
  EvK.cont (n := 69) (sc := [.reg [], .br (some false), .reg [], .reg [{}, ⟨.auto, .nw⟩], .cut { kill := [10, 12, 13, 60, 61, 80, 81, 82, 83, 105], weak := [8], adopt := [], adoptB := [], heapLen := 1, toks := [] }]) (todo' := loopAt Try.f44 1) (s' := F44.h1 c0 c1 c2 c3 c4 c5 next_1 ((i_1 + 1))) (by kernel_rfl) (ob1 ho0 (ob1 ho1 ob0)) ca0 hk
-- h3: to h3
theorem F44.l3_14 (c0 c1 c2 c3 c4 : Int) (c5 next : List (List PV)) (k j_1 : Int) (out_2 : List (List PV)) (i_2 : Int) (x_1 y0_9 y0_10 : List (List PV)) {r : List AV} {h : List (List AV)} (ho0 : (decide (k < ((x_1.length : Int)))) = true)
    (ho1 : (0 : Int) ≤ j_1)
    (ho2 : (out_2 : List (List PV))[Int.toNat j_1]? = some [.sl y0_9])
    (ho3 : (y0_9 : List (List PV)).length * 32 ≤ 2 ^ 47)
    (ho4 : ∀ r ∈ (y0_9 : List (List PV)), r.length = 4)
    (ho5 : (0 : Int) ≤ k)
    (ho6 : (x_1 : List (List PV))[Int.toNat k]? = some [.sl y0_10])
    (ho7 : ((y0_9 ++ y0_10) : List (List PV)).length * 32 ≤ 2 ^ 47)
    (ho8 : ∀ r ∈ ((y0_9 ++ y0_10) : List (List PV)), r.length = 4)
    (ho9 : ((next ++ [[.sl (y0_9 ++ y0_10)]]) : List (List PV)).length * 24 ≤ 2 ^ 47)
    (ho10 : ∀ r ∈ ((next ++ [[.sl (y0_9 ++ y0_10)]]) : List (List PV)), r.length = 1)
    (ho11 : inR .i64 (k + 1))
    (hk : EvK Try.prog prim Try.f44 (loopAt Try.f44 3) (F44.h3 c0 c1 c2 c3 c4 c5 ((next ++ [[.sl (y0_9 ++ y0_10)]])) ((k + 1)) j_1 out_2 i_2 x_1) r h) :
    EvK Try.prog prim Try.f44 (loopAt Try.f44 3) (F44.h3 c0 c1 c2 c3 c4 c5 next k j_1 out_2 i_2 x_1) r h :=
  EvK.cont (n := 71) (sc := [.reg [], .br (some true), .reg [{}, {}, {}, ⟨.auto, .row [.sl y0_9]⟩, {}, {}, {}, {}, ⟨.auto, .row [.sl y0_10]⟩], .reg [{}, ⟨.auto, .nw⟩], .cut { kill := [86, 87, 88, 89, 90, 91, 92, 93, 94, 95, 96, 97, 98, 99, 100, 101, 102, 103, 104], weak := [], adopt := [12], adoptB := [], heapLen := 1, toks := [0] }]) (todo' := loopAt Try.f44 3) (s' := F44.h3 c0 c1 c2 c3 c4 c5 ((next ++ [[.sl (y0_9 ++ y0_10)]])) ((k + 1)) j_1 out_2 i_2 x_1) (by kernel_rfl) (ob1 ho0 (ob1 ho1 (ob1 ho2 (ob1 ho3 (ob1 ho4 (ob1 ho5 (ob1 ho6 (ob1 (show y0_9.length = y0_9.length from rfl) (ob1 ho7 (ob1 ho8 (ob1 (show next.length = next.length from rfl) (ob1 ho9 (ob1 ho10 (ob1 ho11 ob0)))))))))))))) ca0 hk
-- h3: to h2
theorem F44.l3_15 (c0 c1 c2 c3 c4 : Int) (c5 next : List (List PV)) (k j_1 : Int) (out_2 : List (List PV)) (i_2 : Int) (x_1 : List (List PV)) {r : List AV} {h : List (List AV)} (ho0 : (decide (k < ((x_1.length : Int)))) = false)
    (ho1 : inR .i64 (j_1 + 1))
    (hk : EvK Try.prog prim Try.f44 (loopAt Try.f44 2) (F44.h2 c0 c1 c2 c3 c4 c5 ((j_1 + 1)) next out_2 i_2 x_1) r h) :
    EvK Try.prog prim Try.f44 (loopAt Try.f44 3) (F44.h3 c0 c1 c2 c3 c4 c5 next k j_1 out_2 i_2 x_1) r h :=
  EvK.cont (n := 68) (sc := [.reg [], .br (some false), .reg [{}, ⟨.auto, .nw⟩], .cut { kill := [14, 84, 85, 86, 87, 88, 89], weak := [], adopt := [12], adoptB := [], heapLen := 1, toks := [0] }]) (todo' := loopAt Try.f44 2) (s' := F44.h2 c0 c1 c2 c3 c4 c5 ((j_1 + 1)) next out_2 i_2 x_1) (by kernel_rfl) (ob1 ho0 (ob1 ho1 ob0)) ca0 hk
/-! ### tipstaff/clauses.join (function 54) -/
-- entry: ret
theorem F54.p0 (far : List (List PV)) (kind : Int) (kid z : List (List PV)) (ho0 : (kind == 3) = true)
    (hc0 : EvF Try.prog prim 56 [.v (.sl far), .v (.sl kid)] [] [] [.own 0 z, .v (.bool true)] []) :
    EvF Try.prog prim 54 [.v (.int .i64 kind), .own 0 far, .v (.sl kid)] [some far.length] [] [.own 0 z, .v (.bool true)] [] :=
  EvF.of Try.func54 (EvK.done (n := 69) (sc := [.reg [], .reg [], .br (some true), .reg [{}, {}, ⟨.auto, .call [] true [.own 0 z, .v (.bool true)]⟩]]) (by kernel_rfl) (ob1 ho0 (ob1 (show z.length = z.length from rfl) ob0)) (ca1 (fun _ : True => hc0) ca0))
-- entry: ret
theorem F54.p1 (far : List (List PV)) (kind : Int) (kid z : List (List PV)) (ho0 : (kind == 3) = true)
    (hc0 : EvF Try.prog prim 56 [.v (.sl far), .v (.sl kid)] [] [] [.v (.sl z), .v (.bool false)] []) :
    EvF Try.prog prim 54 [.v (.int .i64 kind), .own 0 far, .v (.sl kid)] [some far.length] [] [.v (.sl z), .v (.bool false)] [] :=
  EvF.of Try.func54 (EvK.done (n := 69) (sc := [.reg [], .reg [], .br (some true), .reg [{}, {}, ⟨.auto, .call [] true [.v (.sl z), .v (.bool false)]⟩]]) (by kernel_rfl) (ob1 ho0 ob0) (ca1 (fun _ : True => hc0) ca0))
-- entry: ret
theorem F54.p2 (far : List (List PV)) (kind : Int) (kid : List (List PV)) (ho0 : (kind == 3) = false)
    (ho1 : ((far ++ kid) : List (List PV)).length * 24 ≤ 2 ^ 47)
    (ho2 : ∀ r ∈ ((far ++ kid) : List (List PV)), r.length = 1) :
    EvF Try.prog prim 54 [.v (.int .i64 kind), .own 0 far, .v (.sl kid)] [some far.length] [] [.own 0 (far ++ kid), .v (.bool (decide ((((far ++ kid).length : Int)) ≤ 256)))] [] :=
  EvF.of Try.func54 (EvK.done (n := 72) (sc := [.reg [], .reg [], .br (some false), .reg [], .reg []]) (by kernel_rfl) (ob1 ho0 (ob1 (show far.length = far.length from rfl) (ob1 ho1 (ob1 ho2 (ob1 (show (far ++ kid).length = (far ++ kid).length from rfl) ob0))))) ca0)
/-! ### tipstaff/clauses.Product[tipstaff/api.Atom] (function 56) -/
def F56.h0 (a b : List (List PV)) (t19 : Int) (out_1 : List (List PV)) : St :=
  { tmps := [.none, .v (.sl b), .none, .none, .none, .none, .own 0 out_1, .none, .none, .none, .none, .none, .none, .none, .none, .none, .none, .v (.sl a), .v (.int .i64 ((a.length : Int))), .v (.int .i64 t19), .none, .none, .none, .none, .none, .none, .none, .none, .none, .none, .none, .none, .none, .none, .none, .none, .none, .none, .none], toks := [some out_1.length], outer := [], heap := [] }
def F56.h1 (a b out : List (List PV)) (t25 : Int) (x : List (List PV)) (t19_1 : Int) : St :=
  { tmps := [.none, .v (.sl b), .none, .none, .none, .none, .own 0 out, .none, .v (.sl x), .none, .none, .none, .none, .none, .none, .none, .none, .v (.sl a), .v (.int .i64 ((a.length : Int))), .v (.int .i64 t19_1), .none, .none, .none, .v (.sl b), .v (.int .i64 ((b.length : Int))), .v (.int .i64 t25), .none, .none, .none, .none, .none, .none, .none, .none, .none, .none, .none, .none, .none], toks := [some out.length], outer := [], heap := [] }
-- entry: ret
theorem F56.p0 (a b : List (List PV)) (ho0 : inR .i64 (((a.length : Int)) * ((b.length : Int))))
    (ho1 : (decide ((((a.length : Int)) * ((b.length : Int))) > 256)) = true) :
    EvF Try.prog prim 56 [.v (.sl a), .v (.sl b)] [] [] [.v (.sl []), .v (.bool false)] [] :=
  EvF.of Try.func56 (EvK.done (n := 69) (sc := [.reg [], .reg [{}, {}, {}, {}, ⟨.auto, .nw⟩], .br (some true), .reg []]) (by kernel_rfl) (ob1 ho0 (ob1 ho1 ob0)) ca0)
-- entry: to h0
theorem F56.p1 (a b : List (List PV)) {r : List AV} {h : List (List AV)} (ho0 : inR .i64 (((a.length : Int)) * ((b.length : Int))))
    (ho1 : (decide ((((a.length : Int)) * ((b.length : Int))) > 256)) = false)
    (hk : EvK Try.prog prim Try.f56 (loopAt Try.f56 0) (F56.h0 a b 0 ([])) r h) :
    EvF Try.prog prim 56 [.v (.sl a), .v (.sl b)] [] [] r h :=
  EvF.of Try.func56 (EvK.cont (n := 74) (sc := [.reg [], .reg [{}, {}, {}, {}, ⟨.auto, .nw⟩], .br (some false), .reg [], .reg [], .cut { kill := [0, 4, 5, 11, 12, 13, 14, 15, 16], weak := [], adopt := [6], adoptB := [], heapLen := 0, toks := [0] }]) (todo' := loopAt Try.f56 0) (s' := F56.h0 a b 0 ([])) (by kernel_rfl) (ob1 ho0 (ob1 ho1 ob0)) ca0 hk)
-- h0: to h1
theorem F56.l0_2 (a b : List (List PV)) (t19 : Int) (out_1 y0_3 : List (List PV)) {r : List AV} {h : List (List AV)} (ho0 : (decide (t19 < ((a.length : Int)))) = true)
    (ho1 : (0 : Int) ≤ t19)
    (ho2 : (a : List (List PV))[Int.toNat t19]? = some [.sl y0_3])
    (hk : EvK Try.prog prim Try.f56 (loopAt Try.f56 1) (F56.h1 a b out_1 0 y0_3 t19) r h) :
    EvK Try.prog prim Try.f56 (loopAt Try.f56 0) (F56.h0 a b t19 out_1) r h :=
  EvK.cont (n := 73) (sc := [.reg [], .br (some true), .reg [⟨.auto, .row [.sl y0_3]⟩], .reg [], .cut { kill := [20, 21, 22], weak := [], adopt := [6], adoptB := [], heapLen := 0, toks := [0] }]) (todo' := loopAt Try.f56 1) (s' := F56.h1 a b out_1 0 y0_3 t19) (by kernel_rfl) (ob1 ho0 (ob1 ho1 (ob1 ho2 ob0))) ca0 hk
-- h0: ret
theorem F56.l0_3 (a b : List (List PV)) (t19 : Int) (out_1 : List (List PV)) (ho0 : (decide (t19 < ((a.length : Int)))) = false) :
    EvK Try.prog prim Try.f56 (loopAt Try.f56 0) (F56.h0 a b t19 out_1) [.own 0 out_1, .v (.bool true)] [] :=
  EvK.done (n := 68) (sc := [.reg [], .br (some false), .reg []]) (by kernel_rfl) (ob1 ho0 (ob1 (show out_1.length = out_1.length from rfl) ob0)) ca0
-- h1: to h1
theorem F56.l1_4 (a b out : List (List PV)) (t25 : Int) (x : List (List PV)) (t19_1 : Int) (y0_4 atom_3 : List (List PV)) {r : List AV} {h : List (List AV)} (ho0 : (decide (t25 < ((b.length : Int)))) = true)
    (ho1 : (0 : Int) ≤ t25)
    (ho2 : (b : List (List PV))[Int.toNat t25]? = some [.sl y0_4])
    (ho3 : ((out ++ [[.sl atom_3]]) : List (List PV)).length * 24 ≤ 2 ^ 47)
    (ho4 : ∀ r ∈ ((out ++ [[.sl atom_3]]) : List (List PV)), r.length = 1)
    (ho5 : inR .i64 (t25 + 1))
    (hc0 : EvF Try.prog prim 58 [.v (.sl [[.sl x], [.sl y0_4]])] [] [] [.v (.sl atom_3)] [])
    (hk : EvK Try.prog prim Try.f56 (loopAt Try.f56 1) (F56.h1 a b ((out ++ [[.sl atom_3]])) ((t25 + 1)) x t19_1) r h) :
    EvK Try.prog prim Try.f56 (loopAt Try.f56 1) (F56.h1 a b out t25 x t19_1) r h :=
  EvK.cont (n := 73) (sc := [.reg [], .br (some true), .reg [⟨.auto, .row [.sl y0_4]⟩], .reg [{}, {}, {}, {}, ⟨.auto, .call [] false [.v (.sl atom_3)]⟩], .reg [⟨.auto, .nw⟩], .cut { kill := [10, 26, 27, 28, 29, 30, 31, 32, 33, 34, 35, 36], weak := [], adopt := [6], adoptB := [], heapLen := 0, toks := [0] }]) (todo' := loopAt Try.f56 1) (s' := F56.h1 a b ((out ++ [[.sl atom_3]])) ((t25 + 1)) x t19_1) (by kernel_rfl) (ob1 ho0 (ob1 ho1 (ob1 ho2 (ob1 (show out.length = out.length from rfl) (ob1 ho3 (ob1 ho4 (ob1 ho5 ob0))))))) (ca1 (fun _ : True => hc0) ca0) hk
-- h1: to h0
theorem F56.l1_5 (a b out : List (List PV)) (t25 : Int) (x : List (List PV)) (t19_1 : Int) {r : List AV} {h : List (List AV)} (ho0 : (decide (t25 < ((b.length : Int)))) = false)
    (ho1 : inR .i64 (t19_1 + 1))
    (hk : EvK Try.prog prim Try.f56 (loopAt Try.f56 0) (F56.h0 a b ((t19_1 + 1)) out) r h) :
    EvK Try.prog prim Try.f56 (loopAt Try.f56 1) (F56.h1 a b out t25 x t19_1) r h :=
  EvK.cont (n := 68) (sc := [.reg [], .br (some false), .reg [⟨.auto, .nw⟩], .cut { kill := [8, 23, 24, 25, 26, 37], weak := [], adopt := [6], adoptB := [], heapLen := 0, toks := [0] }]) (todo' := loopAt Try.f56 0) (s' := F56.h0 a b ((t19_1 + 1)) out) (by kernel_rfl) (ob1 ho0 (ob1 ho1 ob0)) ca0 hk
/-! ### slices.Concat[[]tipstaff/api.Atom,tipstaff/api.Atom] (function 58) -/
-- entry: ret
theorem F58.p0 (x y : List (List PV)) (ho0 : inR .i64 (0 + ((x.length : Int))))
    (ho1 : (decide ((0 + ((x.length : Int))) < 0)) = false)
    (ho2 : inR .i64 ((0 + ((x.length : Int))) + ((y.length : Int))))
    (ho3 : (decide (((0 + ((x.length : Int))) + ((y.length : Int))) < 0)) = false)
    (ho4 : (x : List (List PV)) = [])
    (ho5 : (y : List (List PV)) = [])
    (hc0 : prim 59 [.own 0 [], .v (.int .i64 ((0 + ((x.length : Int))) + ((y.length : Int))))] [.vac 0 4]) :
    EvF Try.prog prim 58 [.v (.sl [[.sl x], [.sl y]])] [] [] [.v (.sl [])] [] :=
  EvF.of Try.func58 (EvK.done (n := 151) (sc := [.reg [], .reg [], .reg [], .reg [], .br .none, .reg [], .reg [{}, {}, {}, ⟨.auto, .nw⟩], .reg [], .br (some false), .reg [], .reg [], .br .none, .reg [], .reg [{}, {}, {}, ⟨.auto, .nw⟩], .reg [], .br (some false), .reg [], .reg [], .br .none, .reg [{}, ⟨.auto, .call [true, false] true [.vac 0 4]⟩], .reg [], .reg [], .br .none, .reg [], .reg [{}, {}, ⟨.auto, .keep⟩], .reg [], .reg [], .br .none, .reg [], .reg [{}, {}, ⟨.auto, .keep⟩], .reg [], .reg [], .br .none, .reg []]) (by kernel_rfl) (ob1 ho0 (ob1 ho1 (ob1 ho2 (ob1 ho3 (ob1 ho4 (ob1 ho5 ob0)))))) (cp1 (fun _ : True => hc0) ca0))
-- entry: ret
theorem F58.p1 (x y : List (List PV)) (ho0 : inR .i64 (0 + ((x.length : Int))))
    (ho1 : (decide ((0 + ((x.length : Int))) < 0)) = false)
    (ho2 : inR .i64 ((0 + ((x.length : Int))) + ((y.length : Int))))
    (ho3 : (decide (((0 + ((x.length : Int))) + ((y.length : Int))) < 0)) = false)
    (ho4 : (x : List (List PV)) = [])
    (ho5 : (y : List (List PV)) ≠ [])
    (ho6 : (y : List (List PV)).length * 32 ≤ 2 ^ 47)
    (ho7 : ∀ r ∈ (y : List (List PV)), r.length = 4)
    (hc0 : prim 59 [.own 0 [], .v (.int .i64 ((0 + ((x.length : Int))) + ((y.length : Int))))] [.vac 0 4]) :
    EvF Try.prog prim 58 [.v (.sl [[.sl x], [.sl y]])] [] [] [.own 0 y] [] :=
  EvF.of Try.func58 (EvK.done (n := 151) (sc := [.reg [], .reg [], .reg [], .reg [], .br .none, .reg [], .reg [{}, {}, {}, ⟨.auto, .nw⟩], .reg [], .br (some false), .reg [], .reg [], .br .none, .reg [], .reg [{}, {}, {}, ⟨.auto, .nw⟩], .reg [], .br (some false), .reg [], .reg [], .br .none, .reg [{}, ⟨.auto, .call [true, false] true [.vac 0 4]⟩], .reg [], .reg [], .br .none, .reg [], .reg [{}, {}, ⟨.auto, .keep⟩], .reg [], .reg [], .br .none, .reg [], .reg [], .reg [], .reg [], .br .none, .reg []]) (by kernel_rfl) (ob1 ho0 (ob1 ho1 (ob1 ho2 (ob1 ho3 (ob1 ho4 (ob1 (show (0 : Nat) = 0 from rfl) (ob1 ho5 (ob1 ho6 (ob1 ho7 (ob1 (show y.length = y.length from rfl) ob0)))))))))) (cp1 (fun _ : True => hc0) ca0))
-- entry: ret
theorem F58.p2 (x y : List (List PV)) (ho0 : inR .i64 (0 + ((x.length : Int))))
    (ho1 : (decide ((0 + ((x.length : Int))) < 0)) = false)
    (ho2 : inR .i64 ((0 + ((x.length : Int))) + ((y.length : Int))))
    (ho3 : (decide (((0 + ((x.length : Int))) + ((y.length : Int))) < 0)) = false)
    (ho4 : (x : List (List PV)) ≠ [])
    (ho5 : (x : List (List PV)).length * 32 ≤ 2 ^ 47)
    (ho6 : ∀ r ∈ (x : List (List PV)), r.length = 4)
    (ho7 : ((x ++ y) : List (List PV)).length * 32 ≤ 2 ^ 47)
    (ho8 : ∀ r ∈ ((x ++ y) : List (List PV)), r.length = 4)
    (hc0 : prim 59 [.own 0 [], .v (.int .i64 ((0 + ((x.length : Int))) + ((y.length : Int))))] [.vac 0 4]) :
    EvF Try.prog prim 58 [.v (.sl [[.sl x], [.sl y]])] [] [] [.own 0 (x ++ y)] [] :=
  EvF.of Try.func58 (EvK.done (n := 151) (sc := [.reg [], .reg [], .reg [], .reg [], .br .none, .reg [], .reg [{}, {}, {}, ⟨.auto, .nw⟩], .reg [], .br (some false), .reg [], .reg [], .br .none, .reg [], .reg [{}, {}, {}, ⟨.auto, .nw⟩], .reg [], .br (some false), .reg [], .reg [], .br .none, .reg [{}, ⟨.auto, .call [true, false] true [.vac 0 4]⟩], .reg [], .reg [], .br .none, .reg [], .reg [], .reg [], .reg [], .br .none, .reg [], .reg [], .reg [], .reg [], .br .none, .reg []]) (by kernel_rfl) (ob1 ho0 (ob1 ho1 (ob1 ho2 (ob1 ho3 (ob1 (show (0 : Nat) = 0 from rfl) (ob1 ho4 (ob1 ho5 (ob1 ho6 (ob1 (show x.length = x.length from rfl) (ob1 ho7 (ob1 ho8 (ob1 (show (x ++ y).length = (x ++ y).length from rfl) ob0)))))))))))) (cp1 (fun _ : True => hc0) ca0))
-- entry: ret
theorem F58.p3 (x y : List (List PV)) (ho0 : inR .i64 (0 + ((x.length : Int))))
    (ho1 : (decide ((0 + ((x.length : Int))) < 0)) = false)
    (ho2 : inR .i64 ((0 + ((x.length : Int))) + ((y.length : Int))))
    (ho3 : (decide (((0 + ((x.length : Int))) + ((y.length : Int))) < 0)) = false)
    (ho4 : (([] ++ x) : List (List PV)).length * 32 ≤ 2 ^ 47)
    (ho5 : ∀ r ∈ (([] ++ x) : List (List PV)), r.length = 4)
    (ho6 : ((([] ++ x) ++ y) : List (List PV)).length * 32 ≤ 2 ^ 47)
    (ho7 : ∀ r ∈ ((([] ++ x) ++ y) : List (List PV)), r.length = 4)
    (hc0 : prim 59 [.own 0 [], .v (.int .i64 ((0 + ((x.length : Int))) + ((y.length : Int))))] [.own 0 []]) :
    EvF Try.prog prim 58 [.v (.sl [[.sl x], [.sl y]])] [] [] [.own 0 (([] ++ x) ++ y)] [] :=
  EvF.of Try.func58 (EvK.done (n := 151) (sc := [.reg [], .reg [], .reg [], .reg [], .br .none, .reg [], .reg [{}, {}, {}, ⟨.auto, .nw⟩], .reg [], .br (some false), .reg [], .reg [], .br .none, .reg [], .reg [{}, {}, {}, ⟨.auto, .nw⟩], .reg [], .br (some false), .reg [], .reg [], .br .none, .reg [{}, ⟨.auto, .call [true, false] true [.own 0 []]⟩], .reg [], .reg [], .br .none, .reg [], .reg [], .reg [], .reg [], .br .none, .reg [], .reg [], .reg [], .reg [], .br .none, .reg []]) (by kernel_rfl) (ob1 ho0 (ob1 ho1 (ob1 ho2 (ob1 ho3 (ob1 (show ([] : List (List PV)).length = ([] : List (List PV)).length from rfl) (ob1 ho4 (ob1 ho5 (ob1 (show ([] ++ x).length = ([] ++ x).length from rfl) (ob1 ho6 (ob1 ho7 (ob1 (show (([] ++ x) ++ y).length = (([] ++ x) ++ y).length from rfl) ob0))))))))))) (cp1 (fun _ : True => hc0) ca0))
end Go.Ab.S1
