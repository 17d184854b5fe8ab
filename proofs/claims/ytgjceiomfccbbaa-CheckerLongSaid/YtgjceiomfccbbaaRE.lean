/-
The paths of the functions 23, 31, 32, 39, 40, 41, 42, 48, 49, 50, 51, 52, 53, 55, 56, 57, 22, as the evaluator goes them: printed by a program.
-/
import Derived.Test.YtgjceiomfccbbaaBase
namespace Go.Ab.S3
open Go Go.Proofs Go.Ab
set_option maxRecDepth 100000
/-! ### tipstaff/checker.Check (function 23) -/
-- entry: ret
theorem F23.p0 (l : List (List PV)) (long : Bool) (ho0 : long = true)
    (hc0 : EvF Try.prog prim 31 [.v (.sl l)] [] [] [.v (.bool long)] []) :
    EvF Try.prog prim 23 [.v (.sl l)] [] [] [.v (.int .i64 0), .v (.bool false)] [] :=
  EvF.of Try.func23 (EvK.done (n := 69) (sc := [.reg [], .reg [{}, ⟨.auto, .call [] false [.v (.bool long)]⟩], .br (some true), .reg []]) (by kernel_rfl) (ob1 ho0 ob0) (ca1 (fun _ : True => hc0) ca0))
-- entry: ret
theorem F23.p1 (l : List (List PV)) (long : Bool) (at_ : Int) (ho0 : long = false)
    (hc0 : EvF Try.prog prim 31 [.v (.sl l)] [] [] [.v (.bool long)] [])
    (hc1 : EvF Try.prog prim 32 [.v (.sl l), .v (.bool true)] [] [] [.v (.int .i64 at_), .v (.sl [])] []) :
    EvF Try.prog prim 23 [.v (.sl l)] [] [] [.v (.int .i64 at_), .v (.bool (at_ == (-1)))] [] :=
  EvF.of Try.func23 (EvK.done (n := 72) (sc := [.reg [], .reg [{}, ⟨.auto, .call [] false [.v (.bool long)]⟩], .br (some false), .reg [{}, ⟨.auto, .call [] false [.v (.int .i64 at_), .v (.sl [])]⟩], .reg []]) (by kernel_rfl) (ob1 ho0 ob0) (ca1 (fun _ : True => hc0) (ca1 (fun _ : True => hc1) ca0)))
/-! ### tipstaff/checker.Check (function 23) -/
-- entry: ret
theorem F23_n.p0 (l : List (List PV)) (long : Bool) (ho0 : long = true)
    (hc0 : EvF Try.prog prim 31 [.v (.sl l)] [] [] [.v (.bool long)] []) :
    EvF Try.prog prim 23 [.v (.sl l)] [] [] [.v (.int .i64 0), .v (.bool false)] [] :=
  EvF.of Try.func23 (EvK.done (n := 69) (sc := [.reg [], .reg [{}, ⟨.auto, .call [] false [.v (.bool long)]⟩], .br (some true), .reg []]) (by kernel_rfl) (ob1 ho0 ob0) (ca1 (fun _ : True => hc0) ca0))
-- entry: ret
theorem F23_n.p1 (l : List (List PV)) (long : Bool) (at_ : Int) (ho0 : long = false)
    (hc0 : EvF Try.prog prim 31 [.v (.sl l)] [] [] [.v (.bool long)] [])
    (hc1 : EvF Try.prog prim 32 [.v (.sl l), .v (.bool true)] [] [] [.v (.int .i64 at_), .none] []) :
    EvF Try.prog prim 23 [.v (.sl l)] [] [] [.v (.int .i64 at_), .v (.bool (at_ == (-1)))] [] :=
  EvF.of Try.func23 (EvK.done (n := 72) (sc := [.reg [], .reg [{}, ⟨.auto, .call [] false [.v (.bool long)]⟩], .br (some false), .reg [{}, ⟨.auto, .call [] false [.v (.int .i64 at_), .none]⟩], .reg []]) (by kernel_rfl) (ob1 ho0 ob0) (ca1 (fun _ : True => hc0) (ca1 (fun _ : True => hc1) ca0)))
/-! ### tipstaff/checker.long (function 31) -/
-- entry: ret
theorem F31.p0 (l : List (List PV))  :
    EvF Try.prog prim 31 [.v (.sl l)] [] [] [.v (.bool (bif (((l.length : Int)) == 0) then true else (decide (((l.length : Int)) > 4096))))] [] :=
  EvF.of Try.func31 (EvK.done (n := 65) (sc := [.reg [], .reg [{}, {}, {}, {}, ⟨.spec, .d⟩, ⟨.spec, .d⟩, ⟨.spec, .d⟩]]) (by kernel_rfl) (ob1 (show (!(((l.length : Int)) == 0)) = true → (!(((l.length : Int)) == 0)) = true from idG (!(((l.length : Int)) == 0))) (ob1 (show (!(((l.length : Int)) == 0)) = true → (!(((l.length : Int)) == 0)) = true from idG (!(((l.length : Int)) == 0))) (ob1 (show (((l.length : Int)) == 0) = false → (!(((l.length : Int)) == 0)) = true from notF) ob0))) ca0)
/-! ### tipstaff/checker.check (function 32) -/
def F32.h0 (l : List (List PV)) (cells : Bool) (t17 : Int) (box0 : List AV) : St :=
  { tmps := [.v (.sl l), .v (.bool cells), .none, .none, .none, .none, .bsl 0 1 ((Int.toNat ((l.length : Int)))), .none, .none, .none, .none, .none, .none, .none, .none, .none, .v (.int .i64 (((Int.toNat ((l.length : Int)) : Nat) : Int))), .v (.int .i64 t17), .none, .none, .none, .none, .none, .none, .none, .none, .none, .none, .none, .none, .none, .none, .none, .none, .none, .none, .none, .none, .none, .none, .none, .none, .none, .none, .none, .none, .none, .none, .none, .none, .none, .none, .none, .none, .none, .none, .none, .none, .none, .none, .none, .none, .none, .none, .none, .none, .none, .none, .none, .none, .none, .none, .none, .none, .none, .none, .none, .none, .none, .none], toks := [], outer := [], heap := [box0] }
def F32.h1 (l : List (List PV)) (cells : Bool) (box0_1 : List AV) (t28 : Int) : St :=
  { tmps := [.v (.sl l), .v (.bool cells), .none, .none, .none, .none, .bsl 0 1 ((Int.toNat ((l.length : Int)))), .none, .none, .none, .none, .none, .none, .none, .none, .none, .none, .none, .none, .none, .none, .none, .none, .none, .none, .none, .v (.sl l), .v (.int .i64 ((l.length : Int))), .v (.int .i64 t28), .none, .none, .none, .none, .none, .none, .none, .none, .none, .none, .none, .none, .none, .none, .none, .none, .none, .none, .none, .none, .none, .none, .none, .none, .none, .none, .none, .none, .none, .none, .none, .none, .none, .none, .none, .none, .none, .none, .none, .none, .none, .none, .none, .none, .none, .none, .none, .none, .none, .none, .none], toks := [], outer := [], heap := [box0_1] }
def F32.h2 (l : List (List PV)) (cells : Bool) (box0_2 : List AV) (t61 i t28_1 : Int) (t59 : List (List PV)) (t60 b1_0 b1_1 b1_2 b1_3 : Int) : St :=
  { tmps := [.v (.sl l), .v (.bool cells), .none, .none, .none, .none, .bsl 0 1 ((Int.toNat ((l.length : Int)))), .none, .v (.int .i64 i), .ptr 1 0, .none, .none, .none, .none, .none, .none, .none, .none, .none, .none, .none, .none, .none, .none, .none, .none, .v (.sl l), .v (.int .i64 ((l.length : Int))), .v (.int .i64 t28_1), .none, .none, .none, .none, .none, .none, .none, .none, .none, .none, .none, .none, .none, .none, .none, .none, .none, .none, .none, .none, .none, .none, .none, .none, .none, .none, .none, .none, .none, .none, .v (.sl t59), .v (.int .i64 t60), .v (.int .i64 t61), .none, .none, .none, .none, .none, .none, .none, .none, .none, .none, .none, .none, .none, .none, .none, .none, .none, .none], toks := [], outer := [], heap := [box0_2, [.v (.int .i64 b1_0), .v (.int .i64 b1_1), .v (.int .i64 b1_2), .v (.int .u32 b1_3)]] }
-- entry: to h0
theorem F32.p0 (l : List (List PV)) (cells : Bool) {r : List AV} {h : List (List AV)} (ho0 : (0 : Int) ≤ ((l.length : Int)))
    (ho1 : ((l.length : Int)) * ((8 : Nat) : Int) ≤ 2 ^ 47)
    (ho2 : ∀ a ∈ (((List.replicate (Int.toNat ((l.length : Int))) [.int .i64 0]).flatten.map AV.v) : List AV), AV.flat a)
    (hk : EvK Try.prog prim Try.f32 (loopAt Try.f32 0) (F32.h0 l cells 0 (((List.replicate (Int.toNat ((l.length : Int))) [.int .i64 0]).flatten.map AV.v))) r h) :
    EvF Try.prog prim 32 [.v (.sl l), .v (.bool cells)] [] [] r h :=
  EvF.of Try.func32 (EvK.cont (n := 69) (sc := [.reg [], .reg [], .reg [], .cut { kill := [4, 5, 12, 13, 14, 15], weak := [], adopt := [], adoptB := [], heapLen := 1, toks := [], raw := [0] }]) (todo' := loopAt Try.f32 0) (s' := F32.h0 l cells 0 (((List.replicate (Int.toNat ((l.length : Int))) [.int .i64 0]).flatten.map AV.v))) (by kernel_rfl) (ob1 (show ((l.length : Int)) = ((l.length : Int)) from rfl) (ob1 ho0 (ob1 ho1 (ob1 ho2 ob0)))) ca0 hk)
-- h0: to h0
theorem F32.l0_1 (l : List (List PV)) (cells : Bool) (t17 : Int) (box0 cs_5 : List AV) {r : List AV} {h : List (List AV)} (ho0 : (decide (t17 < (((Int.toNat ((l.length : Int)) : Nat) : Int)))) = true)
    (ho1 : (0 : Int) ≤ t17 ∧ t17 < ((Int.toNat ((l.length : Int)) : Nat) : Int))
    (ho2 : storeIn Try.prog 3 box0 ((Int.toNat t17 * 1)) (.v (.int .i64 65535)) = some cs_5)
    (ho3 : inR .i64 (t17 + 1))
    (ho4 : ∀ a ∈ (cs_5 : List AV), AV.flat a)
    (hk : EvK Try.prog prim Try.f32 (loopAt Try.f32 0) (F32.h0 l cells ((t17 + 1)) cs_5) r h) :
    EvK Try.prog prim Try.f32 (loopAt Try.f32 0) (F32.h0 l cells t17 box0) r h :=
  EvK.cont (n := 73) (sc := [.reg [], .br (some true), .reg [], .reg [{}, {}, ⟨.auto, .ob⟩, ⟨.auto, .put [] cs_5⟩], .reg [⟨.auto, .nw⟩], .cut { kill := [7, 18, 19, 20, 21, 22, 23], weak := [], adopt := [], adoptB := [], heapLen := 1, toks := [], raw := [0] }]) (todo' := loopAt Try.f32 0) (s' := F32.h0 l cells ((t17 + 1)) cs_5) (by kernel_rfl) (ob1 ho0 (ob1 ho1 (ob1 ho2 (ob1 ho3 (ob1 ho4 ob0))))) ca0 hk
-- h0: to h1
theorem F32.l0_2 (l : List (List PV)) (cells : Bool) (t17 : Int) (box0 cs_5 : List AV) {r : List AV} {h : List (List AV)} (ho0 : (decide (t17 < (((Int.toNat ((l.length : Int)) : Nat) : Int)))) = false)
    (ho1 : (0 : Int) ≤ 0 ∧ 0 < ((Int.toNat ((l.length : Int)) : Nat) : Int))
    (ho2 : storeIn Try.prog 3 box0 ((Int.toNat 0 * 1)) (.v (.int .i64 0)) = some cs_5)
    (ho3 : ∀ a ∈ (cs_5 : List AV), AV.flat a)
    (hk : EvK Try.prog prim Try.f32 (loopAt Try.f32 1) (F32.h1 l cells cs_5 0) r h) :
    EvK Try.prog prim Try.f32 (loopAt Try.f32 0) (F32.h0 l cells t17 box0) r h :=
  EvK.cont (n := 72) (sc := [.reg [], .br (some false), .reg [{}, ⟨.auto, .ob⟩, ⟨.auto, .put [] cs_5⟩], .reg [], .cut { kill := [16, 17, 18, 24, 25], weak := [], adopt := [], adoptB := [], heapLen := 1, toks := [], raw := [0] }]) (todo' := loopAt Try.f32 1) (s' := F32.h1 l cells cs_5 0) (by kernel_rfl) (ob1 ho0 (ob1 ho1 (ob1 ho2 (ob1 ho3 ob0)))) ca0 hk
-- h1: ret
theorem F32.l1_3 (l : List (List PV)) (cells : Bool) (box0_1 : List AV) (t28 y0_3 y1_3 y2_3 y3_3 : Int) (right_3 loads_3 : Bool) (y_5 : Int) (ho0 : (decide (t28 < ((l.length : Int)))) = true)
    (ho1 : (0 : Int) ≤ t28)
    (ho2 : (l : List (List PV))[Int.toNat t28]? = some [.int .i64 y0_3, .int .i64 y1_3, .int .i64 y2_3, .int .u32 y3_3])
    (ho3 : ((!(!right_3)) && (bif cells then loads_3 else false)) = true → (0 : Int) ≤ t28 ∧ t28 < ((Int.toNat ((l.length : Int)) : Nat) : Int))
    (ho4 : ((!(!right_3)) && (bif cells then loads_3 else false)) = true → (box0_1 : List AV)[(Int.toNat t28 * 1)]? = some (.v (.int .i64 y_5)))
    (ho5 : ((!(!right_3)) && (bif cells then loads_3 else false)) = true → (0 : Int) ≤ y3_3)
    (ho6 : (bif (!right_3) then true else (bif (bif cells then loads_3 else false) then ((IntKind.i64.wrap ((BitVec.ofInt 64 (Int.fdiv y_5 (2 ^ (min (Int.toNat y3_3) (IntKind.bits .i64)))) &&& BitVec.ofInt 64 1).toNat : Int)) == 0) else false)) = true)
    (hc0 : EvF Try.prog prim 39 [.v (.sl l), .v (.int .i64 t28)] [] [] [.v (.bool right_3)] [])
    (hc1 : ((!(!right_3)) && cells) = true → EvF Try.prog prim 40 [.v (.int .i64 y0_3)] [] [] [.v (.bool loads_3)] []) :
    EvK Try.prog prim Try.f32 (loopAt Try.f32 1) (F32.h1 l cells box0_1 t28) [.v (.int .i64 t28), .v (.sl [])] [] :=
  EvK.done (n := 76) (sc := [.reg [], .br (some true), .reg [{}, ⟨.auto, .row [.int .i64 y0_3, .int .i64 y1_3, .int .i64 y2_3, .int .u32 y3_3]⟩], .reg [{}, {}, ⟨.auto, .call [] false [.v (.bool right_3)]⟩, {}, {}, ⟨.spec, .d⟩, ⟨.spec, .d⟩, ⟨.spec, .d⟩, ⟨.spec, .h⟩, ⟨.spec, .call [] false [.v (.bool loads_3)]⟩, ⟨.spec, .d⟩, ⟨.spec, .d⟩, ⟨.spec, .d⟩, ⟨.spec, .d⟩, ⟨.spec, .ob⟩, ⟨.spec, .cell (.v (.int .i64 y_5))⟩, ⟨.spec, .d⟩, ⟨.spec, .h⟩, ⟨.spec, .ob⟩, ⟨.spec, .d⟩, ⟨.spec, .d⟩, ⟨.spec, .d⟩], .br (some true), .reg []]) (by kernel_rfl) (ob1 ho0 (ob1 ho1 (ob1 ho2 (ob1 (show (!(!right_3)) = true → (!(!right_3)) = true from idG (!(!right_3))) (ob1 (show ((!(!right_3)) && cells) = true → ((!(!right_3)) && cells) = true from idG ((!(!right_3)) && cells)) (ob1 (show ((!(!right_3)) && cells) = true → ((!(!right_3)) && cells) = true from idG ((!(!right_3)) && cells)) (ob1 (show (!(!right_3)) = true → (!(!right_3)) = true from idG (!(!right_3))) (ob1 (show (!(!right_3)) = true → cells = true → ((!(!right_3)) && cells) = true from fun g b => andI g b) (ob1 (show (!(!right_3)) = true → (!(!right_3)) = true from idG (!(!right_3))) (ob1 (show ((!(!right_3)) && (bif cells then loads_3 else false)) = true → ((!(!right_3)) && (bif cells then loads_3 else false)) = true from idG ((!(!right_3)) && (bif cells then loads_3 else false))) (ob1 (show ((!(!right_3)) && (bif cells then loads_3 else false)) = true → ((!(!right_3)) && (bif cells then loads_3 else false)) = true from idG ((!(!right_3)) && (bif cells then loads_3 else false))) (ob1 ho3 (ob1 (show ((!(!right_3)) && (bif cells then loads_3 else false)) = true → ((!(!right_3)) && (bif cells then loads_3 else false)) = true from idG ((!(!right_3)) && (bif cells then loads_3 else false))) (ob1 ho4 (ob1 (show ((!(!right_3)) && (bif cells then loads_3 else false)) = true → ((!(!right_3)) && (bif cells then loads_3 else false)) = true from idG ((!(!right_3)) && (bif cells then loads_3 else false))) (ob1 (show ((!(!right_3)) && (bif cells then loads_3 else false)) = true → ((!(!right_3)) && (bif cells then loads_3 else false)) = true from idG ((!(!right_3)) && (bif cells then loads_3 else false))) (ob1 (show ((!(!right_3)) && (bif cells then loads_3 else false)) = true → ((!(!right_3)) && (bif cells then loads_3 else false)) = true from idG ((!(!right_3)) && (bif cells then loads_3 else false))) (ob1 ho5 (ob1 (show ((!(!right_3)) && (bif cells then loads_3 else false)) = true → ((!(!right_3)) && (bif cells then loads_3 else false)) = true from idG ((!(!right_3)) && (bif cells then loads_3 else false))) (ob1 (show ((!(!right_3)) && (bif cells then loads_3 else false)) = true → ((!(!right_3)) && (bif cells then loads_3 else false)) = true from idG ((!(!right_3)) && (bif cells then loads_3 else false))) (ob1 (show (!(!right_3)) = true → (!(!right_3)) = true from idG (!(!right_3))) (ob1 (show (!(!right_3)) = true → (bif cells then loads_3 else false) = true → ((!(!right_3)) && (bif cells then loads_3 else false)) = true from fun g b => andI g b) (ob1 (show (!right_3) = false → (!(!right_3)) = true from notF) (ob1 ho6 ob0)))))))))))))))))))))))) (ca1 (fun _ : True => hc0) (ca1 (fun g : ((!(!right_3)) && cells) = true ∧ True => hc1 g.1) ca0))
-- h1: to h2
theorem F32.l1_4 (l : List (List PV)) (cells : Bool) (box0_1 : List AV) (t28 y0_3 y1_3 y2_3 y3_3 : Int) (right_3 loads_3 : Bool) (y_5 : Int) (next_3 : List (List PV)) {r : List AV} {h : List (List AV)} (ho0 : (decide (t28 < ((l.length : Int)))) = true)
    (ho1 : (0 : Int) ≤ t28)
    (ho2 : (l : List (List PV))[Int.toNat t28]? = some [.int .i64 y0_3, .int .i64 y1_3, .int .i64 y2_3, .int .u32 y3_3])
    (ho3 : ((!(!right_3)) && (bif cells then loads_3 else false)) = true → (0 : Int) ≤ t28 ∧ t28 < ((Int.toNat ((l.length : Int)) : Nat) : Int))
    (ho4 : ((!(!right_3)) && (bif cells then loads_3 else false)) = true → (box0_1 : List AV)[(Int.toNat t28 * 1)]? = some (.v (.int .i64 y_5)))
    (ho5 : ((!(!right_3)) && (bif cells then loads_3 else false)) = true → (0 : Int) ≤ y3_3)
    (ho6 : (bif (!right_3) then true else (bif (bif cells then loads_3 else false) then ((IntKind.i64.wrap ((BitVec.ofInt 64 (Int.fdiv y_5 (2 ^ (min (Int.toNat y3_3) (IntKind.bits .i64)))) &&& BitVec.ofInt 64 1).toNat : Int)) == 0) else false)) = false)
    (ho7 : ∀ a ∈ (box0_1 : List AV), AV.flat a)
    (hc0 : EvF Try.prog prim 39 [.v (.sl l), .v (.int .i64 t28)] [] [] [.v (.bool right_3)] [])
    (hc1 : ((!(!right_3)) && cells) = true → EvF Try.prog prim 40 [.v (.int .i64 y0_3)] [] [] [.v (.bool loads_3)] [])
    (hc2 : EvF Try.prog prim 41 [.agg [.int .i64 y0_3, .int .i64 y1_3, .int .i64 y2_3, .int .u32 y3_3], .v (.int .i64 t28)] [] [] [.v (.sl next_3)] [])
    (hk : EvK Try.prog prim Try.f32 (loopAt Try.f32 2) (F32.h2 l cells box0_1 0 t28 t28 next_3 (((next_3.length : Int))) y0_3 y1_3 y2_3 y3_3) r h) :
    EvK Try.prog prim Try.f32 (loopAt Try.f32 1) (F32.h1 l cells box0_1 t28) r h :=
  EvK.cont (n := 78) (sc := [.reg [], .br (some true), .reg [{}, ⟨.auto, .row [.int .i64 y0_3, .int .i64 y1_3, .int .i64 y2_3, .int .u32 y3_3]⟩], .reg [{}, {}, ⟨.auto, .call [] false [.v (.bool right_3)]⟩, {}, {}, ⟨.spec, .d⟩, ⟨.spec, .d⟩, ⟨.spec, .d⟩, ⟨.spec, .h⟩, ⟨.spec, .call [] false [.v (.bool loads_3)]⟩, ⟨.spec, .d⟩, ⟨.spec, .d⟩, ⟨.spec, .d⟩, ⟨.spec, .d⟩, ⟨.spec, .ob⟩, ⟨.spec, .cell (.v (.int .i64 y_5))⟩, ⟨.spec, .d⟩, ⟨.spec, .h⟩, ⟨.spec, .ob⟩, ⟨.spec, .d⟩, ⟨.spec, .d⟩, ⟨.spec, .d⟩], .br (some false), .reg [⟨.auto, .h⟩, {}, ⟨.auto, .call [] false [.v (.sl next_3)]⟩], .cut { kill := [29, 30, 31, 32, 33, 34, 35, 36, 37, 38, 39, 40, 41, 42, 43, 44, 45, 46, 47, 48, 49, 50, 51, 52, 53, 54, 55, 57, 58], weak := [], adopt := [], adoptB := [], heapLen := 2, toks := [], raw := [0] }]) (todo' := loopAt Try.f32 2) (s' := F32.h2 l cells box0_1 0 t28 t28 next_3 (((next_3.length : Int))) y0_3 y1_3 y2_3 y3_3) (by kernel_rfl) (ob1 ho0 (ob1 ho1 (ob1 ho2 (ob1 (show (!(!right_3)) = true → (!(!right_3)) = true from idG (!(!right_3))) (ob1 (show ((!(!right_3)) && cells) = true → ((!(!right_3)) && cells) = true from idG ((!(!right_3)) && cells)) (ob1 (show ((!(!right_3)) && cells) = true → ((!(!right_3)) && cells) = true from idG ((!(!right_3)) && cells)) (ob1 (show (!(!right_3)) = true → (!(!right_3)) = true from idG (!(!right_3))) (ob1 (show (!(!right_3)) = true → cells = true → ((!(!right_3)) && cells) = true from fun g b => andI g b) (ob1 (show (!(!right_3)) = true → (!(!right_3)) = true from idG (!(!right_3))) (ob1 (show ((!(!right_3)) && (bif cells then loads_3 else false)) = true → ((!(!right_3)) && (bif cells then loads_3 else false)) = true from idG ((!(!right_3)) && (bif cells then loads_3 else false))) (ob1 (show ((!(!right_3)) && (bif cells then loads_3 else false)) = true → ((!(!right_3)) && (bif cells then loads_3 else false)) = true from idG ((!(!right_3)) && (bif cells then loads_3 else false))) (ob1 ho3 (ob1 (show ((!(!right_3)) && (bif cells then loads_3 else false)) = true → ((!(!right_3)) && (bif cells then loads_3 else false)) = true from idG ((!(!right_3)) && (bif cells then loads_3 else false))) (ob1 ho4 (ob1 (show ((!(!right_3)) && (bif cells then loads_3 else false)) = true → ((!(!right_3)) && (bif cells then loads_3 else false)) = true from idG ((!(!right_3)) && (bif cells then loads_3 else false))) (ob1 (show ((!(!right_3)) && (bif cells then loads_3 else false)) = true → ((!(!right_3)) && (bif cells then loads_3 else false)) = true from idG ((!(!right_3)) && (bif cells then loads_3 else false))) (ob1 (show ((!(!right_3)) && (bif cells then loads_3 else false)) = true → ((!(!right_3)) && (bif cells then loads_3 else false)) = true from idG ((!(!right_3)) && (bif cells then loads_3 else false))) (ob1 ho5 (ob1 (show ((!(!right_3)) && (bif cells then loads_3 else false)) = true → ((!(!right_3)) && (bif cells then loads_3 else false)) = true from idG ((!(!right_3)) && (bif cells then loads_3 else false))) (ob1 (show ((!(!right_3)) && (bif cells then loads_3 else false)) = true → ((!(!right_3)) && (bif cells then loads_3 else false)) = true from idG ((!(!right_3)) && (bif cells then loads_3 else false))) (ob1 (show (!(!right_3)) = true → (!(!right_3)) = true from idG (!(!right_3))) (ob1 (show (!(!right_3)) = true → (bif cells then loads_3 else false) = true → ((!(!right_3)) && (bif cells then loads_3 else false)) = true from fun g b => andI g b) (ob1 (show (!right_3) = false → (!(!right_3)) = true from notF) (ob1 ho6 (ob1 ho7 ob0))))))))))))))))))))))))) (ca1 (fun _ : True => hc0) (ca1 (fun g : ((!(!right_3)) && cells) = true ∧ True => hc1 g.1) (ca1 (fun _ : True => hc2) ca0))) hk
-- h1: ret
theorem F32.l1_5 (l : List (List PV)) (cells : Bool) (box0_1 : List AV) (t28 : Int) (ho0 : (decide (t28 < ((l.length : Int)))) = false) :
    EvK Try.prog prim Try.f32 (loopAt Try.f32 1) (F32.h1 l cells box0_1 t28) [.v (.int .i64 (-1)), .none] [] :=
  EvK.done (n := 68) (sc := [.reg [], .br (some false), .reg []]) (by kernel_rfl) (ob1 ho0 ob0) ca0
-- h2: to h2
theorem F32.l2_6 (l : List (List PV)) (cells : Bool) (box0_2 : List AV) (t61 i t28_1 : Int) (t59 : List (List PV)) (t60 b1_0 b1_1 b1_2 b1_3 y0_4 y_7 y_8 flow_3 : Int) (cs_6 : List AV) {r : List AV} {h : List (List AV)} (ho0 : (decide (t61 < t60)) = true)
    (ho1 : (0 : Int) ≤ t61)
    (ho2 : (t59 : List (List PV))[Int.toNat t61]? = some [.int .i64 y0_4])
    (ho3 : (0 : Int) ≤ y0_4 ∧ y0_4 < ((Int.toNat ((l.length : Int)) : Nat) : Int))
    (ho4 : (box0_2 : List AV)[(Int.toNat y0_4 * 1)]? = some (.v (.int .i64 y_7)))
    (ho5 : (0 : Int) ≤ i ∧ i < ((Int.toNat ((l.length : Int)) : Nat) : Int))
    (ho6 : (box0_2 : List AV)[(Int.toNat i * 1)]? = some (.v (.int .i64 y_8)))
    (ho7 : storeIn Try.prog 3 box0_2 ((Int.toNat y0_4 * 1)) (.v (.int .i64 (IntKind.i64.wrap ((BitVec.ofInt 64 y_7 &&& BitVec.ofInt 64 flow_3).toNat : Int)))) = some cs_6)
    (ho8 : inR .i64 (t61 + 1))
    (ho9 : ∀ a ∈ (cs_6 : List AV), AV.flat a)
    (hc0 : EvF Try.prog prim 42 [.agg [.int .i64 b1_0, .int .i64 b1_1, .int .i64 b1_2, .int .u32 b1_3], .v (.int .i64 y_8)] [] [] [.v (.int .i64 flow_3)] [])
    (hk : EvK Try.prog prim Try.f32 (loopAt Try.f32 2) (F32.h2 l cells cs_6 ((t61 + 1)) i t28_1 t59 t60 b1_0 b1_1 b1_2 b1_3) r h) :
    EvK Try.prog prim Try.f32 (loopAt Try.f32 2) (F32.h2 l cells box0_2 t61 i t28_1 t59 t60 b1_0 b1_1 b1_2 b1_3) r h :=
  EvK.cont (n := 73) (sc := [.reg [], .br (some true), .reg [⟨.auto, .row [.int .i64 y0_4]⟩], .reg [{}, {}, ⟨.auto, .ob⟩, ⟨.auto, .cell (.v (.int .i64 y_7))⟩, ⟨.auto, .h⟩, {}, {}, ⟨.auto, .ob⟩, ⟨.auto, .cell (.v (.int .i64 y_8))⟩, ⟨.auto, .call [] false [.v (.int .i64 flow_3)]⟩, {}, ⟨.auto, .ob⟩, ⟨.auto, .put [] cs_6⟩], .reg [⟨.auto, .nw⟩], .cut { kill := [11, 62, 63, 64, 65, 66, 67, 68, 69, 70, 71, 72, 73, 74, 75, 76, 77], weak := [], adopt := [], adoptB := [], heapLen := 2, toks := [], raw := [0] }]) (todo' := loopAt Try.f32 2) (s' := F32.h2 l cells cs_6 ((t61 + 1)) i t28_1 t59 t60 b1_0 b1_1 b1_2 b1_3) (by kernel_rfl) (ob1 ho0 (ob1 ho1 (ob1 ho2 (ob1 ho3 (ob1 ho4 (ob1 ho5 (ob1 ho6 (ob1 ho3 (ob1 ho7 (ob1 ho8 (ob1 ho9 ob0))))))))))) (ca1 (fun _ : True => hc0) ca0) hk
-- h2: to h1
theorem F32.l2_7 (l : List (List PV)) (cells : Bool) (box0_2 : List AV) (t61 i t28_1 : Int) (t59 : List (List PV)) (t60 b1_0 b1_1 b1_2 b1_3 : Int) {r : List AV} {h : List (List AV)} (ho0 : (decide (t61 < t60)) = false)
    (ho1 : inR .i64 (t28_1 + 1))
    (ho2 : ∀ a ∈ (box0_2 : List AV), AV.flat a)
    (hk : EvK Try.prog prim Try.f32 (loopAt Try.f32 1) (F32.h1 l cells box0_2 ((t28_1 + 1))) r h) :
    EvK Try.prog prim Try.f32 (loopAt Try.f32 2) (F32.h2 l cells box0_2 t61 i t28_1 t59 t60 b1_0 b1_1 b1_2 b1_3) r h :=
  EvK.cont (n := 68) (sc := [.reg [], .br (some false), .reg [⟨.auto, .nw⟩], .cut { kill := [8, 9, 59, 60, 61, 62, 78], weak := [], adopt := [], adoptB := [], heapLen := 1, toks := [], raw := [0] }]) (todo' := loopAt Try.f32 1) (s' := F32.h1 l cells box0_2 ((t28_1 + 1))) (by kernel_rfl) (ob1 ho0 (ob1 ho1 (ob1 ho2 ob0))) ca0 hk
/-! ### tipstaff/checker.right (function 39) -/
def F39.h0 (l : List (List PV)) (y0 y1 y2 y3 : Int) (next : List (List PV)) (t49 : Int) : St :=
  { tmps := [.v (.sl l), .none, .none, .none, .none, .none, .none, .none, .none, .none, .none, .none, .none, .none, .none, .none, .none, .none, .none, .none, .none, .none, .none, .none, .none, .none, .none, .none, .none, .none, .none, .none, .none, .none, .none, .none, .none, .none, .none, .none, .none, .none, .none, .none, .none, .none, .none, .v (.sl next), .v (.int .i64 ((next.length : Int))), .v (.int .i64 t49), .none, .none, .none, .none, .none, .none, .none, .none], toks := [], outer := [], heap := [[.v (.int .i64 y0), .v (.int .i64 y1), .v (.int .i64 y2), .v (.int .u32 y3)]] }
-- entry: ret
theorem F39.p0 (l : List (List PV)) (at_ y0 y1 y2 y3 : Int) (name0 : ByteArray) (name1 right may ends : Bool) (ho0 : (0 : Int) ≤ at_)
    (ho1 : (l : List (List PV))[Int.toNat at_]? = some [.int .i64 y0, .int .i64 y1, .int .i64 y2, .int .u32 y3])
    (ho2 : (!(bif (bif (!name1) then true else (!right)) then true else (!may))) = true → inR .i64 (((l.length : Int)) - 1))
    (ho3 : (bif (bif (bif (!name1) then true else (!right)) then true else (!may)) then true else (bif (at_ == (((l.length : Int)) - 1)) then (!ends) else false)) = true)
    (hc0 : EvF Try.prog prim 48 [.v (.int .i64 y0)] [] [] [.v (.str name0), .v (.bool name1)] [])
    (hc1 : (!(!name1)) = true → EvF Try.prog prim 49 [.agg [.int .i64 y0, .int .i64 y1, .int .i64 y2, .int .u32 y3]] [] [] [.v (.bool right)] [])
    (hc2 : (!(bif (!name1) then true else (!right))) = true → EvF Try.prog prim 50 [.agg [.int .i64 y0, .int .i64 y1, .int .i64 y2, .int .u32 y3]] [] [] [.v (.bool may)] [])
    (hc3 : ((!(bif (bif (!name1) then true else (!right)) then true else (!may))) && (at_ == (((l.length : Int)) - 1))) = true → EvF Try.prog prim 51 [.v (.int .i64 y0)] [] [] [.v (.bool ends)] []) :
    EvF Try.prog prim 39 [.v (.sl l), .v (.int .i64 at_)] [] [] [.v (.bool false)] [] :=
  EvF.of Try.func39 (EvK.done (n := 73) (sc := [.reg [], .reg [{}, {}, ⟨.auto, .row [.int .i64 y0, .int .i64 y1, .int .i64 y2, .int .u32 y3]⟩], .reg [{}, ⟨.auto, .h⟩, ⟨.auto, .call [] false [.v (.str name0), .v (.bool name1)]⟩], .reg [{}, {}, {}, ⟨.spec, .h⟩, ⟨.spec, .call [] false [.v (.bool right)]⟩, ⟨.spec, .d⟩, {}, {}, ⟨.spec, .h⟩, ⟨.spec, .call [] false [.v (.bool may)]⟩, ⟨.spec, .d⟩, {}, {}, ⟨.spec, .d⟩, ⟨.spec, .d⟩, ⟨.spec, .d⟩, ⟨.spec, .nw⟩, ⟨.spec, .d⟩, ⟨.spec, .d⟩, ⟨.spec, .d⟩, ⟨.spec, .h⟩, ⟨.spec, .call [] false [.v (.bool ends)]⟩, ⟨.spec, .d⟩, ⟨.spec, .d⟩], .br (some true), .reg []]) (by kernel_rfl) (ob1 ho0 (ob1 ho1 (ob1 (show (!(!name1)) = true → (!(!name1)) = true from idG (!(!name1))) (ob1 (show (!(!name1)) = true → (!(!name1)) = true from idG (!(!name1))) (ob1 (show (!name1) = false → (!(!name1)) = true from notF) (ob1 (show (!(bif (!name1) then true else (!right))) = true → (!(bif (!name1) then true else (!right))) = true from idG (!(bif (!name1) then true else (!right)))) (ob1 (show (!(bif (!name1) then true else (!right))) = true → (!(bif (!name1) then true else (!right))) = true from idG (!(bif (!name1) then true else (!right)))) (ob1 (show (bif (!name1) then true else (!right)) = false → (!(bif (!name1) then true else (!right))) = true from notF) (ob1 (show (!(bif (bif (!name1) then true else (!right)) then true else (!may))) = true → (!(bif (bif (!name1) then true else (!right)) then true else (!may))) = true from idG (!(bif (bif (!name1) then true else (!right)) then true else (!may)))) (ob1 (show (!(bif (bif (!name1) then true else (!right)) then true else (!may))) = true → (!(bif (bif (!name1) then true else (!right)) then true else (!may))) = true from idG (!(bif (bif (!name1) then true else (!right)) then true else (!may)))) (ob1 ho2 (ob1 (show (!(bif (bif (!name1) then true else (!right)) then true else (!may))) = true → (!(bif (bif (!name1) then true else (!right)) then true else (!may))) = true from idG (!(bif (bif (!name1) then true else (!right)) then true else (!may)))) (ob1 (show (!(bif (bif (!name1) then true else (!right)) then true else (!may))) = true → (!(bif (bif (!name1) then true else (!right)) then true else (!may))) = true from idG (!(bif (bif (!name1) then true else (!right)) then true else (!may)))) (ob1 (show (!(bif (bif (!name1) then true else (!right)) then true else (!may))) = true → (!(bif (bif (!name1) then true else (!right)) then true else (!may))) = true from idG (!(bif (bif (!name1) then true else (!right)) then true else (!may)))) (ob1 (show ((!(bif (bif (!name1) then true else (!right)) then true else (!may))) && (at_ == (((l.length : Int)) - 1))) = true → ((!(bif (bif (!name1) then true else (!right)) then true else (!may))) && (at_ == (((l.length : Int)) - 1))) = true from idG ((!(bif (bif (!name1) then true else (!right)) then true else (!may))) && (at_ == (((l.length : Int)) - 1)))) (ob1 (show ((!(bif (bif (!name1) then true else (!right)) then true else (!may))) && (at_ == (((l.length : Int)) - 1))) = true → ((!(bif (bif (!name1) then true else (!right)) then true else (!may))) && (at_ == (((l.length : Int)) - 1))) = true from idG ((!(bif (bif (!name1) then true else (!right)) then true else (!may))) && (at_ == (((l.length : Int)) - 1)))) (ob1 (show ((!(bif (bif (!name1) then true else (!right)) then true else (!may))) && (at_ == (((l.length : Int)) - 1))) = true → ((!(bif (bif (!name1) then true else (!right)) then true else (!may))) && (at_ == (((l.length : Int)) - 1))) = true from idG ((!(bif (bif (!name1) then true else (!right)) then true else (!may))) && (at_ == (((l.length : Int)) - 1)))) (ob1 (show (!(bif (bif (!name1) then true else (!right)) then true else (!may))) = true → (!(bif (bif (!name1) then true else (!right)) then true else (!may))) = true from idG (!(bif (bif (!name1) then true else (!right)) then true else (!may)))) (ob1 (show (!(bif (bif (!name1) then true else (!right)) then true else (!may))) = true → (at_ == (((l.length : Int)) - 1)) = true → ((!(bif (bif (!name1) then true else (!right)) then true else (!may))) && (at_ == (((l.length : Int)) - 1))) = true from fun g b => andI g b) (ob1 (show (bif (bif (!name1) then true else (!right)) then true else (!may)) = false → (!(bif (bif (!name1) then true else (!right)) then true else (!may))) = true from notF) (ob1 ho3 ob0))))))))))))))))))))) (ca1 (fun _ : True => hc0) (ca1 (fun g : (!(!name1)) = true ∧ True => hc1 g.1) (ca1 (fun g : (!(bif (!name1) then true else (!right))) = true ∧ True => hc2 g.1) (ca1 (fun g : ((!(bif (bif (!name1) then true else (!right)) then true else (!may))) && (at_ == (((l.length : Int)) - 1))) = true ∧ True => hc3 g.1) ca0)))))
-- entry: to h0
theorem F39.p1 (l : List (List PV)) (at_ y0 y1 y2 y3 : Int) (name0 : ByteArray) (name1 right may ends : Bool) (next : List (List PV)) {r : List AV} {h : List (List AV)} (ho0 : (0 : Int) ≤ at_)
    (ho1 : (l : List (List PV))[Int.toNat at_]? = some [.int .i64 y0, .int .i64 y1, .int .i64 y2, .int .u32 y3])
    (ho2 : (!(bif (bif (!name1) then true else (!right)) then true else (!may))) = true → inR .i64 (((l.length : Int)) - 1))
    (ho3 : (bif (bif (bif (!name1) then true else (!right)) then true else (!may)) then true else (bif (at_ == (((l.length : Int)) - 1)) then (!ends) else false)) = false)
    (hc0 : EvF Try.prog prim 48 [.v (.int .i64 y0)] [] [] [.v (.str name0), .v (.bool name1)] [])
    (hc1 : (!(!name1)) = true → EvF Try.prog prim 49 [.agg [.int .i64 y0, .int .i64 y1, .int .i64 y2, .int .u32 y3]] [] [] [.v (.bool right)] [])
    (hc2 : (!(bif (!name1) then true else (!right))) = true → EvF Try.prog prim 50 [.agg [.int .i64 y0, .int .i64 y1, .int .i64 y2, .int .u32 y3]] [] [] [.v (.bool may)] [])
    (hc3 : ((!(bif (bif (!name1) then true else (!right)) then true else (!may))) && (at_ == (((l.length : Int)) - 1))) = true → EvF Try.prog prim 51 [.v (.int .i64 y0)] [] [] [.v (.bool ends)] [])
    (hc4 : EvF Try.prog prim 41 [.agg [.int .i64 y0, .int .i64 y1, .int .i64 y2, .int .u32 y3], .v (.int .i64 at_)] [] [] [.v (.sl next)] [])
    (hk : EvK Try.prog prim Try.f39 (loopAt Try.f39 0) (F39.h0 l y0 y1 y2 y3 next 0) r h) :
    EvF Try.prog prim 39 [.v (.sl l), .v (.int .i64 at_)] [] [] r h :=
  EvF.of Try.func39 (EvK.cont (n := 76) (sc := [.reg [], .reg [{}, {}, ⟨.auto, .row [.int .i64 y0, .int .i64 y1, .int .i64 y2, .int .u32 y3]⟩], .reg [{}, ⟨.auto, .h⟩, ⟨.auto, .call [] false [.v (.str name0), .v (.bool name1)]⟩], .reg [{}, {}, {}, ⟨.spec, .h⟩, ⟨.spec, .call [] false [.v (.bool right)]⟩, ⟨.spec, .d⟩, {}, {}, ⟨.spec, .h⟩, ⟨.spec, .call [] false [.v (.bool may)]⟩, ⟨.spec, .d⟩, {}, {}, ⟨.spec, .d⟩, ⟨.spec, .d⟩, ⟨.spec, .d⟩, ⟨.spec, .nw⟩, ⟨.spec, .d⟩, ⟨.spec, .d⟩, ⟨.spec, .d⟩, ⟨.spec, .h⟩, ⟨.spec, .call [] false [.v (.bool ends)]⟩, ⟨.spec, .d⟩, ⟨.spec, .d⟩], .br (some false), .reg [⟨.auto, .h⟩, {}, ⟨.auto, .call [] false [.v (.sl next)]⟩], .cut { kill := [1, 4, 5, 6, 7, 10, 11, 12, 13, 14, 15, 16, 17, 18, 19, 20, 21, 22, 23, 24, 25, 26, 27, 28, 29, 30, 31, 32, 33, 34, 35, 36, 37, 38, 39, 40, 41, 42, 43, 44, 45, 46], weak := [], adopt := [], adoptB := [], heapLen := 1, toks := [] }]) (todo' := loopAt Try.f39 0) (s' := F39.h0 l y0 y1 y2 y3 next 0) (by kernel_rfl) (ob1 ho0 (ob1 ho1 (ob1 (show (!(!name1)) = true → (!(!name1)) = true from idG (!(!name1))) (ob1 (show (!(!name1)) = true → (!(!name1)) = true from idG (!(!name1))) (ob1 (show (!name1) = false → (!(!name1)) = true from notF) (ob1 (show (!(bif (!name1) then true else (!right))) = true → (!(bif (!name1) then true else (!right))) = true from idG (!(bif (!name1) then true else (!right)))) (ob1 (show (!(bif (!name1) then true else (!right))) = true → (!(bif (!name1) then true else (!right))) = true from idG (!(bif (!name1) then true else (!right)))) (ob1 (show (bif (!name1) then true else (!right)) = false → (!(bif (!name1) then true else (!right))) = true from notF) (ob1 (show (!(bif (bif (!name1) then true else (!right)) then true else (!may))) = true → (!(bif (bif (!name1) then true else (!right)) then true else (!may))) = true from idG (!(bif (bif (!name1) then true else (!right)) then true else (!may)))) (ob1 (show (!(bif (bif (!name1) then true else (!right)) then true else (!may))) = true → (!(bif (bif (!name1) then true else (!right)) then true else (!may))) = true from idG (!(bif (bif (!name1) then true else (!right)) then true else (!may)))) (ob1 ho2 (ob1 (show (!(bif (bif (!name1) then true else (!right)) then true else (!may))) = true → (!(bif (bif (!name1) then true else (!right)) then true else (!may))) = true from idG (!(bif (bif (!name1) then true else (!right)) then true else (!may)))) (ob1 (show (!(bif (bif (!name1) then true else (!right)) then true else (!may))) = true → (!(bif (bif (!name1) then true else (!right)) then true else (!may))) = true from idG (!(bif (bif (!name1) then true else (!right)) then true else (!may)))) (ob1 (show (!(bif (bif (!name1) then true else (!right)) then true else (!may))) = true → (!(bif (bif (!name1) then true else (!right)) then true else (!may))) = true from idG (!(bif (bif (!name1) then true else (!right)) then true else (!may)))) (ob1 (show ((!(bif (bif (!name1) then true else (!right)) then true else (!may))) && (at_ == (((l.length : Int)) - 1))) = true → ((!(bif (bif (!name1) then true else (!right)) then true else (!may))) && (at_ == (((l.length : Int)) - 1))) = true from idG ((!(bif (bif (!name1) then true else (!right)) then true else (!may))) && (at_ == (((l.length : Int)) - 1)))) (ob1 (show ((!(bif (bif (!name1) then true else (!right)) then true else (!may))) && (at_ == (((l.length : Int)) - 1))) = true → ((!(bif (bif (!name1) then true else (!right)) then true else (!may))) && (at_ == (((l.length : Int)) - 1))) = true from idG ((!(bif (bif (!name1) then true else (!right)) then true else (!may))) && (at_ == (((l.length : Int)) - 1)))) (ob1 (show ((!(bif (bif (!name1) then true else (!right)) then true else (!may))) && (at_ == (((l.length : Int)) - 1))) = true → ((!(bif (bif (!name1) then true else (!right)) then true else (!may))) && (at_ == (((l.length : Int)) - 1))) = true from idG ((!(bif (bif (!name1) then true else (!right)) then true else (!may))) && (at_ == (((l.length : Int)) - 1)))) (ob1 (show (!(bif (bif (!name1) then true else (!right)) then true else (!may))) = true → (!(bif (bif (!name1) then true else (!right)) then true else (!may))) = true from idG (!(bif (bif (!name1) then true else (!right)) then true else (!may)))) (ob1 (show (!(bif (bif (!name1) then true else (!right)) then true else (!may))) = true → (at_ == (((l.length : Int)) - 1)) = true → ((!(bif (bif (!name1) then true else (!right)) then true else (!may))) && (at_ == (((l.length : Int)) - 1))) = true from fun g b => andI g b) (ob1 (show (bif (bif (!name1) then true else (!right)) then true else (!may)) = false → (!(bif (bif (!name1) then true else (!right)) then true else (!may))) = true from notF) (ob1 ho3 ob0))))))))))))))))))))) (ca1 (fun _ : True => hc0) (ca1 (fun g : (!(!name1)) = true ∧ True => hc1 g.1) (ca1 (fun g : (!(bif (!name1) then true else (!right))) = true ∧ True => hc2 g.1) (ca1 (fun g : ((!(bif (bif (!name1) then true else (!right)) then true else (!may))) && (at_ == (((l.length : Int)) - 1))) = true ∧ True => hc3 g.1) (ca1 (fun _ : True => hc4) ca0))))) hk)
-- h0: ret
theorem F39.l0_2 (l : List (List PV)) (y0 y1 y2 y3 : Int) (next : List (List PV)) (t49 y0_3 : Int) (ho0 : (decide (t49 < ((next.length : Int)))) = true)
    (ho1 : (0 : Int) ≤ t49)
    (ho2 : (next : List (List PV))[Int.toNat t49]? = some [.int .i64 y0_3])
    (ho3 : (decide (y0_3 ≥ ((l.length : Int)))) = true) :
    EvK Try.prog prim Try.f39 (loopAt Try.f39 0) (F39.h0 l y0 y1 y2 y3 next t49) [.v (.bool false)] [] :=
  EvK.done (n := 75) (sc := [.reg [], .br (some true), .reg [⟨.auto, .row [.int .i64 y0_3]⟩], .reg [], .br (some true), .reg []]) (by kernel_rfl) (ob1 ho0 (ob1 ho1 (ob1 ho2 (ob1 ho3 ob0)))) ca0
-- h0: to h0
theorem F39.l0_3 (l : List (List PV)) (y0 y1 y2 y3 : Int) (next : List (List PV)) (t49 y0_3 : Int) {r : List AV} {h : List (List AV)} (ho0 : (decide (t49 < ((next.length : Int)))) = true)
    (ho1 : (0 : Int) ≤ t49)
    (ho2 : (next : List (List PV))[Int.toNat t49]? = some [.int .i64 y0_3])
    (ho3 : (decide (y0_3 ≥ ((l.length : Int)))) = false)
    (ho4 : inR .i64 (t49 + 1))
    (hk : EvK Try.prog prim Try.f39 (loopAt Try.f39 0) (F39.h0 l y0 y1 y2 y3 next ((t49 + 1))) r h) :
    EvK Try.prog prim Try.f39 (loopAt Try.f39 0) (F39.h0 l y0 y1 y2 y3 next t49) r h :=
  EvK.cont (n := 76) (sc := [.reg [], .br (some true), .reg [⟨.auto, .row [.int .i64 y0_3]⟩], .reg [], .br (some false), .reg [⟨.auto, .nw⟩], .cut { kill := [9, 50, 51, 52, 53, 54, 55, 56, 57], weak := [], adopt := [], adoptB := [], heapLen := 1, toks := [] }]) (todo' := loopAt Try.f39 0) (s' := F39.h0 l y0 y1 y2 y3 next ((t49 + 1))) (by kernel_rfl) (ob1 ho0 (ob1 ho1 (ob1 ho2 (ob1 ho3 (ob1 ho4 ob0))))) ca0 hk
-- h0: ret
theorem F39.l0_4 (l : List (List PV)) (y0 y1 y2 y3 : Int) (next : List (List PV)) (t49 : Int) (ho0 : (decide (t49 < ((next.length : Int)))) = false) :
    EvK Try.prog prim Try.f39 (loopAt Try.f39 0) (F39.h0 l y0 y1 y2 y3 next t49) [.v (.bool true)] [] :=
  EvK.done (n := 68) (sc := [.reg [], .br (some false), .reg []]) (by kernel_rfl) (ob1 ho0 ob0) ca0
/-! ### tipstaff/checker.loads (function 40) -/
-- entry: ret
theorem F40.p0 (code : Int)  :
    EvF Try.prog prim 40 [.v (.int .i64 code)] [] [] [.v (.bool (bif (code == 96) then true else (code == 97)))] [] :=
  EvF.of Try.func40 (EvK.done (n := 65) (sc := [.reg [], .reg [{}, {}, {}, ⟨.spec, .d⟩, ⟨.spec, .d⟩]]) (by kernel_rfl) (ob1 (show (!(code == 96)) = true → (!(code == 96)) = true from idG (!(code == 96))) (ob1 (show (code == 96) = false → (!(code == 96)) = true from notF) ob0)) ca0)
/-! ### tipstaff/checker.next (function 41) -/
-- entry: ret
theorem F41.p0 (x0 x1 x2 x3 at_ : Int) (ends : Bool) (ho0 : ends = true)
    (hc0 : EvF Try.prog prim 51 [.v (.int .i64 x0)] [] [] [.v (.bool ends)] []) :
    EvF Try.prog prim 41 [.agg [.int .i64 x0, .int .i64 x1, .int .i64 x2, .int .u32 x3], .v (.int .i64 at_)] [] [] [.v (.sl [])] [] :=
  EvF.of Try.func41 (EvK.done (n := 70) (sc := [.reg [], .reg [{}, ⟨.auto, .h⟩, ⟨.auto, .call [] false [.v (.bool ends)]⟩], .br (some true), .reg []]) (by kernel_rfl) (ob1 ho0 ob0) (ca1 (fun _ : True => hc0) ca0))
-- entry: ret
theorem F41.p1 (x0 x1 x2 x3 at_ : Int) (ends : Bool) (ho0 : ends = false)
    (ho1 : (x0 == 5) = true)
    (ho2 : inR .i64 (at_ + 1))
    (ho3 : inR .i64 ((at_ + 1) + (IntKind.i64.wrap x3)))
    (hc0 : EvF Try.prog prim 51 [.v (.int .i64 x0)] [] [] [.v (.bool ends)] []) :
    EvF Try.prog prim 41 [.agg [.int .i64 x0, .int .i64 x1, .int .i64 x2, .int .u32 x3], .v (.int .i64 at_)] [] [] [.v (.sl [[.int .i64 ((at_ + 1) + (IntKind.i64.wrap x3))]])] [] :=
  EvF.of Try.func41 (EvK.done (n := 73) (sc := [.reg [], .reg [{}, ⟨.auto, .h⟩, ⟨.auto, .call [] false [.v (.bool ends)]⟩], .br (some false), .reg [{}, ⟨.auto, .h⟩], .br (some true), .reg [{}, ⟨.auto, .nw⟩, {}, ⟨.auto, .h⟩, {}, ⟨.auto, .nw⟩]]) (by kernel_rfl) (ob1 ho0 (ob1 ho1 (ob1 ho2 (ob1 ho3 ob0)))) (ca1 (fun _ : True => hc0) ca0))
-- entry: ret
theorem F41.p2 (x0 x1 x2 x3 at_ : Int) (ends jumps : Bool) (ho0 : ends = false)
    (ho1 : (x0 == 5) = false)
    (ho2 : jumps = true)
    (ho3 : inR .i64 (at_ + 1))
    (ho4 : inR .i64 ((at_ + 1) + x1))
    (ho5 : inR .i64 ((at_ + 1) + x2))
    (hc0 : EvF Try.prog prim 51 [.v (.int .i64 x0)] [] [] [.v (.bool ends)] [])
    (hc1 : EvF Try.prog prim 52 [.v (.int .i64 x0)] [] [] [.v (.bool jumps)] []) :
    EvF Try.prog prim 41 [.agg [.int .i64 x0, .int .i64 x1, .int .i64 x2, .int .u32 x3], .v (.int .i64 at_)] [] [] [.v (.sl [[.int .i64 ((at_ + 1) + x1)], [.int .i64 ((at_ + 1) + x2)]])] [] :=
  EvF.of Try.func41 (EvK.done (n := 76) (sc := [.reg [], .reg [{}, ⟨.auto, .h⟩, ⟨.auto, .call [] false [.v (.bool ends)]⟩], .br (some false), .reg [{}, ⟨.auto, .h⟩], .br (some false), .reg [{}, ⟨.auto, .h⟩, ⟨.auto, .call [] false [.v (.bool jumps)]⟩], .br (some true), .reg [{}, ⟨.auto, .nw⟩, {}, ⟨.auto, .h⟩, ⟨.auto, .nw⟩, {}, ⟨.auto, .nw⟩, {}, ⟨.auto, .h⟩, ⟨.auto, .nw⟩]]) (by kernel_rfl) (ob1 ho0 (ob1 ho1 (ob1 ho2 (ob1 ho3 (ob1 ho4 (ob1 ho3 (ob1 ho5 ob0))))))) (ca1 (fun _ : True => hc0) (ca1 (fun _ : True => hc1) ca0)))
-- entry: ret
theorem F41.p3 (x0 x1 x2 x3 at_ : Int) (ends jumps : Bool) (ho0 : ends = false)
    (ho1 : (x0 == 5) = false)
    (ho2 : jumps = false)
    (ho3 : inR .i64 (at_ + 1))
    (hc0 : EvF Try.prog prim 51 [.v (.int .i64 x0)] [] [] [.v (.bool ends)] [])
    (hc1 : EvF Try.prog prim 52 [.v (.int .i64 x0)] [] [] [.v (.bool jumps)] []) :
    EvF Try.prog prim 41 [.agg [.int .i64 x0, .int .i64 x1, .int .i64 x2, .int .u32 x3], .v (.int .i64 at_)] [] [] [.v (.sl [[.int .i64 (at_ + 1)]])] [] :=
  EvF.of Try.func41 (EvK.done (n := 78) (sc := [.reg [], .reg [{}, ⟨.auto, .h⟩, ⟨.auto, .call [] false [.v (.bool ends)]⟩], .br (some false), .reg [{}, ⟨.auto, .h⟩], .br (some false), .reg [{}, ⟨.auto, .h⟩, ⟨.auto, .call [] false [.v (.bool jumps)]⟩], .br (some false), .reg [{}, ⟨.auto, .nw⟩]]) (by kernel_rfl) (ob1 ho0 (ob1 ho1 (ob1 ho2 (ob1 ho3 ob0)))) (ca1 (fun _ : True => hc0) (ca1 (fun _ : True => hc1) ca0)))
/-! ### tipstaff/checker.flow (function 42) -/
-- entry: ret
theorem F42.p0 (x0 x1 x2 x3 stored : Int) (stores : Bool) (ho0 : stores = true)
    (ho1 : (0 : Int) ≤ x3)
    (hc0 : EvF Try.prog prim 53 [.v (.int .i64 x0)] [] [] [.v (.bool stores)] []) :
    EvF Try.prog prim 42 [.agg [.int .i64 x0, .int .i64 x1, .int .i64 x2, .int .u32 x3], .v (.int .i64 stored)] [] [] [.v (.int .i64 (IntKind.i64.wrap ((BitVec.ofInt 64 stored ||| BitVec.ofInt 64 (IntKind.i64.wrap (1 * 2 ^ (min (Int.toNat x3) (IntKind.bits .i64))))).toNat : Int)))] [] :=
  EvF.of Try.func42 (EvK.done (n := 69) (sc := [.reg [], .reg [{}, ⟨.auto, .h⟩, ⟨.auto, .call [] false [.v (.bool stores)]⟩], .br (some true), .reg [{}, {}, ⟨.auto, .h⟩, ⟨.auto, .ob⟩]]) (by kernel_rfl) (ob1 ho0 (ob1 ho1 ob0)) (ca1 (fun _ : True => hc0) ca0))
-- entry: ret
theorem F42.p1 (x0 x1 x2 x3 stored : Int) (stores : Bool) (ho0 : stores = false)
    (hc0 : EvF Try.prog prim 53 [.v (.int .i64 x0)] [] [] [.v (.bool stores)] []) :
    EvF Try.prog prim 42 [.agg [.int .i64 x0, .int .i64 x1, .int .i64 x2, .int .u32 x3], .v (.int .i64 stored)] [] [] [.v (.int .i64 stored)] [] :=
  EvF.of Try.func42 (EvK.done (n := 70) (sc := [.reg [], .reg [{}, ⟨.auto, .h⟩, ⟨.auto, .call [] false [.v (.bool stores)]⟩], .br (some false), .reg []]) (by kernel_rfl) (ob1 ho0 ob0) (ca1 (fun _ : True => hc0) ca0))
/-! ### tipstaff/listing.Name (function 48) -/
-- entry: ret
theorem F48.p0 (code : Int) (names : List (List PV)) (known : Int) (ho0 : (decide (known < 0)) = true)
    (hc0 : EvF Try.prog prim 55 [] [] [] [.v (.sl names)] [])
    (hc1 : EvF Try.prog prim 56 [.v (.sl names), .fn (.func 57) [] [.optr 0 0]] [] ([] ++ [[.v (.int .i64 code)]]) [.v (.int .i64 known)] ([] ++ [[.v (.int .i64 code)]])) :
    EvF Try.prog prim 48 [.v (.int .i64 code)] [] [] [.v (.str (⟨#[]⟩)), .v (.bool false)] [] :=
  EvF.of Try.func48 (EvK.done (n := 73) (sc := [.reg [], .reg [⟨.auto, .call [] false [.v (.sl names)]⟩], .reg [{}, {}, ⟨.auto, .callH [.v (.int .i64 known)] [] [[.v (.int .i64 code)]]⟩], .reg [], .br (some true), .reg []]) (by kernel_rfl) (ob1 (show ([] : List (List AV)).length = ([] : List (List AV)).length from rfl) (ob1 (show LowS [] [] from (fun cs hc => Or.inl hc)) (ob1 ho0 ob0))) (ca1 (fun _ : True => hc0) (ca1 (fun _ : True => hc1) ca0)))
-- entry: ret
theorem F48.p1 (code : Int) (names : List (List PV)) (known y0 : Int) (y1 : ByteArray) (ho0 : (decide (known < 0)) = false)
    (ho1 : (0 : Int) ≤ known)
    (ho2 : (names : List (List PV))[Int.toNat known]? = some [.int .i64 y0, .str y1])
    (hc0 : EvF Try.prog prim 55 [] [] [] [.v (.sl names)] [])
    (hc1 : EvF Try.prog prim 56 [.v (.sl names), .fn (.func 57) [] [.optr 0 0]] [] ([] ++ [[.v (.int .i64 code)]]) [.v (.int .i64 known)] ([] ++ [[.v (.int .i64 code)]])) :
    EvF Try.prog prim 48 [.v (.int .i64 code)] [] [] [.v (.str y1), .v (.bool true)] [] :=
  EvF.of Try.func48 (EvK.done (n := 74) (sc := [.reg [], .reg [⟨.auto, .call [] false [.v (.sl names)]⟩], .reg [{}, {}, ⟨.auto, .callH [.v (.int .i64 known)] [] [[.v (.int .i64 code)]]⟩], .reg [], .br (some false), .reg [{}, {}, ⟨.auto, .row [.int .i64 y0, .str y1]⟩]]) (by kernel_rfl) (ob1 (show ([] : List (List AV)).length = ([] : List (List AV)).length from rfl) (ob1 (show LowS [] [] from (fun cs hc => Or.inl hc)) (ob1 ho0 (ob1 ho1 (ob1 ho2 ob0))))) (ca1 (fun _ : True => hc0) (ca1 (fun _ : True => hc1) ca0)))
/-! ### tipstaff/instr.Right (function 49) -/
-- entry: ret
theorem F49.p0 (x0 x1 x2 x3 : Int)  :
    EvF Try.prog prim 49 [.agg [.int .i64 x0, .int .i64 x1, .int .i64 x2, .int .u32 x3]] [] [] [.v (.bool (bif (bif (bif (bif (bif (decide (x0 ≥ 0)) then (decide (x0 ≤ 65535)) else false) then (decide (x1 ≥ 0)) else false) then (decide (x1 ≤ 255)) else false) then (decide (x2 ≥ 0)) else false) then (decide (x2 ≤ 255)) else false))] [] :=
  EvF.of Try.func49 (EvK.done (n := 65) (sc := [.reg [], .reg [{}, ⟨.auto, .h⟩, {}, {}, ⟨.spec, .d⟩, ⟨.spec, .h⟩, ⟨.spec, .d⟩, {}, {}, ⟨.spec, .d⟩, ⟨.spec, .h⟩, ⟨.spec, .d⟩, {}, {}, ⟨.spec, .d⟩, ⟨.spec, .h⟩, ⟨.spec, .d⟩, {}, {}, ⟨.spec, .d⟩, ⟨.spec, .h⟩, ⟨.spec, .d⟩, {}, {}, ⟨.spec, .d⟩, ⟨.spec, .h⟩, ⟨.spec, .d⟩]]) (by kernel_rfl) (ob1 (show (decide (x0 ≥ 0)) = true → (decide (x0 ≥ 0)) = true from idG (decide (x0 ≥ 0))) (ob1 (show (decide (x0 ≥ 0)) = true → (decide (x0 ≥ 0)) = true from idG (decide (x0 ≥ 0))) (ob1 (show (decide (x0 ≥ 0)) = true → (decide (x0 ≥ 0)) = true from idG (decide (x0 ≥ 0))) (ob1 (show (bif (decide (x0 ≥ 0)) then (decide (x0 ≤ 65535)) else false) = true → (bif (decide (x0 ≥ 0)) then (decide (x0 ≤ 65535)) else false) = true from idG (bif (decide (x0 ≥ 0)) then (decide (x0 ≤ 65535)) else false)) (ob1 (show (bif (decide (x0 ≥ 0)) then (decide (x0 ≤ 65535)) else false) = true → (bif (decide (x0 ≥ 0)) then (decide (x0 ≤ 65535)) else false) = true from idG (bif (decide (x0 ≥ 0)) then (decide (x0 ≤ 65535)) else false)) (ob1 (show (bif (decide (x0 ≥ 0)) then (decide (x0 ≤ 65535)) else false) = true → (bif (decide (x0 ≥ 0)) then (decide (x0 ≤ 65535)) else false) = true from idG (bif (decide (x0 ≥ 0)) then (decide (x0 ≤ 65535)) else false)) (ob1 (show (bif (bif (decide (x0 ≥ 0)) then (decide (x0 ≤ 65535)) else false) then (decide (x1 ≥ 0)) else false) = true → (bif (bif (decide (x0 ≥ 0)) then (decide (x0 ≤ 65535)) else false) then (decide (x1 ≥ 0)) else false) = true from idG (bif (bif (decide (x0 ≥ 0)) then (decide (x0 ≤ 65535)) else false) then (decide (x1 ≥ 0)) else false)) (ob1 (show (bif (bif (decide (x0 ≥ 0)) then (decide (x0 ≤ 65535)) else false) then (decide (x1 ≥ 0)) else false) = true → (bif (bif (decide (x0 ≥ 0)) then (decide (x0 ≤ 65535)) else false) then (decide (x1 ≥ 0)) else false) = true from idG (bif (bif (decide (x0 ≥ 0)) then (decide (x0 ≤ 65535)) else false) then (decide (x1 ≥ 0)) else false)) (ob1 (show (bif (bif (decide (x0 ≥ 0)) then (decide (x0 ≤ 65535)) else false) then (decide (x1 ≥ 0)) else false) = true → (bif (bif (decide (x0 ≥ 0)) then (decide (x0 ≤ 65535)) else false) then (decide (x1 ≥ 0)) else false) = true from idG (bif (bif (decide (x0 ≥ 0)) then (decide (x0 ≤ 65535)) else false) then (decide (x1 ≥ 0)) else false)) (ob1 (show (bif (bif (bif (decide (x0 ≥ 0)) then (decide (x0 ≤ 65535)) else false) then (decide (x1 ≥ 0)) else false) then (decide (x1 ≤ 255)) else false) = true → (bif (bif (bif (decide (x0 ≥ 0)) then (decide (x0 ≤ 65535)) else false) then (decide (x1 ≥ 0)) else false) then (decide (x1 ≤ 255)) else false) = true from idG (bif (bif (bif (decide (x0 ≥ 0)) then (decide (x0 ≤ 65535)) else false) then (decide (x1 ≥ 0)) else false) then (decide (x1 ≤ 255)) else false)) (ob1 (show (bif (bif (bif (decide (x0 ≥ 0)) then (decide (x0 ≤ 65535)) else false) then (decide (x1 ≥ 0)) else false) then (decide (x1 ≤ 255)) else false) = true → (bif (bif (bif (decide (x0 ≥ 0)) then (decide (x0 ≤ 65535)) else false) then (decide (x1 ≥ 0)) else false) then (decide (x1 ≤ 255)) else false) = true from idG (bif (bif (bif (decide (x0 ≥ 0)) then (decide (x0 ≤ 65535)) else false) then (decide (x1 ≥ 0)) else false) then (decide (x1 ≤ 255)) else false)) (ob1 (show (bif (bif (bif (decide (x0 ≥ 0)) then (decide (x0 ≤ 65535)) else false) then (decide (x1 ≥ 0)) else false) then (decide (x1 ≤ 255)) else false) = true → (bif (bif (bif (decide (x0 ≥ 0)) then (decide (x0 ≤ 65535)) else false) then (decide (x1 ≥ 0)) else false) then (decide (x1 ≤ 255)) else false) = true from idG (bif (bif (bif (decide (x0 ≥ 0)) then (decide (x0 ≤ 65535)) else false) then (decide (x1 ≥ 0)) else false) then (decide (x1 ≤ 255)) else false)) (ob1 (show (bif (bif (bif (bif (decide (x0 ≥ 0)) then (decide (x0 ≤ 65535)) else false) then (decide (x1 ≥ 0)) else false) then (decide (x1 ≤ 255)) else false) then (decide (x2 ≥ 0)) else false) = true → (bif (bif (bif (bif (decide (x0 ≥ 0)) then (decide (x0 ≤ 65535)) else false) then (decide (x1 ≥ 0)) else false) then (decide (x1 ≤ 255)) else false) then (decide (x2 ≥ 0)) else false) = true from idG (bif (bif (bif (bif (decide (x0 ≥ 0)) then (decide (x0 ≤ 65535)) else false) then (decide (x1 ≥ 0)) else false) then (decide (x1 ≤ 255)) else false) then (decide (x2 ≥ 0)) else false)) (ob1 (show (bif (bif (bif (bif (decide (x0 ≥ 0)) then (decide (x0 ≤ 65535)) else false) then (decide (x1 ≥ 0)) else false) then (decide (x1 ≤ 255)) else false) then (decide (x2 ≥ 0)) else false) = true → (bif (bif (bif (bif (decide (x0 ≥ 0)) then (decide (x0 ≤ 65535)) else false) then (decide (x1 ≥ 0)) else false) then (decide (x1 ≤ 255)) else false) then (decide (x2 ≥ 0)) else false) = true from idG (bif (bif (bif (bif (decide (x0 ≥ 0)) then (decide (x0 ≤ 65535)) else false) then (decide (x1 ≥ 0)) else false) then (decide (x1 ≤ 255)) else false) then (decide (x2 ≥ 0)) else false)) (ob1 (show (bif (bif (bif (bif (decide (x0 ≥ 0)) then (decide (x0 ≤ 65535)) else false) then (decide (x1 ≥ 0)) else false) then (decide (x1 ≤ 255)) else false) then (decide (x2 ≥ 0)) else false) = true → (bif (bif (bif (bif (decide (x0 ≥ 0)) then (decide (x0 ≤ 65535)) else false) then (decide (x1 ≥ 0)) else false) then (decide (x1 ≤ 255)) else false) then (decide (x2 ≥ 0)) else false) = true from idG (bif (bif (bif (bif (decide (x0 ≥ 0)) then (decide (x0 ≤ 65535)) else false) then (decide (x1 ≥ 0)) else false) then (decide (x1 ≤ 255)) else false) then (decide (x2 ≥ 0)) else false)) ob0))))))))))))))) ca0)
/-! ### tipstaff/checker.may (function 50) -/
-- entry: ret
theorem F50.p0 (x0 x1 x2 x3 : Int) (ho0 : (x0 == 32) = true) :
    EvF Try.prog prim 50 [.agg [.int .i64 x0, .int .i64 x1, .int .i64 x2, .int .u32 x3]] [] [] [.v (.bool (bif ((Int.tmod x3 4) == 0) then (decide (x3 ≤ 60)) else false))] [] :=
  EvF.of Try.func50 (EvK.done (n := 70) (sc := [.reg [], .reg [{}, ⟨.auto, .h⟩], .br (some true), .reg [{}, ⟨.auto, .h⟩, {}, {}, {}, ⟨.spec, .d⟩, ⟨.spec, .h⟩, ⟨.spec, .d⟩]]) (by kernel_rfl) (ob1 ho0 (ob1 (show ((Int.tmod x3 4) == 0) = true → ((Int.tmod x3 4) == 0) = true from idG ((Int.tmod x3 4) == 0)) (ob1 (show ((Int.tmod x3 4) == 0) = true → ((Int.tmod x3 4) == 0) = true from idG ((Int.tmod x3 4) == 0)) (ob1 (show ((Int.tmod x3 4) == 0) = true → ((Int.tmod x3 4) == 0) = true from idG ((Int.tmod x3 4) == 0)) ob0)))) ca0)
-- entry: ret
theorem F50.p1 (x0 x1 x2 x3 : Int) (stores loads : Bool) (ho0 : (x0 == 32) = false)
    (ho1 : (bif stores then true else loads) = true)
    (hc0 : EvF Try.prog prim 53 [.v (.int .i64 x0)] [] [] [.v (.bool stores)] [])
    (hc1 : (!stores) = true → EvF Try.prog prim 40 [.v (.int .i64 x0)] [] [] [.v (.bool loads)] []) :
    EvF Try.prog prim 50 [.agg [.int .i64 x0, .int .i64 x1, .int .i64 x2, .int .u32 x3]] [] [] [.v (.bool (decide (x3 < 16)))] [] :=
  EvF.of Try.func50 (EvK.done (n := 73) (sc := [.reg [], .reg [{}, ⟨.auto, .h⟩], .br (some false), .reg [{}, ⟨.auto, .h⟩, ⟨.auto, .call [] false [.v (.bool stores)]⟩, {}, ⟨.spec, .d⟩, ⟨.spec, .h⟩, ⟨.spec, .call [] false [.v (.bool loads)]⟩], .br (some true), .reg [{}, ⟨.auto, .h⟩]]) (by kernel_rfl) (ob1 ho0 (ob1 (show (!stores) = true → (!stores) = true from idG (!stores)) (ob1 (show (!stores) = true → (!stores) = true from idG (!stores)) (ob1 (show stores = false → (!stores) = true from notF) (ob1 ho1 ob0))))) (ca1 (fun _ : True => hc0) (ca1 (fun g : (!stores) = true ∧ True => hc1 g.1) ca0)))
-- entry: ret
theorem F50.p2 (x0 x1 x2 x3 : Int) (stores loads : Bool) (ho0 : (x0 == 32) = false)
    (ho1 : (bif stores then true else loads) = false)
    (ho2 : (x0 == 52) = true)
    (hc0 : EvF Try.prog prim 53 [.v (.int .i64 x0)] [] [] [.v (.bool stores)] [])
    (hc1 : (!stores) = true → EvF Try.prog prim 40 [.v (.int .i64 x0)] [] [] [.v (.bool loads)] []) :
    EvF Try.prog prim 50 [.agg [.int .i64 x0, .int .i64 x1, .int .i64 x2, .int .u32 x3]] [] [] [.v (.bool (x3 != 0))] [] :=
  EvF.of Try.func50 (EvK.done (n := 76) (sc := [.reg [], .reg [{}, ⟨.auto, .h⟩], .br (some false), .reg [{}, ⟨.auto, .h⟩, ⟨.auto, .call [] false [.v (.bool stores)]⟩, {}, ⟨.spec, .d⟩, ⟨.spec, .h⟩, ⟨.spec, .call [] false [.v (.bool loads)]⟩], .br (some false), .reg [{}, ⟨.auto, .h⟩], .br (some true), .reg [{}, ⟨.auto, .h⟩]]) (by kernel_rfl) (ob1 ho0 (ob1 (show (!stores) = true → (!stores) = true from idG (!stores)) (ob1 (show (!stores) = true → (!stores) = true from idG (!stores)) (ob1 (show stores = false → (!stores) = true from notF) (ob1 ho1 (ob1 ho2 ob0)))))) (ca1 (fun _ : True => hc0) (ca1 (fun g : (!stores) = true ∧ True => hc1 g.1) ca0)))
-- entry: ret
theorem F50.p3 (x0 x1 x2 x3 : Int) (stores loads : Bool) (ho0 : (x0 == 32) = false)
    (ho1 : (bif stores then true else loads) = false)
    (ho2 : (x0 == 52) = false)
    (ho3 : (bif (x0 == 100) then true else (x0 == 116)) = true)
    (hc0 : EvF Try.prog prim 53 [.v (.int .i64 x0)] [] [] [.v (.bool stores)] [])
    (hc1 : (!stores) = true → EvF Try.prog prim 40 [.v (.int .i64 x0)] [] [] [.v (.bool loads)] []) :
    EvF Try.prog prim 50 [.agg [.int .i64 x0, .int .i64 x1, .int .i64 x2, .int .u32 x3]] [] [] [.v (.bool (decide (x3 < 32)))] [] :=
  EvF.of Try.func50 (EvK.done (n := 79) (sc := [.reg [], .reg [{}, ⟨.auto, .h⟩], .br (some false), .reg [{}, ⟨.auto, .h⟩, ⟨.auto, .call [] false [.v (.bool stores)]⟩, {}, ⟨.spec, .d⟩, ⟨.spec, .h⟩, ⟨.spec, .call [] false [.v (.bool loads)]⟩], .br (some false), .reg [{}, ⟨.auto, .h⟩], .br (some false), .reg [{}, ⟨.auto, .h⟩, {}, {}, ⟨.spec, .d⟩, ⟨.spec, .h⟩, ⟨.spec, .d⟩], .br (some true), .reg [{}, ⟨.auto, .h⟩]]) (by kernel_rfl) (ob1 ho0 (ob1 (show (!stores) = true → (!stores) = true from idG (!stores)) (ob1 (show (!stores) = true → (!stores) = true from idG (!stores)) (ob1 (show stores = false → (!stores) = true from notF) (ob1 ho1 (ob1 ho2 (ob1 (show (!(x0 == 100)) = true → (!(x0 == 100)) = true from idG (!(x0 == 100))) (ob1 (show (!(x0 == 100)) = true → (!(x0 == 100)) = true from idG (!(x0 == 100))) (ob1 (show (x0 == 100) = false → (!(x0 == 100)) = true from notF) (ob1 ho3 ob0)))))))))) (ca1 (fun _ : True => hc0) (ca1 (fun g : (!stores) = true ∧ True => hc1 g.1) ca0)))
-- entry: ret
theorem F50.p4 (x0 x1 x2 x3 : Int) (stores loads : Bool) (ho0 : (x0 == 32) = false)
    (ho1 : (bif stores then true else loads) = false)
    (ho2 : (x0 == 52) = false)
    (ho3 : (bif (x0 == 100) then true else (x0 == 116)) = false)
    (hc0 : EvF Try.prog prim 53 [.v (.int .i64 x0)] [] [] [.v (.bool stores)] [])
    (hc1 : (!stores) = true → EvF Try.prog prim 40 [.v (.int .i64 x0)] [] [] [.v (.bool loads)] []) :
    EvF Try.prog prim 50 [.agg [.int .i64 x0, .int .i64 x1, .int .i64 x2, .int .u32 x3]] [] [] [.v (.bool true)] [] :=
  EvF.of Try.func50 (EvK.done (n := 81) (sc := [.reg [], .reg [{}, ⟨.auto, .h⟩], .br (some false), .reg [{}, ⟨.auto, .h⟩, ⟨.auto, .call [] false [.v (.bool stores)]⟩, {}, ⟨.spec, .d⟩, ⟨.spec, .h⟩, ⟨.spec, .call [] false [.v (.bool loads)]⟩], .br (some false), .reg [{}, ⟨.auto, .h⟩], .br (some false), .reg [{}, ⟨.auto, .h⟩, {}, {}, ⟨.spec, .d⟩, ⟨.spec, .h⟩, ⟨.spec, .d⟩], .br (some false), .reg []]) (by kernel_rfl) (ob1 ho0 (ob1 (show (!stores) = true → (!stores) = true from idG (!stores)) (ob1 (show (!stores) = true → (!stores) = true from idG (!stores)) (ob1 (show stores = false → (!stores) = true from notF) (ob1 ho1 (ob1 ho2 (ob1 (show (!(x0 == 100)) = true → (!(x0 == 100)) = true from idG (!(x0 == 100))) (ob1 (show (!(x0 == 100)) = true → (!(x0 == 100)) = true from idG (!(x0 == 100))) (ob1 (show (x0 == 100) = false → (!(x0 == 100)) = true from notF) (ob1 ho3 ob0)))))))))) (ca1 (fun _ : True => hc0) (ca1 (fun g : (!stores) = true ∧ True => hc1 g.1) ca0)))
/-! ### tipstaff/checker.Ends (function 51) -/
-- entry: ret
theorem F51.p0 (code : Int)  :
    EvF Try.prog prim 51 [.v (.int .i64 code)] [] [] [.v (.bool (bif (code == 6) then true else (code == 22)))] [] :=
  EvF.of Try.func51 (EvK.done (n := 65) (sc := [.reg [], .reg [{}, {}, {}, ⟨.spec, .d⟩, ⟨.spec, .d⟩]]) (by kernel_rfl) (ob1 (show (!(code == 6)) = true → (!(code == 6)) = true from idG (!(code == 6))) (ob1 (show (code == 6) = false → (!(code == 6)) = true from notF) ob0)) ca0)
/-! ### tipstaff/checker.Jumps (function 52) -/
-- entry: ret
theorem F52.p0 (code : Int) (ho0 : (code == 21) = true) :
    EvF Try.prog prim 52 [.v (.int .i64 code)] [] [] [.v (.bool true)] [] :=
  EvF.of Try.func52 (EvK.done (n := 75) (sc := [.reg [], .reg [], .reg [], .br (some true), .br (some true), .reg []]) (by kernel_rfl) (ob1 ho0 (ob1 ho0 ob0)) ca0)
-- entry: ret
theorem F52.p1 (code : Int) (ho0 : (code == 21) = false)
    (ho1 : (code == 37) = true) :
    EvF Try.prog prim 52 [.v (.int .i64 code)] [] [] [.v (.bool true)] [] :=
  EvF.of Try.func52 (EvK.done (n := 78) (sc := [.reg [], .reg [], .reg [], .br (some false), .reg [], .br (some true), .br (some true), .reg []]) (by kernel_rfl) (ob1 ho0 (ob1 ho1 (ob1 ho1 ob0))) ca0)
-- entry: ret
theorem F52.p2 (code : Int) (ho0 : (code == 21) = false)
    (ho1 : (code == 37) = false)
    (ho2 : (code == 53) = true) :
    EvF Try.prog prim 52 [.v (.int .i64 code)] [] [] [.v (.bool true)] [] :=
  EvF.of Try.func52 (EvK.done (n := 81) (sc := [.reg [], .reg [], .reg [], .br (some false), .reg [], .br (some false), .reg [], .br (some true), .br (some true), .reg []]) (by kernel_rfl) (ob1 ho0 (ob1 ho1 (ob1 ho2 (ob1 ho2 ob0)))) ca0)
-- entry: ret
theorem F52.p3 (code : Int) (ho0 : (code == 21) = false)
    (ho1 : (code == 37) = false)
    (ho2 : (code == 53) = false)
    (ho3 : (code == 69) = true) :
    EvF Try.prog prim 52 [.v (.int .i64 code)] [] [] [.v (.bool true)] [] :=
  EvF.of Try.func52 (EvK.done (n := 84) (sc := [.reg [], .reg [], .reg [], .br (some false), .reg [], .br (some false), .reg [], .br (some false), .reg [], .br (some true), .br (some true), .reg []]) (by kernel_rfl) (ob1 ho0 (ob1 ho1 (ob1 ho2 (ob1 ho3 (ob1 ho3 ob0))))) ca0)
-- entry: ret
theorem F52.p4 (code : Int) (ho0 : (code == 21) = false)
    (ho1 : (code == 37) = false)
    (ho2 : (code == 53) = false)
    (ho3 : (code == 69) = false)
    (ho4 : (code == 29) = true) :
    EvF Try.prog prim 52 [.v (.int .i64 code)] [] [] [.v (.bool true)] [] :=
  EvF.of Try.func52 (EvK.done (n := 87) (sc := [.reg [], .reg [], .reg [], .br (some false), .reg [], .br (some false), .reg [], .br (some false), .reg [], .br (some false), .reg [], .br (some true), .br (some true), .reg []]) (by kernel_rfl) (ob1 ho0 (ob1 ho1 (ob1 ho2 (ob1 ho3 (ob1 ho4 (ob1 ho4 ob0)))))) ca0)
-- entry: ret
theorem F52.p5 (code : Int) (ho0 : (code == 21) = false)
    (ho1 : (code == 37) = false)
    (ho2 : (code == 53) = false)
    (ho3 : (code == 69) = false)
    (ho4 : (code == 29) = false)
    (ho5 : (code == 45) = true) :
    EvF Try.prog prim 52 [.v (.int .i64 code)] [] [] [.v (.bool true)] [] :=
  EvF.of Try.func52 (EvK.done (n := 90) (sc := [.reg [], .reg [], .reg [], .br (some false), .reg [], .br (some false), .reg [], .br (some false), .reg [], .br (some false), .reg [], .br (some false), .reg [], .br (some true), .br (some true), .reg []]) (by kernel_rfl) (ob1 ho0 (ob1 ho1 (ob1 ho2 (ob1 ho3 (ob1 ho4 (ob1 ho5 (ob1 ho5 ob0))))))) ca0)
-- entry: ret
theorem F52.p6 (code : Int) (ho0 : (code == 21) = false)
    (ho1 : (code == 37) = false)
    (ho2 : (code == 53) = false)
    (ho3 : (code == 69) = false)
    (ho4 : (code == 29) = false)
    (ho5 : (code == 45) = false)
    (ho6 : (code == 61) = true) :
    EvF Try.prog prim 52 [.v (.int .i64 code)] [] [] [.v (.bool true)] [] :=
  EvF.of Try.func52 (EvK.done (n := 93) (sc := [.reg [], .reg [], .reg [], .br (some false), .reg [], .br (some false), .reg [], .br (some false), .reg [], .br (some false), .reg [], .br (some false), .reg [], .br (some false), .reg [], .br (some true), .br (some true), .reg []]) (by kernel_rfl) (ob1 ho0 (ob1 ho1 (ob1 ho2 (ob1 ho3 (ob1 ho4 (ob1 ho5 (ob1 ho6 (ob1 ho6 ob0)))))))) ca0)
-- entry: ret
theorem F52.p7 (code : Int) (ho0 : (code == 21) = false)
    (ho1 : (code == 37) = false)
    (ho2 : (code == 53) = false)
    (ho3 : (code == 69) = false)
    (ho4 : (code == 29) = false)
    (ho5 : (code == 45) = false)
    (ho6 : (code == 61) = false)
    (ho7 : (code == 77) = true) :
    EvF Try.prog prim 52 [.v (.int .i64 code)] [] [] [.v (.bool true)] [] :=
  EvF.of Try.func52 (EvK.done (n := 93) (sc := [.reg [], .reg [], .reg [], .br (some false), .reg [], .br (some false), .reg [], .br (some false), .reg [], .br (some false), .reg [], .br (some false), .reg [], .br (some false), .reg [], .br (some false), .reg [], .br (some true), .reg []]) (by kernel_rfl) (ob1 ho0 (ob1 ho1 (ob1 ho2 (ob1 ho3 (ob1 ho4 (ob1 ho5 (ob1 ho6 (ob1 ho7 ob0)))))))) ca0)
-- entry: ret
theorem F52.p8 (code : Int) (ho0 : (code == 21) = false)
    (ho1 : (code == 37) = false)
    (ho2 : (code == 53) = false)
    (ho3 : (code == 69) = false)
    (ho4 : (code == 29) = false)
    (ho5 : (code == 45) = false)
    (ho6 : (code == 61) = false)
    (ho7 : (code == 77) = false) :
    EvF Try.prog prim 52 [.v (.int .i64 code)] [] [] [.v (.bool false)] [] :=
  EvF.of Try.func52 (EvK.done (n := 95) (sc := [.reg [], .reg [], .reg [], .br (some false), .reg [], .br (some false), .reg [], .br (some false), .reg [], .br (some false), .reg [], .br (some false), .reg [], .br (some false), .reg [], .br (some false), .reg [], .br (some false), .reg []]) (by kernel_rfl) (ob1 ho0 (ob1 ho1 (ob1 ho2 (ob1 ho3 (ob1 ho4 (ob1 ho5 (ob1 ho6 (ob1 ho7 ob0)))))))) ca0)
/-! ### tipstaff/checker.stores (function 53) -/
-- entry: ret
theorem F53.p0 (code : Int)  :
    EvF Try.prog prim 53 [.v (.int .i64 code)] [] [] [.v (.bool (bif (code == 2) then true else (code == 3)))] [] :=
  EvF.of Try.func53 (EvK.done (n := 65) (sc := [.reg [], .reg [{}, {}, {}, ⟨.spec, .d⟩, ⟨.spec, .d⟩]]) (by kernel_rfl) (ob1 (show (!(code == 2)) = true → (!(code == 2)) = true from idG (!(code == 2))) (ob1 (show (code == 2) = false → (!(code == 2)) = true from notF) ob0)) ca0)
/-! ### tipstaff/listing.names (function 55) -/
-- entry: ret
theorem F55.p0   :
    EvF Try.prog prim 55 [] [] [] [.v (.sl [[.int .i64 0, .str (⟨#[108, 100, 105, 109, 109]⟩)], [.int .i64 1, .str (⟨#[108, 100, 120, 105, 109, 109]⟩)], [.int .i64 2, .str (⟨#[115, 116]⟩)], [.int .i64 3, .str (⟨#[115, 116, 120]⟩)], [.int .i64 4, .str (⟨#[97, 100, 100, 107]⟩)], [.int .i64 5, .str (⟨#[106, 97]⟩)], [.int .i64 6, .str (⟨#[114, 101, 116, 107]⟩)], [.int .i64 7, .str (⟨#[116, 97, 120]⟩)], [.int .i64 12, .str (⟨#[97, 100, 100, 120]⟩)], [.int .i64 20, .str (⟨#[115, 117, 98, 107]⟩)], [.int .i64 21, .str (⟨#[106, 101, 113, 107]⟩)], [.int .i64 22, .str (⟨#[114, 101, 116, 97]⟩)], [.int .i64 28, .str (⟨#[115, 117, 98, 120]⟩)], [.int .i64 29, .str (⟨#[106, 101, 113, 120]⟩)], [.int .i64 32, .str (⟨#[108, 100, 97, 98, 115]⟩)], [.int .i64 36, .str (⟨#[109, 117, 108, 107]⟩)], [.int .i64 37, .str (⟨#[106, 103, 116, 107]⟩)], [.int .i64 44, .str (⟨#[109, 117, 108, 120]⟩)], [.int .i64 45, .str (⟨#[106, 103, 116, 120]⟩)], [.int .i64 52, .str (⟨#[100, 105, 118, 107]⟩)], [.int .i64 53, .str (⟨#[106, 103, 101, 107]⟩)], [.int .i64 60, .str (⟨#[100, 105, 118, 120]⟩)], [.int .i64 61, .str (⟨#[106, 103, 101, 120]⟩)], [.int .i64 68, .str (⟨#[111, 114, 107]⟩)], [.int .i64 69, .str (⟨#[106, 115, 101, 116, 107]⟩)], [.int .i64 76, .str (⟨#[111, 114, 120]⟩)], [.int .i64 77, .str (⟨#[106, 115, 101, 116, 120]⟩)], [.int .i64 84, .str (⟨#[97, 110, 100, 107]⟩)], [.int .i64 92, .str (⟨#[97, 110, 100, 120]⟩)], [.int .i64 96, .str (⟨#[108, 100, 109, 101, 109]⟩)], [.int .i64 97, .str (⟨#[108, 100, 120, 109, 101, 109]⟩)], [.int .i64 100, .str (⟨#[108, 115, 104, 107]⟩)], [.int .i64 108, .str (⟨#[108, 115, 104, 120]⟩)], [.int .i64 116, .str (⟨#[114, 115, 104, 107]⟩)], [.int .i64 124, .str (⟨#[114, 115, 104, 120]⟩)], [.int .i64 128, .str (⟨#[108, 100, 108, 101, 110]⟩)], [.int .i64 129, .str (⟨#[108, 100, 120, 108, 101, 110]⟩)], [.int .i64 132, .str (⟨#[110, 101, 103]⟩)], [.int .i64 135, .str (⟨#[116, 120, 97]⟩)], [.int .i64 164, .str (⟨#[120, 111, 114, 107]⟩)], [.int .i64 172, .str (⟨#[120, 111, 114, 120]⟩)]])] [] :=
  EvF.of Try.func55 (EvK.done (n := 65) (sc := [.reg [], .reg []]) (by kernel_rfl) ob0 ca0)
/-! ### slices.IndexFunc[[]tipstaff/listing.known,tipstaff/listing.known] (function 56) -/
def F56.h0 (b : Nat) (H : List (List AV)) (s : List (List PV)) (t8 : Int) : St :=
  { tmps := [.v (.sl s), .fn (.func 57) [] [.optr b 0], .none, .none, .none, .none, .none, .v (.int .i64 ((s.length : Int))), .v (.int .i64 t8), .none, .none, .none, .none, .none, .none, .none, .none, .none, .none], toks := [], outer := H, heap := [] }
-- entry: to h0
theorem F56.p0 (b : Nat) (H : List (List AV)) (s : List (List PV)) {r : List AV} {h : List (List AV)} (hk : EvK Try.prog prim Try.f56 (loopAt Try.f56 0) (F56.h0 b H s 0) r h) :
    EvF Try.prog prim 56 [.v (.sl s), .fn (.func 57) [] [.optr b 0]] [] H r h :=
  EvF.of Try.func56 (EvK.cont (n := 67) (sc := [.reg [], .reg [], .cut { kill := [4, 6], weak := [], adopt := [], adoptB := [], heapLen := 0, toks := [] }]) (todo' := loopAt Try.f56 0) (s' := F56.h0 b H s 0) (by kernel_rfl) ob0 ca0 hk)
-- h0: ret
theorem F56.l0_1 (b : Nat) (H : List (List AV)) (s : List (List PV)) (t8 y0_2 : Int) (y1_2 : ByteArray) (name_2 : Bool) (ho0 : (decide (t8 < ((s.length : Int)))) = true)
    (ho1 : (0 : Int) ≤ t8)
    (ho2 : (s : List (List PV))[Int.toNat t8]? = some [.int .i64 y0_2, .str y1_2])
    (ho3 : name_2 = true)
    (hc0 : EvF Try.prog prim 57 [.agg [.int .i64 y0_2, .str y1_2], .optr b 0] [] (H ++ []) [.v (.bool name_2)] (H ++ [])) :
    EvK Try.prog prim Try.f56 (loopAt Try.f56 0) (F56.h0 b H s t8) [.v (.int .i64 t8)] H :=
  EvK.done (n := 75) (sc := [.reg [], .br (some true), .reg [], .reg [{}, {}, {}, ⟨.auto, .row [.int .i64 y0_2, .str y1_2]⟩, {}, ⟨.auto, .callH [.v (.bool name_2)] H []⟩], .br (some true), .reg []]) (by kernel_rfl) (ob1 ho0 (ob1 ho1 (ob1 ho2 (ob1 (show (H : List (List AV)).length = (H : List (List AV)).length from rfl) (ob1 (show LowS H H from (fun cs hc => Or.inl hc)) (ob1 ho3 ob0)))))) (ca1 (fun _ : True => hc0) ca0)
-- h0: to h0
theorem F56.l0_2 (b : Nat) (H : List (List AV)) (s : List (List PV)) (t8 y0_2 : Int) (y1_2 : ByteArray) (name_2 : Bool) {r : List AV} {h : List (List AV)} (ho0 : (decide (t8 < ((s.length : Int)))) = true)
    (ho1 : (0 : Int) ≤ t8)
    (ho2 : (s : List (List PV))[Int.toNat t8]? = some [.int .i64 y0_2, .str y1_2])
    (ho3 : name_2 = false)
    (ho4 : inR .i64 (t8 + 1))
    (hc0 : EvF Try.prog prim 57 [.agg [.int .i64 y0_2, .str y1_2], .optr b 0] [] (H ++ []) [.v (.bool name_2)] (H ++ []))
    (hk : EvK Try.prog prim Try.f56 (loopAt Try.f56 0) (F56.h0 b H s ((t8 + 1))) r h) :
    EvK Try.prog prim Try.f56 (loopAt Try.f56 0) (F56.h0 b H s t8) r h :=
  EvK.cont (n := 76) (sc := [.reg [], .br (some true), .reg [], .reg [{}, {}, {}, ⟨.auto, .row [.int .i64 y0_2, .str y1_2]⟩, {}, ⟨.auto, .callH [.v (.bool name_2)] H []⟩], .br (some false), .reg [⟨.auto, .nw⟩], .cut { kill := [5, 9, 10, 11, 12, 13, 14, 15, 16, 18], weak := [], adopt := [], adoptB := [], heapLen := 0, toks := [] }]) (todo' := loopAt Try.f56 0) (s' := F56.h0 b H s ((t8 + 1))) (by kernel_rfl) (ob1 ho0 (ob1 ho1 (ob1 ho2 (ob1 (show (H : List (List AV)).length = (H : List (List AV)).length from rfl) (ob1 (show LowS H H from (fun cs hc => Or.inl hc)) (ob1 ho3 (ob1 ho4 ob0))))))) (ca1 (fun _ : True => hc0) ca0) hk
-- h0: ret
theorem F56.l0_3 (b : Nat) (H : List (List AV)) (s : List (List PV)) (t8 : Int) (ho0 : (decide (t8 < ((s.length : Int)))) = false) :
    EvK Try.prog prim Try.f56 (loopAt Try.f56 0) (F56.h0 b H s t8) [.v (.int .i64 (-1))] H :=
  EvK.done (n := 68) (sc := [.reg [], .br (some false), .reg []]) (by kernel_rfl) (ob1 ho0 ob0) ca0
/-! ### tipstaff/listing.Name$1 (function 57) -/
-- entry: ret
theorem F57.p0 (b : Nat) (code : Int) (H : List (List AV)) (k0 : Int) (k1 : ByteArray) (ho0 : H[b]? = some [.v (.int .i64 code)]) :
    EvF Try.prog prim 57 [.agg [.int .i64 k0, .str k1], .optr b 0] [] H [.v (.bool (k0 == code))] H :=
  EvF.of Try.func57 (EvK.done (n := 65) (sc := [.reg [], .reg [{}, ⟨.auto, .h⟩, ⟨.auto, .box [.v (.int .i64 code)]⟩]]) (by kernel_rfl) (ob1 ho0 ob0) ca0)
/-! ### tipstaff/tipstafflaw4.alive (function 22) -/
-- entry: ret
theorem F22.p0 (check0 : Int) (check1 : Bool) (check0_1 : Int) (check1_1 : Bool) (hc0 : EvF Try.prog prim 23 [.v (.sl [])] [] [] [.v (.int .i64 check0), .v (.bool check1)] [])
    (hc1 : EvF Try.prog prim 23 [.v (.sl [[.int .i64 6, .int .i64 0, .int .i64 0, .int .u32 0]])] [] [] [.v (.int .i64 check0_1), .v (.bool check1_1)] []) :
    EvF Try.prog prim 22 [] [] [] [.v (.bool (bif (bif (bif (check0 == 0) then (!check1) else false) then (check0_1 == (-1)) else false) then check1_1 else false))] [] :=
  EvF.of Try.func22 (EvK.done (n := 69) (sc := [.reg [], .reg [⟨.auto, .call [] false [.v (.int .i64 check0), .v (.bool check1)]⟩], .reg [{}, {}, ⟨.auto, .call [] false [.v (.int .i64 check0_1), .v (.bool check1_1)]⟩], .reg [{}, {}, {}, ⟨.spec, .d⟩, ⟨.spec, .d⟩, {}, {}, ⟨.spec, .d⟩, ⟨.spec, .d⟩, {}, {}, ⟨.spec, .d⟩]]) (by kernel_rfl) (ob1 (show (check0 == 0) = true → (check0 == 0) = true from idG (check0 == 0)) (ob1 (show (check0 == 0) = true → (check0 == 0) = true from idG (check0 == 0)) (ob1 (show (bif (check0 == 0) then (!check1) else false) = true → (bif (check0 == 0) then (!check1) else false) = true from idG (bif (check0 == 0) then (!check1) else false)) (ob1 (show (bif (check0 == 0) then (!check1) else false) = true → (bif (check0 == 0) then (!check1) else false) = true from idG (bif (check0 == 0) then (!check1) else false)) (ob1 (show (bif (bif (check0 == 0) then (!check1) else false) then (check0_1 == (-1)) else false) = true → (bif (bif (check0 == 0) then (!check1) else false) then (check0_1 == (-1)) else false) = true from idG (bif (bif (check0 == 0) then (!check1) else false) then (check0_1 == (-1)) else false)) ob0))))) (ca1 (fun _ : True => hc0) (ca1 (fun _ : True => hc1) ca0)))
end Go.Ab.S3
