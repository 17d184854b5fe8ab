/-
The paths of the function 50, as the evaluator goes them: printed by a program.
-/
import Derived.Test.YtimkgalclegffaaBase
namespace Go.Ab.S1
open Go Go.Proofs Go.Ab
set_option maxRecDepth 100000
/-! ### slices.IndexFunc[[]tipstaff/api.Cond,tipstaff/api.Cond] (function 50) -/
def F50_40.h0 (H : List (List AV)) (s : List (List PV)) (t8 : Int) : St :=
  { tmps := [.v (.sl s), .fn (.func 40) [] [], .none, .none, .none, .none, .none, .v (.int .i64 ((s.length : Int))), .v (.int .i64 t8), .none, .none, .none, .none, .none, .none, .none, .none, .none, .none], toks := [], outer := H, heap := [] }
-- entry: to h0
theorem F50_40.p0 (H : List (List AV)) (s : List (List PV)) {r : List AV} {h : List (List AV)} (hk : EvK Try.prog prim Try.f50 (loopAt Try.f50 0) (F50_40.h0 H s 0) r h) :
    EvF Try.prog prim 50 [.v (.sl s), .fn (.func 40) [] []] [] H r h :=
  EvF.of Try.func50 (EvK.cont (n := 12) (sc := [.reg [], .reg [], .cut { kill := [4, 6], weak := [], adopt := [], adoptB := [], heapLen := 0, toks := [] }]) (todo' := loopAt Try.f50 0) (s' := F50_40.h0 H s 0) (by kernel_rfl) ob0 ca0 hk)
-- h0: ret
theorem F50_40.l0_1 (H : List (List AV)) (s : List (List PV)) (t8 y0_2 y1_2 y2_2 y3_2 y4_2 : Int) (y5_2 : List (List PV)) (right_2 : Bool) (ho0 : (decide (t8 < ((s.length : Int)))) = true)
    (ho1 : (0 : Int) ≤ t8)
    (ho2 : (s : List (List PV))[Int.toNat t8]? = some [.int .i64 y0_2, .int .i64 y1_2, .int .i64 y2_2, .int .u64 y3_2, .int .u64 y4_2, .sl y5_2])
    (ho3 : right_2 = true)
    (hc0 : EvF Try.prog prim 40 [.agg [.int .i64 y0_2, .int .i64 y1_2, .int .i64 y2_2, .int .u64 y3_2, .int .u64 y4_2, .sl y5_2]] [] [] [.v (.bool right_2)] []) :
    EvK Try.prog prim Try.f50 (loopAt Try.f50 0) (F50_40.h0 H s t8) [.v (.int .i64 t8)] H :=
  EvK.done (n := 20) (sc := [.reg [], .br (some true), .reg [], .reg [{}, {}, {}, ⟨.auto, .row [.int .i64 y0_2, .int .i64 y1_2, .int .i64 y2_2, .int .u64 y3_2, .int .u64 y4_2, .sl y5_2]⟩, {}, ⟨.auto, .call [] false [.v (.bool right_2)]⟩], .br (some true), .reg []]) (by kernel_rfl) (ob1 ho0 (ob1 ho1 (ob1 ho2 (ob1 ho3 ob0)))) (ca1 (fun _ : True => hc0) ca0)
-- h0: to h0
theorem F50_40.l0_2 (H : List (List AV)) (s : List (List PV)) (t8 y0_2 y1_2 y2_2 y3_2 y4_2 : Int) (y5_2 : List (List PV)) (right_2 : Bool) {r : List AV} {h : List (List AV)} (ho0 : (decide (t8 < ((s.length : Int)))) = true)
    (ho1 : (0 : Int) ≤ t8)
    (ho2 : (s : List (List PV))[Int.toNat t8]? = some [.int .i64 y0_2, .int .i64 y1_2, .int .i64 y2_2, .int .u64 y3_2, .int .u64 y4_2, .sl y5_2])
    (ho3 : right_2 = false)
    (ho4 : inR .i64 (t8 + 1))
    (hc0 : EvF Try.prog prim 40 [.agg [.int .i64 y0_2, .int .i64 y1_2, .int .i64 y2_2, .int .u64 y3_2, .int .u64 y4_2, .sl y5_2]] [] [] [.v (.bool right_2)] [])
    (hk : EvK Try.prog prim Try.f50 (loopAt Try.f50 0) (F50_40.h0 H s ((t8 + 1))) r h) :
    EvK Try.prog prim Try.f50 (loopAt Try.f50 0) (F50_40.h0 H s t8) r h :=
  EvK.cont (n := 21) (sc := [.reg [], .br (some true), .reg [], .reg [{}, {}, {}, ⟨.auto, .row [.int .i64 y0_2, .int .i64 y1_2, .int .i64 y2_2, .int .u64 y3_2, .int .u64 y4_2, .sl y5_2]⟩, {}, ⟨.auto, .call [] false [.v (.bool right_2)]⟩], .br (some false), .reg [⟨.auto, .nw⟩], .cut { kill := [5, 9, 10, 11, 12, 13, 14, 15, 16, 18], weak := [], adopt := [], adoptB := [], heapLen := 0, toks := [] }]) (todo' := loopAt Try.f50 0) (s' := F50_40.h0 H s ((t8 + 1))) (by kernel_rfl) (ob1 ho0 (ob1 ho1 (ob1 ho2 (ob1 ho3 (ob1 ho4 ob0))))) (ca1 (fun _ : True => hc0) ca0) hk
-- h0: ret
theorem F50_40.l0_3 (H : List (List AV)) (s : List (List PV)) (t8 : Int) (ho0 : (decide (t8 < ((s.length : Int)))) = false) :
    EvK Try.prog prim Try.f50 (loopAt Try.f50 0) (F50_40.h0 H s t8) [.v (.int .i64 (-1))] H :=
  EvK.done (n := 13) (sc := [.reg [], .br (some false), .reg []]) (by kernel_rfl) (ob1 ho0 ob0) ca0
/-! ### slices.IndexFunc[[]tipstaff/api.Cond,tipstaff/api.Cond] (function 50) -/
def F50_52.h0 (b : Nat) (H : List (List AV)) (s : List (List PV)) (t8 : Int) : St :=
  { tmps := [.v (.sl s), .fn (.func 52) [] [.optr b 0], .none, .none, .none, .none, .none, .v (.int .i64 ((s.length : Int))), .v (.int .i64 t8), .none, .none, .none, .none, .none, .none, .none, .none, .none, .none], toks := [], outer := H, heap := [] }
-- entry: to h0
theorem F50_52.p0 (b : Nat) (H : List (List AV)) (s : List (List PV)) {r : List AV} {h : List (List AV)} (hk : EvK Try.prog prim Try.f50 (loopAt Try.f50 0) (F50_52.h0 b H s 0) r h) :
    EvF Try.prog prim 50 [.v (.sl s), .fn (.func 52) [] [.optr b 0]] [] H r h :=
  EvF.of Try.func50 (EvK.cont (n := 12) (sc := [.reg [], .reg [], .cut { kill := [4, 6], weak := [], adopt := [], adoptB := [], heapLen := 0, toks := [] }]) (todo' := loopAt Try.f50 0) (s' := F50_52.h0 b H s 0) (by kernel_rfl) ob0 ca0 hk)
-- h0: ret
theorem F50_52.l0_1 (b : Nat) (H : List (List AV)) (s : List (List PV)) (t8 y0_2 y1_2 y2_2 y3_2 y4_2 : Int) (y5_2 : List (List PV)) (holds_2 : Bool) (ho0 : (decide (t8 < ((s.length : Int)))) = true)
    (ho1 : (0 : Int) ≤ t8)
    (ho2 : (s : List (List PV))[Int.toNat t8]? = some [.int .i64 y0_2, .int .i64 y1_2, .int .i64 y2_2, .int .u64 y3_2, .int .u64 y4_2, .sl y5_2])
    (ho3 : holds_2 = true)
    (hc0 : EvF Try.prog prim 52 [.agg [.int .i64 y0_2, .int .i64 y1_2, .int .i64 y2_2, .int .u64 y3_2, .int .u64 y4_2, .sl y5_2], .optr b 0] [] (H ++ []) [.v (.bool holds_2)] (H ++ [])) :
    EvK Try.prog prim Try.f50 (loopAt Try.f50 0) (F50_52.h0 b H s t8) [.v (.int .i64 t8)] H :=
  EvK.done (n := 20) (sc := [.reg [], .br (some true), .reg [], .reg [{}, {}, {}, ⟨.auto, .row [.int .i64 y0_2, .int .i64 y1_2, .int .i64 y2_2, .int .u64 y3_2, .int .u64 y4_2, .sl y5_2]⟩, {}, ⟨.auto, .callH [.v (.bool holds_2)] H []⟩], .br (some true), .reg []]) (by kernel_rfl) (ob1 ho0 (ob1 ho1 (ob1 ho2 (ob1 (show (H : List (List AV)).length = (H : List (List AV)).length from rfl) (ob1 (show LowS H H from (fun cs hc => Or.inl hc)) (ob1 ho3 ob0)))))) (ca1 (fun _ : True => hc0) ca0)
-- h0: to h0
theorem F50_52.l0_2 (b : Nat) (H : List (List AV)) (s : List (List PV)) (t8 y0_2 y1_2 y2_2 y3_2 y4_2 : Int) (y5_2 : List (List PV)) (holds_2 : Bool) {r : List AV} {h : List (List AV)} (ho0 : (decide (t8 < ((s.length : Int)))) = true)
    (ho1 : (0 : Int) ≤ t8)
    (ho2 : (s : List (List PV))[Int.toNat t8]? = some [.int .i64 y0_2, .int .i64 y1_2, .int .i64 y2_2, .int .u64 y3_2, .int .u64 y4_2, .sl y5_2])
    (ho3 : holds_2 = false)
    (ho4 : inR .i64 (t8 + 1))
    (hc0 : EvF Try.prog prim 52 [.agg [.int .i64 y0_2, .int .i64 y1_2, .int .i64 y2_2, .int .u64 y3_2, .int .u64 y4_2, .sl y5_2], .optr b 0] [] (H ++ []) [.v (.bool holds_2)] (H ++ []))
    (hk : EvK Try.prog prim Try.f50 (loopAt Try.f50 0) (F50_52.h0 b H s ((t8 + 1))) r h) :
    EvK Try.prog prim Try.f50 (loopAt Try.f50 0) (F50_52.h0 b H s t8) r h :=
  EvK.cont (n := 21) (sc := [.reg [], .br (some true), .reg [], .reg [{}, {}, {}, ⟨.auto, .row [.int .i64 y0_2, .int .i64 y1_2, .int .i64 y2_2, .int .u64 y3_2, .int .u64 y4_2, .sl y5_2]⟩, {}, ⟨.auto, .callH [.v (.bool holds_2)] H []⟩], .br (some false), .reg [⟨.auto, .nw⟩], .cut { kill := [5, 9, 10, 11, 12, 13, 14, 15, 16, 18], weak := [], adopt := [], adoptB := [], heapLen := 0, toks := [] }]) (todo' := loopAt Try.f50 0) (s' := F50_52.h0 b H s ((t8 + 1))) (by kernel_rfl) (ob1 ho0 (ob1 ho1 (ob1 ho2 (ob1 (show (H : List (List AV)).length = (H : List (List AV)).length from rfl) (ob1 (show LowS H H from (fun cs hc => Or.inl hc)) (ob1 ho3 (ob1 ho4 ob0))))))) (ca1 (fun _ : True => hc0) ca0) hk
-- h0: ret
theorem F50_52.l0_3 (b : Nat) (H : List (List AV)) (s : List (List PV)) (t8 : Int) (ho0 : (decide (t8 < ((s.length : Int)))) = false) :
    EvK Try.prog prim Try.f50 (loopAt Try.f50 0) (F50_52.h0 b H s t8) [.v (.int .i64 (-1))] H :=
  EvK.done (n := 13) (sc := [.reg [], .br (some false), .reg []]) (by kernel_rfl) (ob1 ho0 ob0) ca0
/-! ### slices.IndexFunc[[]tipstaff/api.Cond,tipstaff/api.Cond] (function 50) -/
def F50_51.h0 (b : Nat) (H : List (List AV)) (s : List (List PV)) (t8 : Int) : St :=
  { tmps := [.v (.sl s), .fn (.func 51) [] [.optr b 0], .none, .none, .none, .none, .none, .v (.int .i64 ((s.length : Int))), .v (.int .i64 t8), .none, .none, .none, .none, .none, .none, .none, .none, .none, .none], toks := [], outer := H, heap := [] }
-- entry: to h0
theorem F50_51.p0 (b : Nat) (H : List (List AV)) (s : List (List PV)) {r : List AV} {h : List (List AV)} (hk : EvK Try.prog prim Try.f50 (loopAt Try.f50 0) (F50_51.h0 b H s 0) r h) :
    EvF Try.prog prim 50 [.v (.sl s), .fn (.func 51) [] [.optr b 0]] [] H r h :=
  EvF.of Try.func50 (EvK.cont (n := 12) (sc := [.reg [], .reg [], .cut { kill := [4, 6], weak := [], adopt := [], adoptB := [], heapLen := 0, toks := [] }]) (todo' := loopAt Try.f50 0) (s' := F50_51.h0 b H s 0) (by kernel_rfl) ob0 ca0 hk)
-- h0: ret
theorem F50_51.l0_1 (b : Nat) (H : List (List AV)) (s : List (List PV)) (t8 y0_2 y1_2 y2_2 y3_2 y4_2 : Int) (y5_2 : List (List PV)) (holds_2 : Bool) (ho0 : (decide (t8 < ((s.length : Int)))) = true)
    (ho1 : (0 : Int) ≤ t8)
    (ho2 : (s : List (List PV))[Int.toNat t8]? = some [.int .i64 y0_2, .int .i64 y1_2, .int .i64 y2_2, .int .u64 y3_2, .int .u64 y4_2, .sl y5_2])
    (ho3 : holds_2 = true)
    (hc0 : EvF Try.prog prim 51 [.agg [.int .i64 y0_2, .int .i64 y1_2, .int .i64 y2_2, .int .u64 y3_2, .int .u64 y4_2, .sl y5_2], .optr b 0] [] (H ++ []) [.v (.bool holds_2)] (H ++ [])) :
    EvK Try.prog prim Try.f50 (loopAt Try.f50 0) (F50_51.h0 b H s t8) [.v (.int .i64 t8)] H :=
  EvK.done (n := 20) (sc := [.reg [], .br (some true), .reg [], .reg [{}, {}, {}, ⟨.auto, .row [.int .i64 y0_2, .int .i64 y1_2, .int .i64 y2_2, .int .u64 y3_2, .int .u64 y4_2, .sl y5_2]⟩, {}, ⟨.auto, .callH [.v (.bool holds_2)] H []⟩], .br (some true), .reg []]) (by kernel_rfl) (ob1 ho0 (ob1 ho1 (ob1 ho2 (ob1 (show (H : List (List AV)).length = (H : List (List AV)).length from rfl) (ob1 (show LowS H H from (fun cs hc => Or.inl hc)) (ob1 ho3 ob0)))))) (ca1 (fun _ : True => hc0) ca0)
-- h0: to h0
theorem F50_51.l0_2 (b : Nat) (H : List (List AV)) (s : List (List PV)) (t8 y0_2 y1_2 y2_2 y3_2 y4_2 : Int) (y5_2 : List (List PV)) (holds_2 : Bool) {r : List AV} {h : List (List AV)} (ho0 : (decide (t8 < ((s.length : Int)))) = true)
    (ho1 : (0 : Int) ≤ t8)
    (ho2 : (s : List (List PV))[Int.toNat t8]? = some [.int .i64 y0_2, .int .i64 y1_2, .int .i64 y2_2, .int .u64 y3_2, .int .u64 y4_2, .sl y5_2])
    (ho3 : holds_2 = false)
    (ho4 : inR .i64 (t8 + 1))
    (hc0 : EvF Try.prog prim 51 [.agg [.int .i64 y0_2, .int .i64 y1_2, .int .i64 y2_2, .int .u64 y3_2, .int .u64 y4_2, .sl y5_2], .optr b 0] [] (H ++ []) [.v (.bool holds_2)] (H ++ []))
    (hk : EvK Try.prog prim Try.f50 (loopAt Try.f50 0) (F50_51.h0 b H s ((t8 + 1))) r h) :
    EvK Try.prog prim Try.f50 (loopAt Try.f50 0) (F50_51.h0 b H s t8) r h :=
  EvK.cont (n := 21) (sc := [.reg [], .br (some true), .reg [], .reg [{}, {}, {}, ⟨.auto, .row [.int .i64 y0_2, .int .i64 y1_2, .int .i64 y2_2, .int .u64 y3_2, .int .u64 y4_2, .sl y5_2]⟩, {}, ⟨.auto, .callH [.v (.bool holds_2)] H []⟩], .br (some false), .reg [⟨.auto, .nw⟩], .cut { kill := [5, 9, 10, 11, 12, 13, 14, 15, 16, 18], weak := [], adopt := [], adoptB := [], heapLen := 0, toks := [] }]) (todo' := loopAt Try.f50 0) (s' := F50_51.h0 b H s ((t8 + 1))) (by kernel_rfl) (ob1 ho0 (ob1 ho1 (ob1 ho2 (ob1 (show (H : List (List AV)).length = (H : List (List AV)).length from rfl) (ob1 (show LowS H H from (fun cs hc => Or.inl hc)) (ob1 ho3 (ob1 ho4 ob0))))))) (ca1 (fun _ : True => hc0) ca0) hk
-- h0: ret
theorem F50_51.l0_3 (b : Nat) (H : List (List AV)) (s : List (List PV)) (t8 : Int) (ho0 : (decide (t8 < ((s.length : Int)))) = false) :
    EvK Try.prog prim Try.f50 (loopAt Try.f50 0) (F50_51.h0 b H s t8) [.v (.int .i64 (-1))] H :=
  EvK.done (n := 13) (sc := [.reg [], .br (some false), .reg []]) (by kernel_rfl) (ob1 ho0 ob0) ca0
end Go.Ab.S1
