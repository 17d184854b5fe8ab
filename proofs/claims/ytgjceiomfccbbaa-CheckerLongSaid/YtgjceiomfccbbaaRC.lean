/-
The paths of the functions 37, 38, 26, 35, 36, 46, 47, as the evaluator goes them: printed by a program.
-/
import Derived.Test.YtgjceiomfccbbaaBase
namespace Go.Ab.S3
open Go Go.Proofs Go.Ab
set_option maxRecDepth 100000
/-! ### (*tipstaff/tipstaffref1.State).With (function 37) -/
-- entry: ret
theorem F37.p0 (b : Nat) (A X c0 c1 c2 c3 c4 c5 c6 c7 c8 c9 c10 c11 c12 c13 c14 c15 : Int) (H : List (List AV)) (c k : Int) (ho0 : ((IntKind.i64.wrap ((BitVec.ofInt 64 c &&& BitVec.ofInt 64 8).toNat : Int)) != 0) = true)
    (ho1 : H[b]? = some (RB A X c0 c1 c2 c3 c4 c5 c6 c7 c8 c9 c10 c11 c12 c13 c14 c15)) :
    EvF Try.prog prim 37 [.optr b 0, .v (.int .i64 c), .v (.int .u32 k)] [] H [.v (.int .u32 X)] H :=
  EvF.of Try.func37 (EvK.done (n := 69) (sc := [.reg [], .reg [], .br (some true), .reg [{}, {}, {}, ⟨.auto, .box (RB A X c0 c1 c2 c3 c4 c5 c6 c7 c8 c9 c10 c11 c12 c13 c14 c15)⟩]]) (by kernel_rfl) (ob1 ho0 (ob1 ho1 ob0)) ca0)
-- entry: ret
theorem F37.p1 (b : Nat) (H : List (List AV)) (c k : Int) (ho0 : ((IntKind.i64.wrap ((BitVec.ofInt 64 c &&& BitVec.ofInt 64 8).toNat : Int)) != 0) = false) :
    EvF Try.prog prim 37 [.optr b 0, .v (.int .i64 c), .v (.int .u32 k)] [] H [.v (.int .u32 k)] H :=
  EvF.of Try.func37 (EvK.done (n := 70) (sc := [.reg [], .reg [], .br (some false), .reg []]) (by kernel_rfl) (ob1 ho0 ob0) ca0)
/-! ### (*tipstaff/tipstaffref1.State).Plain (function 38) -/
-- entry: ret
theorem F38.p0 (b : Nat) (A X c0 c1 c2 c3 c4 c5 c6 c7 c8 c9 c10 c11 c12 c13 c14 c15 : Int) (H : List (List AV)) (c k d0 d1 d2 d3 d4 d5 d6 d7 d8 : Int) (isalu : Bool) (ho0 : isalu = true)
    (ho1 : ((IntKind.i64.wrap ((BitVec.ofInt 64 c &&& BitVec.ofInt 64 8).toNat : Int)) != 0) = true)
    (ho2 : H[b]? = some (RB A X c0 c1 c2 c3 c4 c5 c6 c7 c8 c9 c10 c11 c12 c13 c14 c15))
    (ho3 : (bif (bif (c == 52) then true else (c == 60)) then (X == 0) else false) = true)
    (hc0 : EvF Try.prog prim 46 [.v (.int .i64 c)] [] [] [.v (.bool isalu)] []) :
    EvF Try.prog prim 38 [.optr b 0, .v (.int .i64 c), .v (.int .u32 k), .agg (DA d0 d1 d2 d3 d4 d5 d6 d7 d8)] [] H [.v (.bool false), .v (.bool (c == 60))] H :=
  EvF.of Try.func38 (EvK.done (n := 80) (sc := [.reg [], .reg [{}, ⟨.auto, .call [] false [.v (.bool isalu)]⟩], .br (some true), .reg [], .reg [], .br (some true), .reg [{}, {}, {}, ⟨.auto, .box (RB A X c0 c1 c2 c3 c4 c5 c6 c7 c8 c9 c10 c11 c12 c13 c14 c15)⟩], .reg [{}, {}, {}, ⟨.spec, .d⟩, ⟨.spec, .d⟩, {}, {}, ⟨.spec, .d⟩, ⟨.spec, .d⟩], .br (some true), .reg []]) (by kernel_rfl) (ob1 ho0 (ob1 ho1 (ob1 ho2 (ob1 (show (!(c == 52)) = true → (!(c == 52)) = true from idG (!(c == 52))) (ob1 (show (c == 52) = false → (!(c == 52)) = true from notF) (ob1 (show (bif (c == 52) then true else (c == 60)) = true → (bif (c == 52) then true else (c == 60)) = true from idG (bif (c == 52) then true else (c == 60))) (ob1 (show (bif (c == 52) then true else (c == 60)) = true → (bif (c == 52) then true else (c == 60)) = true from idG (bif (c == 52) then true else (c == 60))) (ob1 ho3 ob0)))))))) (ca1 (fun _ : True => hc0) ca0))
-- entry: ret
theorem F38.p1 (b : Nat) (A X c0 c1 c2 c3 c4 c5 c6 c7 c8 c9 c10 c11 c12 c13 c14 c15 : Int) (H : List (List AV)) (c k d0 d1 d2 d3 d4 d5 d6 d7 d8 : Int) (isalu : Bool) (alu : Int) (ho0 : isalu = true)
    (ho1 : ((IntKind.i64.wrap ((BitVec.ofInt 64 c &&& BitVec.ofInt 64 8).toNat : Int)) != 0) = true)
    (ho2 : H[b]? = some (RB A X c0 c1 c2 c3 c4 c5 c6 c7 c8 c9 c10 c11 c12 c13 c14 c15))
    (ho3 : (bif (bif (c == 52) then true else (c == 60)) then (X == 0) else false) = false)
    (hc0 : EvF Try.prog prim 46 [.v (.int .i64 c)] [] [] [.v (.bool isalu)] [])
    (hc1 : EvF Try.prog prim 47 [.v (.int .i64 c), .v (.int .u32 A), .v (.int .u32 X)] [] [] [.v (.int .u32 alu)] []) :
    EvF Try.prog prim 38 [.optr b 0, .v (.int .i64 c), .v (.int .u32 k), .agg (DA d0 d1 d2 d3 d4 d5 d6 d7 d8)] [] H [.v (.bool true), .v (.bool false)] (H.set b (RB alu X c0 c1 c2 c3 c4 c5 c6 c7 c8 c9 c10 c11 c12 c13 c14 c15)) :=
  EvF.of Try.func38 (EvK.done (n := 83) (sc := [.reg [], .reg [{}, ⟨.auto, .call [] false [.v (.bool isalu)]⟩], .br (some true), .reg [], .reg [], .br (some true), .reg [{}, {}, {}, ⟨.auto, .box (RB A X c0 c1 c2 c3 c4 c5 c6 c7 c8 c9 c10 c11 c12 c13 c14 c15)⟩], .reg [{}, {}, {}, ⟨.spec, .d⟩, ⟨.spec, .d⟩, {}, {}, ⟨.spec, .d⟩, ⟨.spec, .d⟩], .br (some false), .reg [{}, {}, {}, {}, {}, ⟨.auto, .box (RB A X c0 c1 c2 c3 c4 c5 c6 c7 c8 c9 c10 c11 c12 c13 c14 c15)⟩, {}, ⟨.auto, .call [] false [.v (.int .u32 alu)]⟩, {}, {}, ⟨.auto, .box (RB A X c0 c1 c2 c3 c4 c5 c6 c7 c8 c9 c10 c11 c12 c13 c14 c15)⟩], .reg []]) (by kernel_rfl) (ob1 ho0 (ob1 ho1 (ob1 ho2 (ob1 (show (!(c == 52)) = true → (!(c == 52)) = true from idG (!(c == 52))) (ob1 (show (c == 52) = false → (!(c == 52)) = true from notF) (ob1 (show (bif (c == 52) then true else (c == 60)) = true → (bif (c == 52) then true else (c == 60)) = true from idG (bif (c == 52) then true else (c == 60))) (ob1 (show (bif (c == 52) then true else (c == 60)) = true → (bif (c == 52) then true else (c == 60)) = true from idG (bif (c == 52) then true else (c == 60))) (ob1 ho3 (ob1 ho2 (ob1 ho2 ob0)))))))))) (ca1 (fun _ : True => hc0) (ca1 (fun _ : True => hc1) ca0)))
-- entry: ret
theorem F38.p2 (b : Nat) (H : List (List AV)) (c k d0 d1 d2 d3 d4 d5 d6 d7 d8 : Int) (isalu : Bool) (ho0 : isalu = true)
    (ho1 : ((IntKind.i64.wrap ((BitVec.ofInt 64 c &&& BitVec.ofInt 64 8).toNat : Int)) != 0) = false)
    (ho2 : (bif (bif (c == 52) then true else (c == 60)) then (k == 0) else false) = true)
    (hc0 : EvF Try.prog prim 46 [.v (.int .i64 c)] [] [] [.v (.bool isalu)] []) :
    EvF Try.prog prim 38 [.optr b 0, .v (.int .i64 c), .v (.int .u32 k), .agg (DA d0 d1 d2 d3 d4 d5 d6 d7 d8)] [] H [.v (.bool false), .v (.bool (c == 60))] H :=
  EvF.of Try.func38 (EvK.done (n := 80) (sc := [.reg [], .reg [{}, ⟨.auto, .call [] false [.v (.bool isalu)]⟩], .br (some true), .reg [], .reg [], .br (some false), .reg [{}, {}, {}, ⟨.spec, .d⟩, ⟨.spec, .d⟩, {}, {}, ⟨.spec, .d⟩, ⟨.spec, .d⟩], .br (some true), .reg []]) (by kernel_rfl) (ob1 ho0 (ob1 ho1 (ob1 (show (!(c == 52)) = true → (!(c == 52)) = true from idG (!(c == 52))) (ob1 (show (c == 52) = false → (!(c == 52)) = true from notF) (ob1 (show (bif (c == 52) then true else (c == 60)) = true → (bif (c == 52) then true else (c == 60)) = true from idG (bif (c == 52) then true else (c == 60))) (ob1 (show (bif (c == 52) then true else (c == 60)) = true → (bif (c == 52) then true else (c == 60)) = true from idG (bif (c == 52) then true else (c == 60))) (ob1 ho2 ob0))))))) (ca1 (fun _ : True => hc0) ca0))
-- entry: ret
theorem F38.p3 (b : Nat) (A X c0 c1 c2 c3 c4 c5 c6 c7 c8 c9 c10 c11 c12 c13 c14 c15 : Int) (H : List (List AV)) (c k d0 d1 d2 d3 d4 d5 d6 d7 d8 : Int) (isalu : Bool) (alu : Int) (ho0 : isalu = true)
    (ho1 : ((IntKind.i64.wrap ((BitVec.ofInt 64 c &&& BitVec.ofInt 64 8).toNat : Int)) != 0) = false)
    (ho2 : (bif (bif (c == 52) then true else (c == 60)) then (k == 0) else false) = false)
    (ho3 : H[b]? = some (RB A X c0 c1 c2 c3 c4 c5 c6 c7 c8 c9 c10 c11 c12 c13 c14 c15))
    (hc0 : EvF Try.prog prim 46 [.v (.int .i64 c)] [] [] [.v (.bool isalu)] [])
    (hc1 : EvF Try.prog prim 47 [.v (.int .i64 c), .v (.int .u32 A), .v (.int .u32 k)] [] [] [.v (.int .u32 alu)] []) :
    EvF Try.prog prim 38 [.optr b 0, .v (.int .i64 c), .v (.int .u32 k), .agg (DA d0 d1 d2 d3 d4 d5 d6 d7 d8)] [] H [.v (.bool true), .v (.bool false)] (H.set b (RB alu X c0 c1 c2 c3 c4 c5 c6 c7 c8 c9 c10 c11 c12 c13 c14 c15)) :=
  EvF.of Try.func38 (EvK.done (n := 83) (sc := [.reg [], .reg [{}, ⟨.auto, .call [] false [.v (.bool isalu)]⟩], .br (some true), .reg [], .reg [], .br (some false), .reg [{}, {}, {}, ⟨.spec, .d⟩, ⟨.spec, .d⟩, {}, {}, ⟨.spec, .d⟩, ⟨.spec, .d⟩], .br (some false), .reg [{}, {}, {}, {}, {}, ⟨.auto, .box (RB A X c0 c1 c2 c3 c4 c5 c6 c7 c8 c9 c10 c11 c12 c13 c14 c15)⟩, {}, ⟨.auto, .call [] false [.v (.int .u32 alu)]⟩, {}, {}, ⟨.auto, .box (RB A X c0 c1 c2 c3 c4 c5 c6 c7 c8 c9 c10 c11 c12 c13 c14 c15)⟩], .reg []]) (by kernel_rfl) (ob1 ho0 (ob1 ho1 (ob1 (show (!(c == 52)) = true → (!(c == 52)) = true from idG (!(c == 52))) (ob1 (show (c == 52) = false → (!(c == 52)) = true from notF) (ob1 (show (bif (c == 52) then true else (c == 60)) = true → (bif (c == 52) then true else (c == 60)) = true from idG (bif (c == 52) then true else (c == 60))) (ob1 (show (bif (c == 52) then true else (c == 60)) = true → (bif (c == 52) then true else (c == 60)) = true from idG (bif (c == 52) then true else (c == 60))) (ob1 ho2 (ob1 ho3 (ob1 ho3 ob0))))))))) (ca1 (fun _ : True => hc0) (ca1 (fun _ : True => hc1) ca0)))
-- entry: ret
theorem F38.p4 (b : Nat) (A X c0 c1 c2 c3 c4 c5 c6 c7 c8 c9 c10 c11 c12 c13 c14 c15 : Int) (H : List (List AV)) (c k d0 d1 d2 d3 d4 d5 d6 d7 d8 : Int) (isalu : Bool) (ho0 : isalu = false)
    (ho1 : (c == 0) = true)
    (ho2 : H[b]? = some (RB A X c0 c1 c2 c3 c4 c5 c6 c7 c8 c9 c10 c11 c12 c13 c14 c15))
    (hc0 : EvF Try.prog prim 46 [.v (.int .i64 c)] [] [] [.v (.bool isalu)] []) :
    EvF Try.prog prim 38 [.optr b 0, .v (.int .i64 c), .v (.int .u32 k), .agg (DA d0 d1 d2 d3 d4 d5 d6 d7 d8)] [] H [.v (.bool true), .v (.bool false)] (H.set b (RB k X c0 c1 c2 c3 c4 c5 c6 c7 c8 c9 c10 c11 c12 c13 c14 c15)) :=
  EvF.of Try.func38 (EvK.done (n := 79) (sc := [.reg [], .reg [{}, ⟨.auto, .call [] false [.v (.bool isalu)]⟩], .br (some false), .reg [], .reg [], .br (some true), .reg [{}, {}, {}, {}, ⟨.auto, .box (RB A X c0 c1 c2 c3 c4 c5 c6 c7 c8 c9 c10 c11 c12 c13 c14 c15)⟩], .reg []]) (by kernel_rfl) (ob1 ho0 (ob1 ho1 (ob1 ho2 ob0))) (ca1 (fun _ : True => hc0) ca0))
-- entry: ret
theorem F38.p5 (b : Nat) (A X c0 c1 c2 c3 c4 c5 c6 c7 c8 c9 c10 c11 c12 c13 c14 c15 : Int) (H : List (List AV)) (c k d0 d1 d2 d3 d4 d5 d6 d7 d8 : Int) (isalu : Bool) (ho0 : isalu = false)
    (ho1 : (c == 0) = false)
    (ho2 : (c == 1) = true)
    (ho3 : H[b]? = some (RB A X c0 c1 c2 c3 c4 c5 c6 c7 c8 c9 c10 c11 c12 c13 c14 c15))
    (hc0 : EvF Try.prog prim 46 [.v (.int .i64 c)] [] [] [.v (.bool isalu)] []) :
    EvF Try.prog prim 38 [.optr b 0, .v (.int .i64 c), .v (.int .u32 k), .agg (DA d0 d1 d2 d3 d4 d5 d6 d7 d8)] [] H [.v (.bool true), .v (.bool false)] (H.set b (RB A k c0 c1 c2 c3 c4 c5 c6 c7 c8 c9 c10 c11 c12 c13 c14 c15)) :=
  EvF.of Try.func38 (EvK.done (n := 82) (sc := [.reg [], .reg [{}, ⟨.auto, .call [] false [.v (.bool isalu)]⟩], .br (some false), .reg [], .reg [], .br (some false), .reg [], .br (some true), .reg [{}, {}, {}, {}, ⟨.auto, .box (RB A X c0 c1 c2 c3 c4 c5 c6 c7 c8 c9 c10 c11 c12 c13 c14 c15)⟩], .reg []]) (by kernel_rfl) (ob1 ho0 (ob1 ho1 (ob1 ho2 (ob1 ho3 ob0)))) (ca1 (fun _ : True => hc0) ca0))
-- entry: ret
theorem F38.p6 (b : Nat) (A X c0 c1 c2 c3 c4 c5 c6 c7 c8 c9 c10 c11 c12 c13 c14 c15 : Int) (H : List (List AV)) (c k d0 d1 d2 d3 d4 d5 d6 d7 d8 : Int) (isalu : Bool) (ho0 : isalu = false)
    (ho1 : (c == 0) = false)
    (ho2 : (c == 1) = false)
    (ho3 : (c == 128) = true)
    (ho4 : H[b]? = some (RB A X c0 c1 c2 c3 c4 c5 c6 c7 c8 c9 c10 c11 c12 c13 c14 c15))
    (hc0 : EvF Try.prog prim 46 [.v (.int .i64 c)] [] [] [.v (.bool isalu)] []) :
    EvF Try.prog prim 38 [.optr b 0, .v (.int .i64 c), .v (.int .u32 k), .agg (DA d0 d1 d2 d3 d4 d5 d6 d7 d8)] [] H [.v (.bool true), .v (.bool false)] (H.set b (RB 64 X c0 c1 c2 c3 c4 c5 c6 c7 c8 c9 c10 c11 c12 c13 c14 c15)) :=
  EvF.of Try.func38 (EvK.done (n := 85) (sc := [.reg [], .reg [{}, ⟨.auto, .call [] false [.v (.bool isalu)]⟩], .br (some false), .reg [], .reg [], .br (some false), .reg [], .br (some false), .reg [], .br (some true), .reg [{}, {}, {}, ⟨.auto, .box (RB A X c0 c1 c2 c3 c4 c5 c6 c7 c8 c9 c10 c11 c12 c13 c14 c15)⟩], .reg []]) (by kernel_rfl) (ob1 ho0 (ob1 ho1 (ob1 ho2 (ob1 ho3 (ob1 ho4 ob0))))) (ca1 (fun _ : True => hc0) ca0))
-- entry: ret
theorem F38.p7 (b : Nat) (A X c0 c1 c2 c3 c4 c5 c6 c7 c8 c9 c10 c11 c12 c13 c14 c15 : Int) (H : List (List AV)) (c k d0 d1 d2 d3 d4 d5 d6 d7 d8 : Int) (isalu : Bool) (ho0 : isalu = false)
    (ho1 : (c == 0) = false)
    (ho2 : (c == 1) = false)
    (ho3 : (c == 128) = false)
    (ho4 : (c == 129) = true)
    (ho5 : H[b]? = some (RB A X c0 c1 c2 c3 c4 c5 c6 c7 c8 c9 c10 c11 c12 c13 c14 c15))
    (hc0 : EvF Try.prog prim 46 [.v (.int .i64 c)] [] [] [.v (.bool isalu)] []) :
    EvF Try.prog prim 38 [.optr b 0, .v (.int .i64 c), .v (.int .u32 k), .agg (DA d0 d1 d2 d3 d4 d5 d6 d7 d8)] [] H [.v (.bool true), .v (.bool false)] (H.set b (RB A 64 c0 c1 c2 c3 c4 c5 c6 c7 c8 c9 c10 c11 c12 c13 c14 c15)) :=
  EvF.of Try.func38 (EvK.done (n := 88) (sc := [.reg [], .reg [{}, ⟨.auto, .call [] false [.v (.bool isalu)]⟩], .br (some false), .reg [], .reg [], .br (some false), .reg [], .br (some false), .reg [], .br (some false), .reg [], .br (some true), .reg [{}, {}, {}, ⟨.auto, .box (RB A X c0 c1 c2 c3 c4 c5 c6 c7 c8 c9 c10 c11 c12 c13 c14 c15)⟩], .reg []]) (by kernel_rfl) (ob1 ho0 (ob1 ho1 (ob1 ho2 (ob1 ho3 (ob1 ho4 (ob1 ho5 ob0)))))) (ca1 (fun _ : True => hc0) ca0))
-- entry: ret
theorem F38.p8 (b : Nat) (A X c0 c1 c2 c3 c4 c5 c6 c7 c8 c9 c10 c11 c12 c13 c14 c15 : Int) (H : List (List AV)) (c k d0 d1 d2 d3 d4 d5 d6 d7 d8 : Int) (isalu : Bool) (ho0 : isalu = false)
    (ho1 : (c == 0) = false)
    (ho2 : (c == 1) = false)
    (ho3 : (c == 128) = false)
    (ho4 : (c == 129) = false)
    (ho5 : (c == 132) = true)
    (ho6 : H[b]? = some (RB A X c0 c1 c2 c3 c4 c5 c6 c7 c8 c9 c10 c11 c12 c13 c14 c15))
    (hc0 : EvF Try.prog prim 46 [.v (.int .i64 c)] [] [] [.v (.bool isalu)] []) :
    EvF Try.prog prim 38 [.optr b 0, .v (.int .i64 c), .v (.int .u32 k), .agg (DA d0 d1 d2 d3 d4 d5 d6 d7 d8)] [] H [.v (.bool true), .v (.bool false)] (H.set b (RB (IntKind.u32.wrap (0 - A)) X c0 c1 c2 c3 c4 c5 c6 c7 c8 c9 c10 c11 c12 c13 c14 c15)) :=
  EvF.of Try.func38 (EvK.done (n := 91) (sc := [.reg [], .reg [{}, ⟨.auto, .call [] false [.v (.bool isalu)]⟩], .br (some false), .reg [], .reg [], .br (some false), .reg [], .br (some false), .reg [], .br (some false), .reg [], .br (some false), .reg [], .br (some true), .reg [{}, {}, {}, {}, ⟨.auto, .box (RB A X c0 c1 c2 c3 c4 c5 c6 c7 c8 c9 c10 c11 c12 c13 c14 c15)⟩, {}, {}, {}, ⟨.auto, .box (RB A X c0 c1 c2 c3 c4 c5 c6 c7 c8 c9 c10 c11 c12 c13 c14 c15)⟩], .reg []]) (by kernel_rfl) (ob1 ho0 (ob1 ho1 (ob1 ho2 (ob1 ho3 (ob1 ho4 (ob1 ho5 (ob1 ho6 (ob1 ho6 ob0)))))))) (ca1 (fun _ : True => hc0) ca0))
-- entry: ret
theorem F38.p9 (b : Nat) (A X c0 c1 c2 c3 c4 c5 c6 c7 c8 c9 c10 c11 c12 c13 c14 c15 : Int) (H : List (List AV)) (c k d0 d1 d2 d3 d4 d5 d6 d7 d8 : Int) (isalu : Bool) (ho0 : isalu = false)
    (ho1 : (c == 0) = false)
    (ho2 : (c == 1) = false)
    (ho3 : (c == 128) = false)
    (ho4 : (c == 129) = false)
    (ho5 : (c == 132) = false)
    (ho6 : (c == 7) = true)
    (ho7 : H[b]? = some (RB A X c0 c1 c2 c3 c4 c5 c6 c7 c8 c9 c10 c11 c12 c13 c14 c15))
    (hc0 : EvF Try.prog prim 46 [.v (.int .i64 c)] [] [] [.v (.bool isalu)] []) :
    EvF Try.prog prim 38 [.optr b 0, .v (.int .i64 c), .v (.int .u32 k), .agg (DA d0 d1 d2 d3 d4 d5 d6 d7 d8)] [] H [.v (.bool true), .v (.bool false)] (H.set b (RB A A c0 c1 c2 c3 c4 c5 c6 c7 c8 c9 c10 c11 c12 c13 c14 c15)) :=
  EvF.of Try.func38 (EvK.done (n := 94) (sc := [.reg [], .reg [{}, ⟨.auto, .call [] false [.v (.bool isalu)]⟩], .br (some false), .reg [], .reg [], .br (some false), .reg [], .br (some false), .reg [], .br (some false), .reg [], .br (some false), .reg [], .br (some false), .reg [], .br (some true), .reg [{}, {}, {}, {}, ⟨.auto, .box (RB A X c0 c1 c2 c3 c4 c5 c6 c7 c8 c9 c10 c11 c12 c13 c14 c15)⟩, {}, {}, ⟨.auto, .box (RB A X c0 c1 c2 c3 c4 c5 c6 c7 c8 c9 c10 c11 c12 c13 c14 c15)⟩], .reg []]) (by kernel_rfl) (ob1 ho0 (ob1 ho1 (ob1 ho2 (ob1 ho3 (ob1 ho4 (ob1 ho5 (ob1 ho6 (ob1 ho7 (ob1 ho7 ob0))))))))) (ca1 (fun _ : True => hc0) ca0))
-- entry: ret
theorem F38.p10 (b : Nat) (A X c0 c1 c2 c3 c4 c5 c6 c7 c8 c9 c10 c11 c12 c13 c14 c15 : Int) (H : List (List AV)) (c k d0 d1 d2 d3 d4 d5 d6 d7 d8 : Int) (isalu : Bool) (ho0 : isalu = false)
    (ho1 : (c == 0) = false)
    (ho2 : (c == 1) = false)
    (ho3 : (c == 128) = false)
    (ho4 : (c == 129) = false)
    (ho5 : (c == 132) = false)
    (ho6 : (c == 7) = false)
    (ho7 : (c == 135) = true)
    (ho8 : H[b]? = some (RB A X c0 c1 c2 c3 c4 c5 c6 c7 c8 c9 c10 c11 c12 c13 c14 c15))
    (hc0 : EvF Try.prog prim 46 [.v (.int .i64 c)] [] [] [.v (.bool isalu)] []) :
    EvF Try.prog prim 38 [.optr b 0, .v (.int .i64 c), .v (.int .u32 k), .agg (DA d0 d1 d2 d3 d4 d5 d6 d7 d8)] [] H [.v (.bool true), .v (.bool false)] (H.set b (RB X X c0 c1 c2 c3 c4 c5 c6 c7 c8 c9 c10 c11 c12 c13 c14 c15)) :=
  EvF.of Try.func38 (EvK.done (n := 97) (sc := [.reg [], .reg [{}, ⟨.auto, .call [] false [.v (.bool isalu)]⟩], .br (some false), .reg [], .reg [], .br (some false), .reg [], .br (some false), .reg [], .br (some false), .reg [], .br (some false), .reg [], .br (some false), .reg [], .br (some false), .reg [], .br (some true), .reg [{}, {}, {}, {}, ⟨.auto, .box (RB A X c0 c1 c2 c3 c4 c5 c6 c7 c8 c9 c10 c11 c12 c13 c14 c15)⟩, {}, {}, ⟨.auto, .box (RB A X c0 c1 c2 c3 c4 c5 c6 c7 c8 c9 c10 c11 c12 c13 c14 c15)⟩], .reg []]) (by kernel_rfl) (ob1 ho0 (ob1 ho1 (ob1 ho2 (ob1 ho3 (ob1 ho4 (ob1 ho5 (ob1 ho6 (ob1 ho7 (ob1 ho8 (ob1 ho8 ob0)))))))))) (ca1 (fun _ : True => hc0) ca0))
-- entry: ret
theorem F38.p11 (b : Nat) (A X c0 c1 c2 c3 c4 c5 c6 c7 c8 c9 c10 c11 c12 c13 c14 c15 : Int) (H : List (List AV)) (c k d0 d1 d2 d3 d4 d5 d6 d7 d8 : Int) (isalu : Bool) (word0 : Int) (word1 : Bool) (ho0 : isalu = false)
    (ho1 : (c == 0) = false)
    (ho2 : (c == 1) = false)
    (ho3 : (c == 128) = false)
    (ho4 : (c == 129) = false)
    (ho5 : (c == 132) = false)
    (ho6 : (c == 7) = false)
    (ho7 : (c == 135) = false)
    (ho8 : (c == 32) = true)
    (ho9 : H[b]? = some (RB A X c0 c1 c2 c3 c4 c5 c6 c7 c8 c9 c10 c11 c12 c13 c14 c15))
    (hc0 : EvF Try.prog prim 46 [.v (.int .i64 c)] [] [] [.v (.bool isalu)] [])
    (hc1 : EvF Try.prog prim 18 [.agg (DA d0 d1 d2 d3 d4 d5 d6 d7 d8), .v (.int .u32 k)] [] [] [.v (.int .u32 word0), .v (.bool word1)] []) :
    EvF Try.prog prim 38 [.optr b 0, .v (.int .i64 c), .v (.int .u32 k), .agg (DA d0 d1 d2 d3 d4 d5 d6 d7 d8)] [] H [.v (.bool word1), .v (.bool false)] (H.set b (RB word0 X c0 c1 c2 c3 c4 c5 c6 c7 c8 c9 c10 c11 c12 c13 c14 c15)) :=
  EvF.of Try.func38 (EvK.done (n := 102) (sc := [.reg [], .reg [{}, ⟨.auto, .call [] false [.v (.bool isalu)]⟩], .br (some false), .reg [], .reg [], .br (some false), .reg [], .br (some false), .reg [], .br (some false), .reg [], .br (some false), .reg [], .br (some false), .reg [], .br (some false), .reg [], .br (some false), .reg [], .br (some true), .reg [⟨.auto, .h⟩, {}, ⟨.auto, .call [] false [.v (.int .u32 word0), .v (.bool word1)]⟩], .reg [{}, {}, {}, {}, ⟨.auto, .box (RB A X c0 c1 c2 c3 c4 c5 c6 c7 c8 c9 c10 c11 c12 c13 c14 c15)⟩], .reg []]) (by kernel_rfl) (ob1 ho0 (ob1 ho1 (ob1 ho2 (ob1 ho3 (ob1 ho4 (ob1 ho5 (ob1 ho6 (ob1 ho7 (ob1 ho8 (ob1 ho9 ob0)))))))))) (ca1 (fun _ : True => hc0) (ca1 (fun _ : True => hc1) ca0)))
-- entry: ret
theorem F38.p12 (b : Nat) (H : List (List AV)) (c k d0 d1 d2 d3 d4 d5 d6 d7 d8 : Int) (isalu : Bool) (ho0 : isalu = false)
    (ho1 : (c == 0) = false)
    (ho2 : (c == 1) = false)
    (ho3 : (c == 128) = false)
    (ho4 : (c == 129) = false)
    (ho5 : (c == 132) = false)
    (ho6 : (c == 7) = false)
    (ho7 : (c == 135) = false)
    (ho8 : (c == 32) = false)
    (ho9 : (c == 2) = true)
    (ho10 : (decide (k ≥ 16)) = true)
    (hc0 : EvF Try.prog prim 46 [.v (.int .i64 c)] [] [] [.v (.bool isalu)] []) :
    EvF Try.prog prim 38 [.optr b 0, .v (.int .i64 c), .v (.int .u32 k), .agg (DA d0 d1 d2 d3 d4 d5 d6 d7 d8)] [] H [.v (.bool false), .v (.bool false)] H :=
  EvF.of Try.func38 (EvK.done (n := 108) (sc := [.reg [], .reg [{}, ⟨.auto, .call [] false [.v (.bool isalu)]⟩], .br (some false), .reg [], .reg [], .br (some false), .reg [], .br (some false), .reg [], .br (some false), .reg [], .br (some false), .reg [], .br (some false), .reg [], .br (some false), .reg [], .br (some false), .reg [], .br (some false), .reg [], .br (some true), .br (some true), .reg [], .br (some true), .reg []]) (by kernel_rfl) (ob1 ho0 (ob1 ho1 (ob1 ho2 (ob1 ho3 (ob1 ho4 (ob1 ho5 (ob1 ho6 (ob1 ho7 (ob1 ho8 (ob1 ho9 (ob1 ho9 (ob1 ho10 ob0)))))))))))) (ca1 (fun _ : True => hc0) ca0))
-- entry: ret
theorem F38.p13 (b : Nat) (A X c0 c1 c2 c3 c4 c5 c6 c7 c8 c9 c10 c11 c12 c13 c14 c15 : Int) (H : List (List AV)) (c k d0 d1 d2 d3 d4 d5 d6 d7 d8 : Int) (isalu : Bool) (z z_1 z_2 z_3 z_4 z_5 z_6 z_7 z_8 z_9 z_10 z_11 z_12 z_13 z_14 z_15 z_16 z_17 : Int) (ho0 : isalu = false)
    (ho1 : (c == 0) = false)
    (ho2 : (c == 1) = false)
    (ho3 : (c == 128) = false)
    (ho4 : (c == 129) = false)
    (ho5 : (c == 132) = false)
    (ho6 : (c == 7) = false)
    (ho7 : (c == 135) = false)
    (ho8 : (c == 32) = false)
    (ho9 : (c == 2) = true)
    (ho10 : (decide (k ≥ 16)) = false)
    (ho11 : H[b]? = some (RB A X c0 c1 c2 c3 c4 c5 c6 c7 c8 c9 c10 c11 c12 c13 c14 c15))
    (ho12 : 0 ≤ k ∧ k < (16 : Nat))
    (ho13 : storeIn Try.prog 22 (RB A X c0 c1 c2 c3 c4 c5 c6 c7 c8 c9 c10 c11 c12 c13 c14 c15) ((2 + Int.toNat k * 1)) (.v (.int .u32 A)) = some (RB z z_1 z_2 z_3 z_4 z_5 z_6 z_7 z_8 z_9 z_10 z_11 z_12 z_13 z_14 z_15 z_16 z_17))
    (hc0 : EvF Try.prog prim 46 [.v (.int .i64 c)] [] [] [.v (.bool isalu)] []) :
    EvF Try.prog prim 38 [.optr b 0, .v (.int .i64 c), .v (.int .u32 k), .agg (DA d0 d1 d2 d3 d4 d5 d6 d7 d8)] [] H [.v (.bool true), .v (.bool false)] (H.set b (RB z z_1 z_2 z_3 z_4 z_5 z_6 z_7 z_8 z_9 z_10 z_11 z_12 z_13 z_14 z_15 z_16 z_17)) :=
  EvF.of Try.func38 (EvK.done (n := 118) (sc := [.reg [], .reg [{}, ⟨.auto, .call [] false [.v (.bool isalu)]⟩], .br (some false), .reg [], .reg [], .br (some false), .reg [], .br (some false), .reg [], .br (some false), .reg [], .br (some false), .reg [], .br (some false), .reg [], .br (some false), .reg [], .br (some false), .reg [], .br (some false), .reg [], .br (some true), .br (some true), .reg [], .br (some false), .reg [], .reg [], .br (some true), .reg [{}, {}, {}, {}, {}, ⟨.auto, .box (RB A X c0 c1 c2 c3 c4 c5 c6 c7 c8 c9 c10 c11 c12 c13 c14 c15)⟩, {}, {}, ⟨.auto, .ob⟩, ⟨.auto, .put (RB A X c0 c1 c2 c3 c4 c5 c6 c7 c8 c9 c10 c11 c12 c13 c14 c15) (RB z z_1 z_2 z_3 z_4 z_5 z_6 z_7 z_8 z_9 z_10 z_11 z_12 z_13 z_14 z_15 z_16 z_17)⟩], .reg []]) (by kernel_rfl) (ob1 ho0 (ob1 ho1 (ob1 ho2 (ob1 ho3 (ob1 ho4 (ob1 ho5 (ob1 ho6 (ob1 ho7 (ob1 ho8 (ob1 ho9 (ob1 ho9 (ob1 ho10 (ob1 ho9 (ob1 ho11 (ob1 ho12 (ob1 ho11 (ob1 ho13 ob0))))))))))))))))) (ca1 (fun _ : True => hc0) ca0))
-- entry: ret
theorem F38.p14 (b : Nat) (H : List (List AV)) (c k d0 d1 d2 d3 d4 d5 d6 d7 d8 : Int) (isalu : Bool) (ho0 : isalu = false)
    (ho1 : (c == 0) = false)
    (ho2 : (c == 1) = false)
    (ho3 : (c == 128) = false)
    (ho4 : (c == 129) = false)
    (ho5 : (c == 132) = false)
    (ho6 : (c == 7) = false)
    (ho7 : (c == 135) = false)
    (ho8 : (c == 32) = false)
    (ho9 : (c == 2) = false)
    (ho10 : (c == 3) = true)
    (ho11 : (decide (k ≥ 16)) = true)
    (hc0 : EvF Try.prog prim 46 [.v (.int .i64 c)] [] [] [.v (.bool isalu)] []) :
    EvF Try.prog prim 38 [.optr b 0, .v (.int .i64 c), .v (.int .u32 k), .agg (DA d0 d1 d2 d3 d4 d5 d6 d7 d8)] [] H [.v (.bool false), .v (.bool false)] H :=
  EvF.of Try.func38 (EvK.done (n := 111) (sc := [.reg [], .reg [{}, ⟨.auto, .call [] false [.v (.bool isalu)]⟩], .br (some false), .reg [], .reg [], .br (some false), .reg [], .br (some false), .reg [], .br (some false), .reg [], .br (some false), .reg [], .br (some false), .reg [], .br (some false), .reg [], .br (some false), .reg [], .br (some false), .reg [], .br (some false), .reg [], .br (some true), .br (some true), .reg [], .br (some true), .reg []]) (by kernel_rfl) (ob1 ho0 (ob1 ho1 (ob1 ho2 (ob1 ho3 (ob1 ho4 (ob1 ho5 (ob1 ho6 (ob1 ho7 (ob1 ho8 (ob1 ho9 (ob1 ho10 (ob1 ho10 (ob1 ho11 ob0))))))))))))) (ca1 (fun _ : True => hc0) ca0))
-- entry: ret
theorem F38.p15 (b : Nat) (A X c0 c1 c2 c3 c4 c5 c6 c7 c8 c9 c10 c11 c12 c13 c14 c15 : Int) (H : List (List AV)) (c k d0 d1 d2 d3 d4 d5 d6 d7 d8 : Int) (isalu : Bool) (z z_1 z_2 z_3 z_4 z_5 z_6 z_7 z_8 z_9 z_10 z_11 z_12 z_13 z_14 z_15 z_16 z_17 : Int) (ho0 : isalu = false)
    (ho1 : (c == 0) = false)
    (ho2 : (c == 1) = false)
    (ho3 : (c == 128) = false)
    (ho4 : (c == 129) = false)
    (ho5 : (c == 132) = false)
    (ho6 : (c == 7) = false)
    (ho7 : (c == 135) = false)
    (ho8 : (c == 32) = false)
    (ho9 : (c == 2) = false)
    (ho10 : (c == 3) = true)
    (ho11 : (decide (k ≥ 16)) = false)
    (ho12 : H[b]? = some (RB A X c0 c1 c2 c3 c4 c5 c6 c7 c8 c9 c10 c11 c12 c13 c14 c15))
    (ho13 : 0 ≤ k ∧ k < (16 : Nat))
    (ho14 : storeIn Try.prog 22 (RB A X c0 c1 c2 c3 c4 c5 c6 c7 c8 c9 c10 c11 c12 c13 c14 c15) ((2 + Int.toNat k * 1)) (.v (.int .u32 X)) = some (RB z z_1 z_2 z_3 z_4 z_5 z_6 z_7 z_8 z_9 z_10 z_11 z_12 z_13 z_14 z_15 z_16 z_17))
    (hc0 : EvF Try.prog prim 46 [.v (.int .i64 c)] [] [] [.v (.bool isalu)] []) :
    EvF Try.prog prim 38 [.optr b 0, .v (.int .i64 c), .v (.int .u32 k), .agg (DA d0 d1 d2 d3 d4 d5 d6 d7 d8)] [] H [.v (.bool true), .v (.bool false)] (H.set b (RB z z_1 z_2 z_3 z_4 z_5 z_6 z_7 z_8 z_9 z_10 z_11 z_12 z_13 z_14 z_15 z_16 z_17)) :=
  EvF.of Try.func38 (EvK.done (n := 124) (sc := [.reg [], .reg [{}, ⟨.auto, .call [] false [.v (.bool isalu)]⟩], .br (some false), .reg [], .reg [], .br (some false), .reg [], .br (some false), .reg [], .br (some false), .reg [], .br (some false), .reg [], .br (some false), .reg [], .br (some false), .reg [], .br (some false), .reg [], .br (some false), .reg [], .br (some false), .reg [], .br (some true), .br (some true), .reg [], .br (some false), .reg [], .reg [], .br (some false), .reg [], .br (some true), .reg [{}, {}, {}, {}, {}, ⟨.auto, .box (RB A X c0 c1 c2 c3 c4 c5 c6 c7 c8 c9 c10 c11 c12 c13 c14 c15)⟩, {}, {}, ⟨.auto, .ob⟩, ⟨.auto, .put (RB A X c0 c1 c2 c3 c4 c5 c6 c7 c8 c9 c10 c11 c12 c13 c14 c15) (RB z z_1 z_2 z_3 z_4 z_5 z_6 z_7 z_8 z_9 z_10 z_11 z_12 z_13 z_14 z_15 z_16 z_17)⟩], .reg []]) (by kernel_rfl) (ob1 ho0 (ob1 ho1 (ob1 ho2 (ob1 ho3 (ob1 ho4 (ob1 ho5 (ob1 ho6 (ob1 ho7 (ob1 ho8 (ob1 ho9 (ob1 ho10 (ob1 ho10 (ob1 ho11 (ob1 ho9 (ob1 ho10 (ob1 ho12 (ob1 ho13 (ob1 ho12 (ob1 ho14 ob0))))))))))))))))))) (ca1 (fun _ : True => hc0) ca0))
-- entry: ret
theorem F38.p16 (b : Nat) (H : List (List AV)) (c k d0 d1 d2 d3 d4 d5 d6 d7 d8 : Int) (isalu : Bool) (ho0 : isalu = false)
    (ho1 : (c == 0) = false)
    (ho2 : (c == 1) = false)
    (ho3 : (c == 128) = false)
    (ho4 : (c == 129) = false)
    (ho5 : (c == 132) = false)
    (ho6 : (c == 7) = false)
    (ho7 : (c == 135) = false)
    (ho8 : (c == 32) = false)
    (ho9 : (c == 2) = false)
    (ho10 : (c == 3) = false)
    (ho11 : (c == 96) = true)
    (ho12 : (decide (k ≥ 16)) = true)
    (hc0 : EvF Try.prog prim 46 [.v (.int .i64 c)] [] [] [.v (.bool isalu)] []) :
    EvF Try.prog prim 38 [.optr b 0, .v (.int .i64 c), .v (.int .u32 k), .agg (DA d0 d1 d2 d3 d4 d5 d6 d7 d8)] [] H [.v (.bool false), .v (.bool false)] H :=
  EvF.of Try.func38 (EvK.done (n := 114) (sc := [.reg [], .reg [{}, ⟨.auto, .call [] false [.v (.bool isalu)]⟩], .br (some false), .reg [], .reg [], .br (some false), .reg [], .br (some false), .reg [], .br (some false), .reg [], .br (some false), .reg [], .br (some false), .reg [], .br (some false), .reg [], .br (some false), .reg [], .br (some false), .reg [], .br (some false), .reg [], .br (some false), .reg [], .br (some true), .br (some true), .reg [], .br (some true), .reg []]) (by kernel_rfl) (ob1 ho0 (ob1 ho1 (ob1 ho2 (ob1 ho3 (ob1 ho4 (ob1 ho5 (ob1 ho6 (ob1 ho7 (ob1 ho8 (ob1 ho9 (ob1 ho10 (ob1 ho11 (ob1 ho11 (ob1 ho12 ob0)))))))))))))) (ca1 (fun _ : True => hc0) ca0))
-- entry: ret
theorem F38.p17 (b : Nat) (A X c0 c1 c2 c3 c4 c5 c6 c7 c8 c9 c10 c11 c12 c13 c14 c15 : Int) (H : List (List AV)) (c k d0 d1 d2 d3 d4 d5 d6 d7 d8 : Int) (isalu : Bool) (y : Int) (ho0 : isalu = false)
    (ho1 : (c == 0) = false)
    (ho2 : (c == 1) = false)
    (ho3 : (c == 128) = false)
    (ho4 : (c == 129) = false)
    (ho5 : (c == 132) = false)
    (ho6 : (c == 7) = false)
    (ho7 : (c == 135) = false)
    (ho8 : (c == 32) = false)
    (ho9 : (c == 2) = false)
    (ho10 : (c == 3) = false)
    (ho11 : (c == 96) = true)
    (ho12 : (decide (k ≥ 16)) = false)
    (ho13 : 0 ≤ k ∧ k < (16 : Nat))
    (ho14 : H[b]? = some (RB A X c0 c1 c2 c3 c4 c5 c6 c7 c8 c9 c10 c11 c12 c13 c14 c15))
    (ho15 : ((RB A X c0 c1 c2 c3 c4 c5 c6 c7 c8 c9 c10 c11 c12 c13 c14 c15) : List AV)[(2 + Int.toNat k * 1)]? = some (.v (.int .u32 y)))
    (hc0 : EvF Try.prog prim 46 [.v (.int .i64 c)] [] [] [.v (.bool isalu)] []) :
    EvF Try.prog prim 38 [.optr b 0, .v (.int .i64 c), .v (.int .u32 k), .agg (DA d0 d1 d2 d3 d4 d5 d6 d7 d8)] [] H [.v (.bool true), .v (.bool false)] (H.set b (RB y X c0 c1 c2 c3 c4 c5 c6 c7 c8 c9 c10 c11 c12 c13 c14 c15)) :=
  EvF.of Try.func38 (EvK.done (n := 130) (sc := [.reg [], .reg [{}, ⟨.auto, .call [] false [.v (.bool isalu)]⟩], .br (some false), .reg [], .reg [], .br (some false), .reg [], .br (some false), .reg [], .br (some false), .reg [], .br (some false), .reg [], .br (some false), .reg [], .br (some false), .reg [], .br (some false), .reg [], .br (some false), .reg [], .br (some false), .reg [], .br (some false), .reg [], .br (some true), .br (some true), .reg [], .br (some false), .reg [], .reg [], .br (some false), .reg [], .br (some false), .reg [], .br (some true), .reg [{}, {}, {}, {}, {}, ⟨.auto, .ob⟩, ⟨.auto, .boxAt (RB A X c0 c1 c2 c3 c4 c5 c6 c7 c8 c9 c10 c11 c12 c13 c14 c15) (.v (.int .u32 y))⟩, {}, {}, ⟨.auto, .box (RB A X c0 c1 c2 c3 c4 c5 c6 c7 c8 c9 c10 c11 c12 c13 c14 c15)⟩], .reg []]) (by kernel_rfl) (ob1 ho0 (ob1 ho1 (ob1 ho2 (ob1 ho3 (ob1 ho4 (ob1 ho5 (ob1 ho6 (ob1 ho7 (ob1 ho8 (ob1 ho9 (ob1 ho10 (ob1 ho11 (ob1 ho11 (ob1 ho12 (ob1 ho9 (ob1 ho10 (ob1 ho11 (ob1 ho13 (ob1 ho14 (ob1 ho15 (ob1 ho14 ob0))))))))))))))))))))) (ca1 (fun _ : True => hc0) ca0))
-- entry: ret
theorem F38.p18 (b : Nat) (H : List (List AV)) (c k d0 d1 d2 d3 d4 d5 d6 d7 d8 : Int) (isalu : Bool) (ho0 : isalu = false)
    (ho1 : (c == 0) = false)
    (ho2 : (c == 1) = false)
    (ho3 : (c == 128) = false)
    (ho4 : (c == 129) = false)
    (ho5 : (c == 132) = false)
    (ho6 : (c == 7) = false)
    (ho7 : (c == 135) = false)
    (ho8 : (c == 32) = false)
    (ho9 : (c == 2) = false)
    (ho10 : (c == 3) = false)
    (ho11 : (c == 96) = false)
    (ho12 : (c == 97) = true)
    (ho13 : (decide (k ≥ 16)) = true)
    (hc0 : EvF Try.prog prim 46 [.v (.int .i64 c)] [] [] [.v (.bool isalu)] []) :
    EvF Try.prog prim 38 [.optr b 0, .v (.int .i64 c), .v (.int .u32 k), .agg (DA d0 d1 d2 d3 d4 d5 d6 d7 d8)] [] H [.v (.bool false), .v (.bool false)] H :=
  EvF.of Try.func38 (EvK.done (n := 114) (sc := [.reg [], .reg [{}, ⟨.auto, .call [] false [.v (.bool isalu)]⟩], .br (some false), .reg [], .reg [], .br (some false), .reg [], .br (some false), .reg [], .br (some false), .reg [], .br (some false), .reg [], .br (some false), .reg [], .br (some false), .reg [], .br (some false), .reg [], .br (some false), .reg [], .br (some false), .reg [], .br (some false), .reg [], .br (some false), .reg [], .br (some true), .reg [], .br (some true), .reg []]) (by kernel_rfl) (ob1 ho0 (ob1 ho1 (ob1 ho2 (ob1 ho3 (ob1 ho4 (ob1 ho5 (ob1 ho6 (ob1 ho7 (ob1 ho8 (ob1 ho9 (ob1 ho10 (ob1 ho11 (ob1 ho12 (ob1 ho13 ob0)))))))))))))) (ca1 (fun _ : True => hc0) ca0))
-- entry: ret
theorem F38.p19 (b : Nat) (A X c0 c1 c2 c3 c4 c5 c6 c7 c8 c9 c10 c11 c12 c13 c14 c15 : Int) (H : List (List AV)) (c k d0 d1 d2 d3 d4 d5 d6 d7 d8 : Int) (isalu : Bool) (y : Int) (ho0 : isalu = false)
    (ho1 : (c == 0) = false)
    (ho2 : (c == 1) = false)
    (ho3 : (c == 128) = false)
    (ho4 : (c == 129) = false)
    (ho5 : (c == 132) = false)
    (ho6 : (c == 7) = false)
    (ho7 : (c == 135) = false)
    (ho8 : (c == 32) = false)
    (ho9 : (c == 2) = false)
    (ho10 : (c == 3) = false)
    (ho11 : (c == 96) = false)
    (ho12 : (c == 97) = true)
    (ho13 : (decide (k ≥ 16)) = false)
    (ho14 : 0 ≤ k ∧ k < (16 : Nat))
    (ho15 : H[b]? = some (RB A X c0 c1 c2 c3 c4 c5 c6 c7 c8 c9 c10 c11 c12 c13 c14 c15))
    (ho16 : ((RB A X c0 c1 c2 c3 c4 c5 c6 c7 c8 c9 c10 c11 c12 c13 c14 c15) : List AV)[(2 + Int.toNat k * 1)]? = some (.v (.int .u32 y)))
    (hc0 : EvF Try.prog prim 46 [.v (.int .i64 c)] [] [] [.v (.bool isalu)] []) :
    EvF Try.prog prim 38 [.optr b 0, .v (.int .i64 c), .v (.int .u32 k), .agg (DA d0 d1 d2 d3 d4 d5 d6 d7 d8)] [] H [.v (.bool true), .v (.bool false)] (H.set b (RB A y c0 c1 c2 c3 c4 c5 c6 c7 c8 c9 c10 c11 c12 c13 c14 c15)) :=
  EvF.of Try.func38 (EvK.done (n := 133) (sc := [.reg [], .reg [{}, ⟨.auto, .call [] false [.v (.bool isalu)]⟩], .br (some false), .reg [], .reg [], .br (some false), .reg [], .br (some false), .reg [], .br (some false), .reg [], .br (some false), .reg [], .br (some false), .reg [], .br (some false), .reg [], .br (some false), .reg [], .br (some false), .reg [], .br (some false), .reg [], .br (some false), .reg [], .br (some false), .reg [], .br (some true), .reg [], .br (some false), .reg [], .reg [], .br (some false), .reg [], .br (some false), .reg [], .br (some false), .reg [], .br (some true), .reg [{}, {}, {}, {}, {}, ⟨.auto, .ob⟩, ⟨.auto, .boxAt (RB A X c0 c1 c2 c3 c4 c5 c6 c7 c8 c9 c10 c11 c12 c13 c14 c15) (.v (.int .u32 y))⟩, {}, {}, ⟨.auto, .box (RB A X c0 c1 c2 c3 c4 c5 c6 c7 c8 c9 c10 c11 c12 c13 c14 c15)⟩], .reg []]) (by kernel_rfl) (ob1 ho0 (ob1 ho1 (ob1 ho2 (ob1 ho3 (ob1 ho4 (ob1 ho5 (ob1 ho6 (ob1 ho7 (ob1 ho8 (ob1 ho9 (ob1 ho10 (ob1 ho11 (ob1 ho12 (ob1 ho13 (ob1 ho9 (ob1 ho10 (ob1 ho11 (ob1 ho12 (ob1 ho14 (ob1 ho15 (ob1 ho16 (ob1 ho15 ob0)))))))))))))))))))))) (ca1 (fun _ : True => hc0) ca0))
-- entry: ret
theorem F38.p20 (b : Nat) (H : List (List AV)) (c k d0 d1 d2 d3 d4 d5 d6 d7 d8 : Int) (isalu : Bool) (ho0 : isalu = false)
    (ho1 : (c == 0) = false)
    (ho2 : (c == 1) = false)
    (ho3 : (c == 128) = false)
    (ho4 : (c == 129) = false)
    (ho5 : (c == 132) = false)
    (ho6 : (c == 7) = false)
    (ho7 : (c == 135) = false)
    (ho8 : (c == 32) = false)
    (ho9 : (c == 2) = false)
    (ho10 : (c == 3) = false)
    (ho11 : (c == 96) = false)
    (ho12 : (c == 97) = false)
    (hc0 : EvF Try.prog prim 46 [.v (.int .i64 c)] [] [] [.v (.bool isalu)] []) :
    EvF Try.prog prim 38 [.optr b 0, .v (.int .i64 c), .v (.int .u32 k), .agg (DA d0 d1 d2 d3 d4 d5 d6 d7 d8)] [] H [.v (.bool false), .v (.bool false)] H :=
  EvF.of Try.func38 (EvK.done (n := 110) (sc := [.reg [], .reg [{}, ⟨.auto, .call [] false [.v (.bool isalu)]⟩], .br (some false), .reg [], .reg [], .br (some false), .reg [], .br (some false), .reg [], .br (some false), .reg [], .br (some false), .reg [], .br (some false), .reg [], .br (some false), .reg [], .br (some false), .reg [], .br (some false), .reg [], .br (some false), .reg [], .br (some false), .reg [], .br (some false), .reg [], .br (some false), .reg []]) (by kernel_rfl) (ob1 ho0 (ob1 ho1 (ob1 ho2 (ob1 ho3 (ob1 ho4 (ob1 ho5 (ob1 ho6 (ob1 ho7 (ob1 ho8 (ob1 ho9 (ob1 ho10 (ob1 ho11 (ob1 ho12 ob0))))))))))))) (ca1 (fun _ : True => hc0) ca0))
/-! ### tipstaff/tipstaffref1.Run (function 26) -/
def F26.h0 (l : List (List PV)) (d0 d1 d2 d3 d4 d5 d6 d7 d8 at_ n b1_0 b1_1 b1_2 b1_3 b1_4 b1_5 b1_6 b1_7 b1_8 b1_9 b1_10 b1_11 b1_12 b1_13 b1_14 b1_15 b1_16 b1_17 : Int) : St :=
  { tmps := [.v (.sl l), .none, .none, .ptr 0 0, .none, .none, .none, .ptr 1 0, .v (.int .i64 at_), .v (.int .i64 n), .none, .none, .none, .none, .none, .none, .none, .none, .none, .none, .none, .none, .none, .none, .none, .none, .none, .none, .none, .none, .none, .none, .none, .none, .none, .none, .none, .none, .none, .none, .none, .none, .none, .none, .none, .none, .none, .none, .none, .none, .none, .none, .none, .none, .none, .none, .none, .none, .none, .none, .none, .none, .none, .none, .none, .none, .none, .none, .none, .none, .none, .none, .none, .none, .none, .none, .none, .none, .none, .none, .none, .none, .none, .none, .none, .none, .none, .none, .none, .none, .none, .none, .none, .none, .none, .none, .none, .none, .none, .none, .none, .none, .none, .none, .none, .none, .none, .none, .none, .none, .none, .none, .none, .none, .none, .none, .none, .none, .none, .none, .none, .none, .none, .none, .none, .none, .none], toks := [], outer := [], heap := [[.v (.int .u32 d0), .v (.int .u32 d1), .v (.int .u64 d2), .v (.int .u64 d3), .v (.int .u64 d4), .v (.int .u64 d5), .v (.int .u64 d6), .v (.int .u64 d7), .v (.int .u64 d8)], (RB b1_0 b1_1 b1_2 b1_3 b1_4 b1_5 b1_6 b1_7 b1_8 b1_9 b1_10 b1_11 b1_12 b1_13 b1_14 b1_15 b1_16 b1_17)] }
-- entry: to h0
theorem F26.p0 (l : List (List PV)) (d0 d1 d2 d3 d4 d5 d6 d7 d8 : Int) {r : List AV} {h : List (List AV)} (hk : EvK Try.prog prim Try.f26 (loopAt Try.f26 0) (F26.h0 l d0 d1 d2 d3 d4 d5 d6 d7 d8 0 0 0 0 0 0 0 0 0 0 0 0 0 0 0 0 0 0 0 0) r h) :
    EvF Try.prog prim 26 [.v (.sl l), .agg (DA d0 d1 d2 d3 d4 d5 d6 d7 d8)] [] [] r h :=
  EvF.of Try.func26 (EvK.cont (n := 71) (sc := [.reg [], .reg [], .reg [], .reg [], .cut { kill := [1, 4, 5, 6, 14, 15], weak := [], adopt := [], adoptB := [], heapLen := 2, toks := [] }]) (todo' := loopAt Try.f26 0) (s' := F26.h0 l d0 d1 d2 d3 d4 d5 d6 d7 d8 0 0 0 0 0 0 0 0 0 0 0 0 0 0 0 0 0 0 0 0) (by kernel_rfl) ob0 ca0 hk)
-- h0: ret
theorem F26.l0_1 (l : List (List PV)) (d0 d1 d2 d3 d4 d5 d6 d7 d8 at_ n b1_0 b1_1 b1_2 b1_3 b1_4 b1_5 b1_6 b1_7 b1_8 b1_9 b1_10 b1_11 b1_12 b1_13 b1_14 b1_15 b1_16 b1_17 : Int) (ho0 : (decide (n < 4096)) = true)
    (ho1 : (bif (decide (at_ < 0)) then true else (decide (at_ ≥ ((l.length : Int))))) = true) :
    EvK Try.prog prim Try.f26 (loopAt Try.f26 0) (F26.h0 l d0 d1 d2 d3 d4 d5 d6 d7 d8 at_ n b1_0 b1_1 b1_2 b1_3 b1_4 b1_5 b1_6 b1_7 b1_8 b1_9 b1_10 b1_11 b1_12 b1_13 b1_14 b1_15 b1_16 b1_17) [.v (.int .u32 0), .v (.int .i64 n), .v (.bool false)] [] :=
  EvK.done (n := 74) (sc := [.reg [], .br (some true), .reg [{}, {}, {}, ⟨.spec, .d⟩, ⟨.spec, .d⟩, ⟨.spec, .d⟩, ⟨.spec, .d⟩], .br (some true), .reg []]) (by kernel_rfl) (ob1 ho0 (ob1 (show (!(decide (at_ < 0))) = true → (!(decide (at_ < 0))) = true from idG (!(decide (at_ < 0)))) (ob1 (show (!(decide (at_ < 0))) = true → (!(decide (at_ < 0))) = true from idG (!(decide (at_ < 0)))) (ob1 (show (!(decide (at_ < 0))) = true → (!(decide (at_ < 0))) = true from idG (!(decide (at_ < 0)))) (ob1 (show (decide (at_ < 0)) = false → (!(decide (at_ < 0))) = true from notF) (ob1 ho1 ob0)))))) ca0
-- h0: ret
theorem F26.l0_2 (l : List (List PV)) (d0 d1 d2 d3 d4 d5 d6 d7 d8 at_ n b1_0 b1_1 b1_2 b1_3 b1_4 b1_5 b1_6 b1_7 b1_8 b1_9 b1_10 b1_11 b1_12 b1_13 b1_14 b1_15 b1_16 b1_17 y0_2 y1_2 y2_2 y3_2 : Int) (ho0 : (decide (n < 4096)) = true)
    (ho1 : (bif (decide (at_ < 0)) then true else (decide (at_ ≥ ((l.length : Int))))) = false)
    (ho2 : (0 : Int) ≤ at_)
    (ho3 : (l : List (List PV))[Int.toNat at_]? = some [.int .i64 y0_2, .int .i64 y1_2, .int .i64 y2_2, .int .u32 y3_2])
    (ho4 : inR .i64 (at_ + 1))
    (ho5 : (y0_2 == 6) = true)
    (ho6 : inR .i64 (n + 1)) :
    EvK Try.prog prim Try.f26 (loopAt Try.f26 0) (F26.h0 l d0 d1 d2 d3 d4 d5 d6 d7 d8 at_ n b1_0 b1_1 b1_2 b1_3 b1_4 b1_5 b1_6 b1_7 b1_8 b1_9 b1_10 b1_11 b1_12 b1_13 b1_14 b1_15 b1_16 b1_17) [.v (.int .u32 y3_2), .v (.int .i64 (n + 1)), .v (.bool true)] [] :=
  EvK.done (n := 83) (sc := [.reg [], .br (some true), .reg [{}, {}, {}, ⟨.spec, .d⟩, ⟨.spec, .d⟩, ⟨.spec, .d⟩, ⟨.spec, .d⟩], .br (some false), .reg [{}, {}, ⟨.auto, .row [.int .i64 y0_2, .int .i64 y1_2, .int .i64 y2_2, .int .u32 y3_2]⟩], .reg [{}, ⟨.auto, .nw⟩], .reg [{}, ⟨.auto, .h⟩], .br (some true), .reg [{}, ⟨.auto, .h⟩, {}, ⟨.auto, .nw⟩]]) (by kernel_rfl) (ob1 ho0 (ob1 (show (!(decide (at_ < 0))) = true → (!(decide (at_ < 0))) = true from idG (!(decide (at_ < 0)))) (ob1 (show (!(decide (at_ < 0))) = true → (!(decide (at_ < 0))) = true from idG (!(decide (at_ < 0)))) (ob1 (show (!(decide (at_ < 0))) = true → (!(decide (at_ < 0))) = true from idG (!(decide (at_ < 0)))) (ob1 (show (decide (at_ < 0)) = false → (!(decide (at_ < 0))) = true from notF) (ob1 ho1 (ob1 ho2 (ob1 ho3 (ob1 ho4 (ob1 ho5 (ob1 ho6 ob0))))))))))) ca0
-- h0: ret
theorem F26.l0_3 (l : List (List PV)) (d0 d1 d2 d3 d4 d5 d6 d7 d8 at_ n b1_0 b1_1 b1_2 b1_3 b1_4 b1_5 b1_6 b1_7 b1_8 b1_9 b1_10 b1_11 b1_12 b1_13 b1_14 b1_15 b1_16 b1_17 y0_2 y1_2 y2_2 y3_2 : Int) (ho0 : (decide (n < 4096)) = true)
    (ho1 : (bif (decide (at_ < 0)) then true else (decide (at_ ≥ ((l.length : Int))))) = false)
    (ho2 : (0 : Int) ≤ at_)
    (ho3 : (l : List (List PV))[Int.toNat at_]? = some [.int .i64 y0_2, .int .i64 y1_2, .int .i64 y2_2, .int .u32 y3_2])
    (ho4 : inR .i64 (at_ + 1))
    (ho5 : (y0_2 == 6) = false)
    (ho6 : (y0_2 == 22) = true)
    (ho7 : inR .i64 (n + 1)) :
    EvK Try.prog prim Try.f26 (loopAt Try.f26 0) (F26.h0 l d0 d1 d2 d3 d4 d5 d6 d7 d8 at_ n b1_0 b1_1 b1_2 b1_3 b1_4 b1_5 b1_6 b1_7 b1_8 b1_9 b1_10 b1_11 b1_12 b1_13 b1_14 b1_15 b1_16 b1_17) [.v (.int .u32 b1_0), .v (.int .i64 (n + 1)), .v (.bool true)] [] :=
  EvK.done (n := 86) (sc := [.reg [], .br (some true), .reg [{}, {}, {}, ⟨.spec, .d⟩, ⟨.spec, .d⟩, ⟨.spec, .d⟩, ⟨.spec, .d⟩], .br (some false), .reg [{}, {}, ⟨.auto, .row [.int .i64 y0_2, .int .i64 y1_2, .int .i64 y2_2, .int .u32 y3_2]⟩], .reg [{}, ⟨.auto, .nw⟩], .reg [{}, ⟨.auto, .h⟩], .br (some false), .reg [{}, ⟨.auto, .h⟩], .br (some true), .reg [{}, {}, {}, ⟨.auto, .h⟩, {}, ⟨.auto, .nw⟩]]) (by kernel_rfl) (ob1 ho0 (ob1 (show (!(decide (at_ < 0))) = true → (!(decide (at_ < 0))) = true from idG (!(decide (at_ < 0)))) (ob1 (show (!(decide (at_ < 0))) = true → (!(decide (at_ < 0))) = true from idG (!(decide (at_ < 0)))) (ob1 (show (!(decide (at_ < 0))) = true → (!(decide (at_ < 0))) = true from idG (!(decide (at_ < 0)))) (ob1 (show (decide (at_ < 0)) = false → (!(decide (at_ < 0))) = true from notF) (ob1 ho1 (ob1 ho2 (ob1 ho3 (ob1 ho4 (ob1 ho5 (ob1 ho6 (ob1 ho7 ob0)))))))))))) ca0
-- h0: to h0
theorem F26.l0_4 (l : List (List PV)) (d0 d1 d2 d3 d4 d5 d6 d7 d8 at_ n b1_0 b1_1 b1_2 b1_3 b1_4 b1_5 b1_6 b1_7 b1_8 b1_9 b1_10 b1_11 b1_12 b1_13 b1_14 b1_15 b1_16 b1_17 y0_2 y1_2 y2_2 y3_2 : Int) {r : List AV} {h : List (List AV)} (ho0 : (decide (n < 4096)) = true)
    (ho1 : (bif (decide (at_ < 0)) then true else (decide (at_ ≥ ((l.length : Int))))) = false)
    (ho2 : (0 : Int) ≤ at_)
    (ho3 : (l : List (List PV))[Int.toNat at_]? = some [.int .i64 y0_2, .int .i64 y1_2, .int .i64 y2_2, .int .u32 y3_2])
    (ho4 : inR .i64 (at_ + 1))
    (ho5 : (y0_2 == 6) = false)
    (ho6 : (y0_2 == 22) = false)
    (ho7 : (y0_2 == 5) = true)
    (ho8 : (decide ((IntKind.u64.wrap y3_2) > (IntKind.u64.wrap ((l.length : Int))))) = true)
    (ho9 : inR .i64 (n + 1))
    (hk : EvK Try.prog prim Try.f26 (loopAt Try.f26 0) (F26.h0 l d0 d1 d2 d3 d4 d5 d6 d7 d8 (((l.length : Int))) ((n + 1)) b1_0 b1_1 b1_2 b1_3 b1_4 b1_5 b1_6 b1_7 b1_8 b1_9 b1_10 b1_11 b1_12 b1_13 b1_14 b1_15 b1_16 b1_17) r h) :
    EvK Try.prog prim Try.f26 (loopAt Try.f26 0) (F26.h0 l d0 d1 d2 d3 d4 d5 d6 d7 d8 at_ n b1_0 b1_1 b1_2 b1_3 b1_4 b1_5 b1_6 b1_7 b1_8 b1_9 b1_10 b1_11 b1_12 b1_13 b1_14 b1_15 b1_16 b1_17) r h :=
  EvK.cont (n := 94) (sc := [.reg [], .br (some true), .reg [{}, {}, {}, ⟨.spec, .d⟩, ⟨.spec, .d⟩, ⟨.spec, .d⟩, ⟨.spec, .d⟩], .br (some false), .reg [{}, {}, ⟨.auto, .row [.int .i64 y0_2, .int .i64 y1_2, .int .i64 y2_2, .int .u32 y3_2]⟩], .reg [{}, ⟨.auto, .nw⟩], .reg [{}, ⟨.auto, .h⟩], .br (some false), .reg [{}, ⟨.auto, .h⟩], .br (some false), .reg [{}, ⟨.auto, .h⟩], .br (some true), .reg [{}, ⟨.auto, .h⟩], .br (some true), .reg [], .reg [{}, ⟨.auto, .nw⟩], .cut { kill := [10, 16, 17, 18, 19, 20, 21, 22, 23, 24, 25, 26, 27, 29, 30, 31, 32, 33, 34, 51, 52, 53, 54, 59, 60, 61, 62, 69, 70, 71, 72, 73, 74, 75, 76, 77, 78, 79, 80, 81], weak := [], adopt := [], adoptB := [], heapLen := 2, toks := [] }]) (todo' := loopAt Try.f26 0) (s' := F26.h0 l d0 d1 d2 d3 d4 d5 d6 d7 d8 (((l.length : Int))) ((n + 1)) b1_0 b1_1 b1_2 b1_3 b1_4 b1_5 b1_6 b1_7 b1_8 b1_9 b1_10 b1_11 b1_12 b1_13 b1_14 b1_15 b1_16 b1_17) (by kernel_rfl) (ob1 ho0 (ob1 (show (!(decide (at_ < 0))) = true → (!(decide (at_ < 0))) = true from idG (!(decide (at_ < 0)))) (ob1 (show (!(decide (at_ < 0))) = true → (!(decide (at_ < 0))) = true from idG (!(decide (at_ < 0)))) (ob1 (show (!(decide (at_ < 0))) = true → (!(decide (at_ < 0))) = true from idG (!(decide (at_ < 0)))) (ob1 (show (decide (at_ < 0)) = false → (!(decide (at_ < 0))) = true from notF) (ob1 ho1 (ob1 ho2 (ob1 ho3 (ob1 ho4 (ob1 ho5 (ob1 ho6 (ob1 ho7 (ob1 ho8 (ob1 ho9 ob0)))))))))))))) ca0 hk
-- h0: to h0
theorem F26.l0_5 (l : List (List PV)) (d0 d1 d2 d3 d4 d5 d6 d7 d8 at_ n b1_0 b1_1 b1_2 b1_3 b1_4 b1_5 b1_6 b1_7 b1_8 b1_9 b1_10 b1_11 b1_12 b1_13 b1_14 b1_15 b1_16 b1_17 y0_2 y1_2 y2_2 y3_2 : Int) {r : List AV} {h : List (List AV)} (ho0 : (decide (n < 4096)) = true)
    (ho1 : (bif (decide (at_ < 0)) then true else (decide (at_ ≥ ((l.length : Int))))) = false)
    (ho2 : (0 : Int) ≤ at_)
    (ho3 : (l : List (List PV))[Int.toNat at_]? = some [.int .i64 y0_2, .int .i64 y1_2, .int .i64 y2_2, .int .u32 y3_2])
    (ho4 : inR .i64 (at_ + 1))
    (ho5 : (y0_2 == 6) = false)
    (ho6 : (y0_2 == 22) = false)
    (ho7 : (y0_2 == 5) = true)
    (ho8 : (decide ((IntKind.u64.wrap y3_2) > (IntKind.u64.wrap ((l.length : Int))))) = false)
    (ho9 : inR .i64 ((at_ + 1) + (IntKind.i64.wrap y3_2)))
    (ho10 : inR .i64 (n + 1))
    (hk : EvK Try.prog prim Try.f26 (loopAt Try.f26 0) (F26.h0 l d0 d1 d2 d3 d4 d5 d6 d7 d8 (((at_ + 1) + (IntKind.i64.wrap y3_2))) ((n + 1)) b1_0 b1_1 b1_2 b1_3 b1_4 b1_5 b1_6 b1_7 b1_8 b1_9 b1_10 b1_11 b1_12 b1_13 b1_14 b1_15 b1_16 b1_17) r h) :
    EvK Try.prog prim Try.f26 (loopAt Try.f26 0) (F26.h0 l d0 d1 d2 d3 d4 d5 d6 d7 d8 at_ n b1_0 b1_1 b1_2 b1_3 b1_4 b1_5 b1_6 b1_7 b1_8 b1_9 b1_10 b1_11 b1_12 b1_13 b1_14 b1_15 b1_16 b1_17) r h :=
  EvK.cont (n := 94) (sc := [.reg [], .br (some true), .reg [{}, {}, {}, ⟨.spec, .d⟩, ⟨.spec, .d⟩, ⟨.spec, .d⟩, ⟨.spec, .d⟩], .br (some false), .reg [{}, {}, ⟨.auto, .row [.int .i64 y0_2, .int .i64 y1_2, .int .i64 y2_2, .int .u32 y3_2]⟩], .reg [{}, ⟨.auto, .nw⟩], .reg [{}, ⟨.auto, .h⟩], .br (some false), .reg [{}, ⟨.auto, .h⟩], .br (some false), .reg [{}, ⟨.auto, .h⟩], .br (some true), .reg [{}, ⟨.auto, .h⟩], .br (some false), .reg [{}, {}, ⟨.auto, .h⟩, {}, ⟨.auto, .nw⟩], .reg [{}, ⟨.auto, .nw⟩], .cut { kill := [10, 16, 17, 18, 19, 20, 21, 22, 23, 24, 25, 26, 27, 29, 30, 31, 32, 33, 34, 51, 52, 53, 54, 59, 60, 61, 62, 69, 70, 71, 72, 73, 74, 75, 76, 77, 78, 79, 82, 83, 84, 85, 86], weak := [], adopt := [], adoptB := [], heapLen := 2, toks := [] }]) (todo' := loopAt Try.f26 0) (s' := F26.h0 l d0 d1 d2 d3 d4 d5 d6 d7 d8 (((at_ + 1) + (IntKind.i64.wrap y3_2))) ((n + 1)) b1_0 b1_1 b1_2 b1_3 b1_4 b1_5 b1_6 b1_7 b1_8 b1_9 b1_10 b1_11 b1_12 b1_13 b1_14 b1_15 b1_16 b1_17) (by kernel_rfl) (ob1 ho0 (ob1 (show (!(decide (at_ < 0))) = true → (!(decide (at_ < 0))) = true from idG (!(decide (at_ < 0)))) (ob1 (show (!(decide (at_ < 0))) = true → (!(decide (at_ < 0))) = true from idG (!(decide (at_ < 0)))) (ob1 (show (!(decide (at_ < 0))) = true → (!(decide (at_ < 0))) = true from idG (!(decide (at_ < 0)))) (ob1 (show (decide (at_ < 0)) = false → (!(decide (at_ < 0))) = true from notF) (ob1 ho1 (ob1 ho2 (ob1 ho3 (ob1 ho4 (ob1 ho5 (ob1 ho6 (ob1 ho7 (ob1 ho8 (ob1 ho9 (ob1 ho10 ob0))))))))))))))) ca0 hk
-- h0: to h0
theorem F26.l0_6 (l : List (List PV)) (d0 d1 d2 d3 d4 d5 d6 d7 d8 at_ n b1_0 b1_1 b1_2 b1_3 b1_4 b1_5 b1_6 b1_7 b1_8 b1_9 b1_10 b1_11 b1_12 b1_13 b1_14 b1_15 b1_16 b1_17 y0_2 y1_2 y2_2 y3_2 : Int) (isjump_2 : Bool) (with__2 : Int) (jumps_2 : Bool) {r : List AV} {h : List (List AV)} (ho0 : (decide (n < 4096)) = true)
    (ho1 : (bif (decide (at_ < 0)) then true else (decide (at_ ≥ ((l.length : Int))))) = false)
    (ho2 : (0 : Int) ≤ at_)
    (ho3 : (l : List (List PV))[Int.toNat at_]? = some [.int .i64 y0_2, .int .i64 y1_2, .int .i64 y2_2, .int .u32 y3_2])
    (ho4 : inR .i64 (at_ + 1))
    (ho5 : (y0_2 == 6) = false)
    (ho6 : (y0_2 == 22) = false)
    (ho7 : (y0_2 == 5) = false)
    (ho8 : isjump_2 = true)
    (ho9 : jumps_2 = true)
    (ho10 : (decide (y1_2 < 0)) = true → inR .i64 ((at_ + 1) + y1_2))
    (ho11 : (bif (bif (decide (y1_2 < 0)) then (decide (((at_ + 1) + y1_2) < 0)) else false) then true else (decide (y1_2 > ((l.length : Int))))) = true)
    (ho12 : inR .i64 (n + 1))
    (hc0 : EvF Try.prog prim 35 [.v (.int .i64 y0_2)] [] [] [.v (.bool isjump_2)] [])
    (hc1 : EvF Try.prog prim 37 [.optr 1 0, .v (.int .i64 y0_2), .v (.int .u32 y3_2)] [] ([] ++ [[.v (.int .u32 d0), .v (.int .u32 d1), .v (.int .u64 d2), .v (.int .u64 d3), .v (.int .u64 d4), .v (.int .u64 d5), .v (.int .u64 d6), .v (.int .u64 d7), .v (.int .u64 d8)], (RB b1_0 b1_1 b1_2 b1_3 b1_4 b1_5 b1_6 b1_7 b1_8 b1_9 b1_10 b1_11 b1_12 b1_13 b1_14 b1_15 b1_16 b1_17), [.v (.int .i64 y0_2), .v (.int .i64 y1_2), .v (.int .i64 y2_2), .v (.int .u32 y3_2)]]) [.v (.int .u32 with__2)] ([] ++ [[.v (.int .u32 d0), .v (.int .u32 d1), .v (.int .u64 d2), .v (.int .u64 d3), .v (.int .u64 d4), .v (.int .u64 d5), .v (.int .u64 d6), .v (.int .u64 d7), .v (.int .u64 d8)], (RB b1_0 b1_1 b1_2 b1_3 b1_4 b1_5 b1_6 b1_7 b1_8 b1_9 b1_10 b1_11 b1_12 b1_13 b1_14 b1_15 b1_16 b1_17), [.v (.int .i64 y0_2), .v (.int .i64 y1_2), .v (.int .i64 y2_2), .v (.int .u32 y3_2)]]))
    (hc2 : EvF Try.prog prim 36 [.v (.int .i64 y0_2), .v (.int .u32 b1_0), .v (.int .u32 with__2)] [] [] [.v (.bool jumps_2)] [])
    (hk : EvK Try.prog prim Try.f26 (loopAt Try.f26 0) (F26.h0 l d0 d1 d2 d3 d4 d5 d6 d7 d8 (((l.length : Int))) ((n + 1)) b1_0 b1_1 b1_2 b1_3 b1_4 b1_5 b1_6 b1_7 b1_8 b1_9 b1_10 b1_11 b1_12 b1_13 b1_14 b1_15 b1_16 b1_17) r h) :
    EvK Try.prog prim Try.f26 (loopAt Try.f26 0) (F26.h0 l d0 d1 d2 d3 d4 d5 d6 d7 d8 at_ n b1_0 b1_1 b1_2 b1_3 b1_4 b1_5 b1_6 b1_7 b1_8 b1_9 b1_10 b1_11 b1_12 b1_13 b1_14 b1_15 b1_16 b1_17) r h :=
  EvK.cont (n := 104) (sc := [.reg [], .br (some true), .reg [{}, {}, {}, ⟨.spec, .d⟩, ⟨.spec, .d⟩, ⟨.spec, .d⟩, ⟨.spec, .d⟩], .br (some false), .reg [{}, {}, ⟨.auto, .row [.int .i64 y0_2, .int .i64 y1_2, .int .i64 y2_2, .int .u32 y3_2]⟩], .reg [{}, ⟨.auto, .nw⟩], .reg [{}, ⟨.auto, .h⟩], .br (some false), .reg [{}, ⟨.auto, .h⟩], .br (some false), .reg [{}, ⟨.auto, .h⟩], .br (some false), .reg [{}, ⟨.auto, .h⟩, ⟨.auto, .call [] false [.v (.bool isjump_2)]⟩], .br (some true), .reg [{}, ⟨.auto, .h⟩], .reg [{}, ⟨.auto, .h⟩, {}, {}, {}, ⟨.auto, .h⟩, {}, {}, ⟨.auto, .h⟩, {}, ⟨.auto, .h⟩, ⟨.auto, .callR [.v (.int .u32 with__2)]⟩, ⟨.auto, .call [] false [.v (.bool jumps_2)]⟩], .br (some true), .reg [{}, ⟨.auto, .h⟩], .reg [{}, {}, {}, ⟨.spec, .d⟩, ⟨.spec, .d⟩, ⟨.spec, .nw⟩, ⟨.spec, .d⟩, {}, {}, ⟨.spec, .d⟩, ⟨.spec, .d⟩, ⟨.spec, .d⟩, ⟨.spec, .d⟩], .br (some true), .reg [], .reg [{}, ⟨.auto, .nw⟩], .cut { kill := [10, 11, 16, 17, 18, 19, 20, 21, 22, 23, 24, 25, 26, 27, 29, 30, 31, 32, 33, 34, 51, 52, 53, 54, 59, 60, 61, 62, 69, 70, 71, 72, 87, 88, 89, 90, 91, 92, 93, 94, 95, 96, 97, 98, 99, 100, 101, 102, 103, 104, 105, 106, 107, 108, 109, 110, 111, 112, 113, 114, 115, 116, 117, 118, 119, 120, 121, 122, 123], weak := [], adopt := [], adoptB := [], heapLen := 2, toks := [] }]) (todo' := loopAt Try.f26 0) (s' := F26.h0 l d0 d1 d2 d3 d4 d5 d6 d7 d8 (((l.length : Int))) ((n + 1)) b1_0 b1_1 b1_2 b1_3 b1_4 b1_5 b1_6 b1_7 b1_8 b1_9 b1_10 b1_11 b1_12 b1_13 b1_14 b1_15 b1_16 b1_17) (by kernel_rfl) (ob1 ho0 (ob1 (show (!(decide (at_ < 0))) = true → (!(decide (at_ < 0))) = true from idG (!(decide (at_ < 0)))) (ob1 (show (!(decide (at_ < 0))) = true → (!(decide (at_ < 0))) = true from idG (!(decide (at_ < 0)))) (ob1 (show (!(decide (at_ < 0))) = true → (!(decide (at_ < 0))) = true from idG (!(decide (at_ < 0)))) (ob1 (show (decide (at_ < 0)) = false → (!(decide (at_ < 0))) = true from notF) (ob1 ho1 (ob1 ho2 (ob1 ho3 (ob1 ho4 (ob1 ho5 (ob1 ho6 (ob1 ho7 (ob1 ho8 (ob1 ho9 (ob1 (show (decide (y1_2 < 0)) = true → (decide (y1_2 < 0)) = true from idG (decide (y1_2 < 0))) (ob1 (show (decide (y1_2 < 0)) = true → (decide (y1_2 < 0)) = true from idG (decide (y1_2 < 0))) (ob1 ho10 (ob1 (show (decide (y1_2 < 0)) = true → (decide (y1_2 < 0)) = true from idG (decide (y1_2 < 0))) (ob1 (show (decide (y1_2 < 0)) = true → (decide (y1_2 < 0)) = true from idG (decide (y1_2 < 0))) (ob1 (show (!(bif (decide (y1_2 < 0)) then (decide (((at_ + 1) + y1_2) < 0)) else false)) = true → (!(bif (decide (y1_2 < 0)) then (decide (((at_ + 1) + y1_2) < 0)) else false)) = true from idG (!(bif (decide (y1_2 < 0)) then (decide (((at_ + 1) + y1_2) < 0)) else false))) (ob1 (show (!(bif (decide (y1_2 < 0)) then (decide (((at_ + 1) + y1_2) < 0)) else false)) = true → (!(bif (decide (y1_2 < 0)) then (decide (((at_ + 1) + y1_2) < 0)) else false)) = true from idG (!(bif (decide (y1_2 < 0)) then (decide (((at_ + 1) + y1_2) < 0)) else false))) (ob1 (show (!(bif (decide (y1_2 < 0)) then (decide (((at_ + 1) + y1_2) < 0)) else false)) = true → (!(bif (decide (y1_2 < 0)) then (decide (((at_ + 1) + y1_2) < 0)) else false)) = true from idG (!(bif (decide (y1_2 < 0)) then (decide (((at_ + 1) + y1_2) < 0)) else false))) (ob1 (show (bif (decide (y1_2 < 0)) then (decide (((at_ + 1) + y1_2) < 0)) else false) = false → (!(bif (decide (y1_2 < 0)) then (decide (((at_ + 1) + y1_2) < 0)) else false)) = true from notF) (ob1 ho11 (ob1 ho12 ob0))))))))))))))))))))))))) (ca1 (fun _ : True => hc0) (ca1 (fun _ : True => hc1) (ca1 (fun _ : True => hc2) ca0))) hk
-- h0: to h0
theorem F26.l0_7 (l : List (List PV)) (d0 d1 d2 d3 d4 d5 d6 d7 d8 at_ n b1_0 b1_1 b1_2 b1_3 b1_4 b1_5 b1_6 b1_7 b1_8 b1_9 b1_10 b1_11 b1_12 b1_13 b1_14 b1_15 b1_16 b1_17 y0_2 y1_2 y2_2 y3_2 : Int) (isjump_2 : Bool) (with__2 : Int) (jumps_2 : Bool) {r : List AV} {h : List (List AV)} (ho0 : (decide (n < 4096)) = true)
    (ho1 : (bif (decide (at_ < 0)) then true else (decide (at_ ≥ ((l.length : Int))))) = false)
    (ho2 : (0 : Int) ≤ at_)
    (ho3 : (l : List (List PV))[Int.toNat at_]? = some [.int .i64 y0_2, .int .i64 y1_2, .int .i64 y2_2, .int .u32 y3_2])
    (ho4 : inR .i64 (at_ + 1))
    (ho5 : (y0_2 == 6) = false)
    (ho6 : (y0_2 == 22) = false)
    (ho7 : (y0_2 == 5) = false)
    (ho8 : isjump_2 = true)
    (ho9 : jumps_2 = true)
    (ho10 : (decide (y1_2 < 0)) = true → inR .i64 ((at_ + 1) + y1_2))
    (ho11 : (bif (bif (decide (y1_2 < 0)) then (decide (((at_ + 1) + y1_2) < 0)) else false) then true else (decide (y1_2 > ((l.length : Int))))) = false)
    (ho12 : inR .i64 ((at_ + 1) + y1_2))
    (ho13 : inR .i64 (n + 1))
    (hc0 : EvF Try.prog prim 35 [.v (.int .i64 y0_2)] [] [] [.v (.bool isjump_2)] [])
    (hc1 : EvF Try.prog prim 37 [.optr 1 0, .v (.int .i64 y0_2), .v (.int .u32 y3_2)] [] ([] ++ [[.v (.int .u32 d0), .v (.int .u32 d1), .v (.int .u64 d2), .v (.int .u64 d3), .v (.int .u64 d4), .v (.int .u64 d5), .v (.int .u64 d6), .v (.int .u64 d7), .v (.int .u64 d8)], (RB b1_0 b1_1 b1_2 b1_3 b1_4 b1_5 b1_6 b1_7 b1_8 b1_9 b1_10 b1_11 b1_12 b1_13 b1_14 b1_15 b1_16 b1_17), [.v (.int .i64 y0_2), .v (.int .i64 y1_2), .v (.int .i64 y2_2), .v (.int .u32 y3_2)]]) [.v (.int .u32 with__2)] ([] ++ [[.v (.int .u32 d0), .v (.int .u32 d1), .v (.int .u64 d2), .v (.int .u64 d3), .v (.int .u64 d4), .v (.int .u64 d5), .v (.int .u64 d6), .v (.int .u64 d7), .v (.int .u64 d8)], (RB b1_0 b1_1 b1_2 b1_3 b1_4 b1_5 b1_6 b1_7 b1_8 b1_9 b1_10 b1_11 b1_12 b1_13 b1_14 b1_15 b1_16 b1_17), [.v (.int .i64 y0_2), .v (.int .i64 y1_2), .v (.int .i64 y2_2), .v (.int .u32 y3_2)]]))
    (hc2 : EvF Try.prog prim 36 [.v (.int .i64 y0_2), .v (.int .u32 b1_0), .v (.int .u32 with__2)] [] [] [.v (.bool jumps_2)] [])
    (hk : EvK Try.prog prim Try.f26 (loopAt Try.f26 0) (F26.h0 l d0 d1 d2 d3 d4 d5 d6 d7 d8 (((at_ + 1) + y1_2)) ((n + 1)) b1_0 b1_1 b1_2 b1_3 b1_4 b1_5 b1_6 b1_7 b1_8 b1_9 b1_10 b1_11 b1_12 b1_13 b1_14 b1_15 b1_16 b1_17) r h) :
    EvK Try.prog prim Try.f26 (loopAt Try.f26 0) (F26.h0 l d0 d1 d2 d3 d4 d5 d6 d7 d8 at_ n b1_0 b1_1 b1_2 b1_3 b1_4 b1_5 b1_6 b1_7 b1_8 b1_9 b1_10 b1_11 b1_12 b1_13 b1_14 b1_15 b1_16 b1_17) r h :=
  EvK.cont (n := 104) (sc := [.reg [], .br (some true), .reg [{}, {}, {}, ⟨.spec, .d⟩, ⟨.spec, .d⟩, ⟨.spec, .d⟩, ⟨.spec, .d⟩], .br (some false), .reg [{}, {}, ⟨.auto, .row [.int .i64 y0_2, .int .i64 y1_2, .int .i64 y2_2, .int .u32 y3_2]⟩], .reg [{}, ⟨.auto, .nw⟩], .reg [{}, ⟨.auto, .h⟩], .br (some false), .reg [{}, ⟨.auto, .h⟩], .br (some false), .reg [{}, ⟨.auto, .h⟩], .br (some false), .reg [{}, ⟨.auto, .h⟩, ⟨.auto, .call [] false [.v (.bool isjump_2)]⟩], .br (some true), .reg [{}, ⟨.auto, .h⟩], .reg [{}, ⟨.auto, .h⟩, {}, {}, {}, ⟨.auto, .h⟩, {}, {}, ⟨.auto, .h⟩, {}, ⟨.auto, .h⟩, ⟨.auto, .callR [.v (.int .u32 with__2)]⟩, ⟨.auto, .call [] false [.v (.bool jumps_2)]⟩], .br (some true), .reg [{}, ⟨.auto, .h⟩], .reg [{}, {}, {}, ⟨.spec, .d⟩, ⟨.spec, .d⟩, ⟨.spec, .nw⟩, ⟨.spec, .d⟩, {}, {}, ⟨.spec, .d⟩, ⟨.spec, .d⟩, ⟨.spec, .d⟩, ⟨.spec, .d⟩], .br (some false), .reg [{}, {}, ⟨.auto, .nw⟩], .reg [{}, ⟨.auto, .nw⟩], .cut { kill := [10, 11, 16, 17, 18, 19, 20, 21, 22, 23, 24, 25, 26, 27, 29, 30, 31, 32, 33, 34, 51, 52, 53, 54, 59, 60, 61, 62, 69, 70, 71, 72, 87, 88, 89, 90, 91, 92, 93, 94, 95, 96, 97, 98, 99, 100, 101, 102, 103, 104, 105, 106, 107, 108, 109, 110, 111, 112, 113, 114, 115, 116, 117, 118, 119, 120, 121, 124, 125, 126], weak := [], adopt := [], adoptB := [], heapLen := 2, toks := [] }]) (todo' := loopAt Try.f26 0) (s' := F26.h0 l d0 d1 d2 d3 d4 d5 d6 d7 d8 (((at_ + 1) + y1_2)) ((n + 1)) b1_0 b1_1 b1_2 b1_3 b1_4 b1_5 b1_6 b1_7 b1_8 b1_9 b1_10 b1_11 b1_12 b1_13 b1_14 b1_15 b1_16 b1_17) (by kernel_rfl) (ob1 ho0 (ob1 (show (!(decide (at_ < 0))) = true → (!(decide (at_ < 0))) = true from idG (!(decide (at_ < 0)))) (ob1 (show (!(decide (at_ < 0))) = true → (!(decide (at_ < 0))) = true from idG (!(decide (at_ < 0)))) (ob1 (show (!(decide (at_ < 0))) = true → (!(decide (at_ < 0))) = true from idG (!(decide (at_ < 0)))) (ob1 (show (decide (at_ < 0)) = false → (!(decide (at_ < 0))) = true from notF) (ob1 ho1 (ob1 ho2 (ob1 ho3 (ob1 ho4 (ob1 ho5 (ob1 ho6 (ob1 ho7 (ob1 ho8 (ob1 ho9 (ob1 (show (decide (y1_2 < 0)) = true → (decide (y1_2 < 0)) = true from idG (decide (y1_2 < 0))) (ob1 (show (decide (y1_2 < 0)) = true → (decide (y1_2 < 0)) = true from idG (decide (y1_2 < 0))) (ob1 ho10 (ob1 (show (decide (y1_2 < 0)) = true → (decide (y1_2 < 0)) = true from idG (decide (y1_2 < 0))) (ob1 (show (decide (y1_2 < 0)) = true → (decide (y1_2 < 0)) = true from idG (decide (y1_2 < 0))) (ob1 (show (!(bif (decide (y1_2 < 0)) then (decide (((at_ + 1) + y1_2) < 0)) else false)) = true → (!(bif (decide (y1_2 < 0)) then (decide (((at_ + 1) + y1_2) < 0)) else false)) = true from idG (!(bif (decide (y1_2 < 0)) then (decide (((at_ + 1) + y1_2) < 0)) else false))) (ob1 (show (!(bif (decide (y1_2 < 0)) then (decide (((at_ + 1) + y1_2) < 0)) else false)) = true → (!(bif (decide (y1_2 < 0)) then (decide (((at_ + 1) + y1_2) < 0)) else false)) = true from idG (!(bif (decide (y1_2 < 0)) then (decide (((at_ + 1) + y1_2) < 0)) else false))) (ob1 (show (!(bif (decide (y1_2 < 0)) then (decide (((at_ + 1) + y1_2) < 0)) else false)) = true → (!(bif (decide (y1_2 < 0)) then (decide (((at_ + 1) + y1_2) < 0)) else false)) = true from idG (!(bif (decide (y1_2 < 0)) then (decide (((at_ + 1) + y1_2) < 0)) else false))) (ob1 (show (bif (decide (y1_2 < 0)) then (decide (((at_ + 1) + y1_2) < 0)) else false) = false → (!(bif (decide (y1_2 < 0)) then (decide (((at_ + 1) + y1_2) < 0)) else false)) = true from notF) (ob1 ho11 (ob1 ho12 (ob1 ho13 ob0)))))))))))))))))))))))))) (ca1 (fun _ : True => hc0) (ca1 (fun _ : True => hc1) (ca1 (fun _ : True => hc2) ca0))) hk
-- h0: to h0
theorem F26.l0_8 (l : List (List PV)) (d0 d1 d2 d3 d4 d5 d6 d7 d8 at_ n b1_0 b1_1 b1_2 b1_3 b1_4 b1_5 b1_6 b1_7 b1_8 b1_9 b1_10 b1_11 b1_12 b1_13 b1_14 b1_15 b1_16 b1_17 y0_2 y1_2 y2_2 y3_2 : Int) (isjump_2 : Bool) (with__2 : Int) (jumps_2 : Bool) {r : List AV} {h : List (List AV)} (ho0 : (decide (n < 4096)) = true)
    (ho1 : (bif (decide (at_ < 0)) then true else (decide (at_ ≥ ((l.length : Int))))) = false)
    (ho2 : (0 : Int) ≤ at_)
    (ho3 : (l : List (List PV))[Int.toNat at_]? = some [.int .i64 y0_2, .int .i64 y1_2, .int .i64 y2_2, .int .u32 y3_2])
    (ho4 : inR .i64 (at_ + 1))
    (ho5 : (y0_2 == 6) = false)
    (ho6 : (y0_2 == 22) = false)
    (ho7 : (y0_2 == 5) = false)
    (ho8 : isjump_2 = true)
    (ho9 : jumps_2 = false)
    (ho10 : (decide (y2_2 < 0)) = true → inR .i64 ((at_ + 1) + y2_2))
    (ho11 : (bif (bif (decide (y2_2 < 0)) then (decide (((at_ + 1) + y2_2) < 0)) else false) then true else (decide (y2_2 > ((l.length : Int))))) = true)
    (ho12 : inR .i64 (n + 1))
    (hc0 : EvF Try.prog prim 35 [.v (.int .i64 y0_2)] [] [] [.v (.bool isjump_2)] [])
    (hc1 : EvF Try.prog prim 37 [.optr 1 0, .v (.int .i64 y0_2), .v (.int .u32 y3_2)] [] ([] ++ [[.v (.int .u32 d0), .v (.int .u32 d1), .v (.int .u64 d2), .v (.int .u64 d3), .v (.int .u64 d4), .v (.int .u64 d5), .v (.int .u64 d6), .v (.int .u64 d7), .v (.int .u64 d8)], (RB b1_0 b1_1 b1_2 b1_3 b1_4 b1_5 b1_6 b1_7 b1_8 b1_9 b1_10 b1_11 b1_12 b1_13 b1_14 b1_15 b1_16 b1_17), [.v (.int .i64 y0_2), .v (.int .i64 y1_2), .v (.int .i64 y2_2), .v (.int .u32 y3_2)]]) [.v (.int .u32 with__2)] ([] ++ [[.v (.int .u32 d0), .v (.int .u32 d1), .v (.int .u64 d2), .v (.int .u64 d3), .v (.int .u64 d4), .v (.int .u64 d5), .v (.int .u64 d6), .v (.int .u64 d7), .v (.int .u64 d8)], (RB b1_0 b1_1 b1_2 b1_3 b1_4 b1_5 b1_6 b1_7 b1_8 b1_9 b1_10 b1_11 b1_12 b1_13 b1_14 b1_15 b1_16 b1_17), [.v (.int .i64 y0_2), .v (.int .i64 y1_2), .v (.int .i64 y2_2), .v (.int .u32 y3_2)]]))
    (hc2 : EvF Try.prog prim 36 [.v (.int .i64 y0_2), .v (.int .u32 b1_0), .v (.int .u32 with__2)] [] [] [.v (.bool jumps_2)] [])
    (hk : EvK Try.prog prim Try.f26 (loopAt Try.f26 0) (F26.h0 l d0 d1 d2 d3 d4 d5 d6 d7 d8 (((l.length : Int))) ((n + 1)) b1_0 b1_1 b1_2 b1_3 b1_4 b1_5 b1_6 b1_7 b1_8 b1_9 b1_10 b1_11 b1_12 b1_13 b1_14 b1_15 b1_16 b1_17) r h) :
    EvK Try.prog prim Try.f26 (loopAt Try.f26 0) (F26.h0 l d0 d1 d2 d3 d4 d5 d6 d7 d8 at_ n b1_0 b1_1 b1_2 b1_3 b1_4 b1_5 b1_6 b1_7 b1_8 b1_9 b1_10 b1_11 b1_12 b1_13 b1_14 b1_15 b1_16 b1_17) r h :=
  EvK.cont (n := 104) (sc := [.reg [], .br (some true), .reg [{}, {}, {}, ⟨.spec, .d⟩, ⟨.spec, .d⟩, ⟨.spec, .d⟩, ⟨.spec, .d⟩], .br (some false), .reg [{}, {}, ⟨.auto, .row [.int .i64 y0_2, .int .i64 y1_2, .int .i64 y2_2, .int .u32 y3_2]⟩], .reg [{}, ⟨.auto, .nw⟩], .reg [{}, ⟨.auto, .h⟩], .br (some false), .reg [{}, ⟨.auto, .h⟩], .br (some false), .reg [{}, ⟨.auto, .h⟩], .br (some false), .reg [{}, ⟨.auto, .h⟩, ⟨.auto, .call [] false [.v (.bool isjump_2)]⟩], .br (some true), .reg [{}, ⟨.auto, .h⟩], .reg [{}, ⟨.auto, .h⟩, {}, {}, {}, ⟨.auto, .h⟩, {}, {}, ⟨.auto, .h⟩, {}, ⟨.auto, .h⟩, ⟨.auto, .callR [.v (.int .u32 with__2)]⟩, ⟨.auto, .call [] false [.v (.bool jumps_2)]⟩], .br (some false), .reg [{}, {}, {}, ⟨.spec, .d⟩, ⟨.spec, .d⟩, ⟨.spec, .nw⟩, ⟨.spec, .d⟩, {}, {}, ⟨.spec, .d⟩, ⟨.spec, .d⟩, ⟨.spec, .d⟩, ⟨.spec, .d⟩], .br (some true), .reg [], .reg [{}, ⟨.auto, .nw⟩], .cut { kill := [10, 11, 16, 17, 18, 19, 20, 21, 22, 23, 24, 25, 26, 27, 29, 30, 31, 32, 33, 34, 51, 52, 53, 54, 59, 60, 61, 62, 69, 70, 71, 72, 87, 88, 89, 90, 91, 92, 93, 94, 95, 96, 97, 98, 99, 100, 101, 102, 103, 104, 105, 108, 109, 110, 111, 112, 113, 114, 115, 116, 117, 118, 119, 120, 121, 122, 123], weak := [], adopt := [], adoptB := [], heapLen := 2, toks := [] }]) (todo' := loopAt Try.f26 0) (s' := F26.h0 l d0 d1 d2 d3 d4 d5 d6 d7 d8 (((l.length : Int))) ((n + 1)) b1_0 b1_1 b1_2 b1_3 b1_4 b1_5 b1_6 b1_7 b1_8 b1_9 b1_10 b1_11 b1_12 b1_13 b1_14 b1_15 b1_16 b1_17) (by kernel_rfl) (ob1 ho0 (ob1 (show (!(decide (at_ < 0))) = true → (!(decide (at_ < 0))) = true from idG (!(decide (at_ < 0)))) (ob1 (show (!(decide (at_ < 0))) = true → (!(decide (at_ < 0))) = true from idG (!(decide (at_ < 0)))) (ob1 (show (!(decide (at_ < 0))) = true → (!(decide (at_ < 0))) = true from idG (!(decide (at_ < 0)))) (ob1 (show (decide (at_ < 0)) = false → (!(decide (at_ < 0))) = true from notF) (ob1 ho1 (ob1 ho2 (ob1 ho3 (ob1 ho4 (ob1 ho5 (ob1 ho6 (ob1 ho7 (ob1 ho8 (ob1 ho9 (ob1 (show (decide (y2_2 < 0)) = true → (decide (y2_2 < 0)) = true from idG (decide (y2_2 < 0))) (ob1 (show (decide (y2_2 < 0)) = true → (decide (y2_2 < 0)) = true from idG (decide (y2_2 < 0))) (ob1 ho10 (ob1 (show (decide (y2_2 < 0)) = true → (decide (y2_2 < 0)) = true from idG (decide (y2_2 < 0))) (ob1 (show (decide (y2_2 < 0)) = true → (decide (y2_2 < 0)) = true from idG (decide (y2_2 < 0))) (ob1 (show (!(bif (decide (y2_2 < 0)) then (decide (((at_ + 1) + y2_2) < 0)) else false)) = true → (!(bif (decide (y2_2 < 0)) then (decide (((at_ + 1) + y2_2) < 0)) else false)) = true from idG (!(bif (decide (y2_2 < 0)) then (decide (((at_ + 1) + y2_2) < 0)) else false))) (ob1 (show (!(bif (decide (y2_2 < 0)) then (decide (((at_ + 1) + y2_2) < 0)) else false)) = true → (!(bif (decide (y2_2 < 0)) then (decide (((at_ + 1) + y2_2) < 0)) else false)) = true from idG (!(bif (decide (y2_2 < 0)) then (decide (((at_ + 1) + y2_2) < 0)) else false))) (ob1 (show (!(bif (decide (y2_2 < 0)) then (decide (((at_ + 1) + y2_2) < 0)) else false)) = true → (!(bif (decide (y2_2 < 0)) then (decide (((at_ + 1) + y2_2) < 0)) else false)) = true from idG (!(bif (decide (y2_2 < 0)) then (decide (((at_ + 1) + y2_2) < 0)) else false))) (ob1 (show (bif (decide (y2_2 < 0)) then (decide (((at_ + 1) + y2_2) < 0)) else false) = false → (!(bif (decide (y2_2 < 0)) then (decide (((at_ + 1) + y2_2) < 0)) else false)) = true from notF) (ob1 ho11 (ob1 ho12 ob0))))))))))))))))))))))))) (ca1 (fun _ : True => hc0) (ca1 (fun _ : True => hc1) (ca1 (fun _ : True => hc2) ca0))) hk
-- h0: to h0
theorem F26.l0_9 (l : List (List PV)) (d0 d1 d2 d3 d4 d5 d6 d7 d8 at_ n b1_0 b1_1 b1_2 b1_3 b1_4 b1_5 b1_6 b1_7 b1_8 b1_9 b1_10 b1_11 b1_12 b1_13 b1_14 b1_15 b1_16 b1_17 y0_2 y1_2 y2_2 y3_2 : Int) (isjump_2 : Bool) (with__2 : Int) (jumps_2 : Bool) {r : List AV} {h : List (List AV)} (ho0 : (decide (n < 4096)) = true)
    (ho1 : (bif (decide (at_ < 0)) then true else (decide (at_ ≥ ((l.length : Int))))) = false)
    (ho2 : (0 : Int) ≤ at_)
    (ho3 : (l : List (List PV))[Int.toNat at_]? = some [.int .i64 y0_2, .int .i64 y1_2, .int .i64 y2_2, .int .u32 y3_2])
    (ho4 : inR .i64 (at_ + 1))
    (ho5 : (y0_2 == 6) = false)
    (ho6 : (y0_2 == 22) = false)
    (ho7 : (y0_2 == 5) = false)
    (ho8 : isjump_2 = true)
    (ho9 : jumps_2 = false)
    (ho10 : (decide (y2_2 < 0)) = true → inR .i64 ((at_ + 1) + y2_2))
    (ho11 : (bif (bif (decide (y2_2 < 0)) then (decide (((at_ + 1) + y2_2) < 0)) else false) then true else (decide (y2_2 > ((l.length : Int))))) = false)
    (ho12 : inR .i64 ((at_ + 1) + y2_2))
    (ho13 : inR .i64 (n + 1))
    (hc0 : EvF Try.prog prim 35 [.v (.int .i64 y0_2)] [] [] [.v (.bool isjump_2)] [])
    (hc1 : EvF Try.prog prim 37 [.optr 1 0, .v (.int .i64 y0_2), .v (.int .u32 y3_2)] [] ([] ++ [[.v (.int .u32 d0), .v (.int .u32 d1), .v (.int .u64 d2), .v (.int .u64 d3), .v (.int .u64 d4), .v (.int .u64 d5), .v (.int .u64 d6), .v (.int .u64 d7), .v (.int .u64 d8)], (RB b1_0 b1_1 b1_2 b1_3 b1_4 b1_5 b1_6 b1_7 b1_8 b1_9 b1_10 b1_11 b1_12 b1_13 b1_14 b1_15 b1_16 b1_17), [.v (.int .i64 y0_2), .v (.int .i64 y1_2), .v (.int .i64 y2_2), .v (.int .u32 y3_2)]]) [.v (.int .u32 with__2)] ([] ++ [[.v (.int .u32 d0), .v (.int .u32 d1), .v (.int .u64 d2), .v (.int .u64 d3), .v (.int .u64 d4), .v (.int .u64 d5), .v (.int .u64 d6), .v (.int .u64 d7), .v (.int .u64 d8)], (RB b1_0 b1_1 b1_2 b1_3 b1_4 b1_5 b1_6 b1_7 b1_8 b1_9 b1_10 b1_11 b1_12 b1_13 b1_14 b1_15 b1_16 b1_17), [.v (.int .i64 y0_2), .v (.int .i64 y1_2), .v (.int .i64 y2_2), .v (.int .u32 y3_2)]]))
    (hc2 : EvF Try.prog prim 36 [.v (.int .i64 y0_2), .v (.int .u32 b1_0), .v (.int .u32 with__2)] [] [] [.v (.bool jumps_2)] [])
    (hk : EvK Try.prog prim Try.f26 (loopAt Try.f26 0) (F26.h0 l d0 d1 d2 d3 d4 d5 d6 d7 d8 (((at_ + 1) + y2_2)) ((n + 1)) b1_0 b1_1 b1_2 b1_3 b1_4 b1_5 b1_6 b1_7 b1_8 b1_9 b1_10 b1_11 b1_12 b1_13 b1_14 b1_15 b1_16 b1_17) r h) :
    EvK Try.prog prim Try.f26 (loopAt Try.f26 0) (F26.h0 l d0 d1 d2 d3 d4 d5 d6 d7 d8 at_ n b1_0 b1_1 b1_2 b1_3 b1_4 b1_5 b1_6 b1_7 b1_8 b1_9 b1_10 b1_11 b1_12 b1_13 b1_14 b1_15 b1_16 b1_17) r h :=
  EvK.cont (n := 104) (sc := [.reg [], .br (some true), .reg [{}, {}, {}, ⟨.spec, .d⟩, ⟨.spec, .d⟩, ⟨.spec, .d⟩, ⟨.spec, .d⟩], .br (some false), .reg [{}, {}, ⟨.auto, .row [.int .i64 y0_2, .int .i64 y1_2, .int .i64 y2_2, .int .u32 y3_2]⟩], .reg [{}, ⟨.auto, .nw⟩], .reg [{}, ⟨.auto, .h⟩], .br (some false), .reg [{}, ⟨.auto, .h⟩], .br (some false), .reg [{}, ⟨.auto, .h⟩], .br (some false), .reg [{}, ⟨.auto, .h⟩, ⟨.auto, .call [] false [.v (.bool isjump_2)]⟩], .br (some true), .reg [{}, ⟨.auto, .h⟩], .reg [{}, ⟨.auto, .h⟩, {}, {}, {}, ⟨.auto, .h⟩, {}, {}, ⟨.auto, .h⟩, {}, ⟨.auto, .h⟩, ⟨.auto, .callR [.v (.int .u32 with__2)]⟩, ⟨.auto, .call [] false [.v (.bool jumps_2)]⟩], .br (some false), .reg [{}, {}, {}, ⟨.spec, .d⟩, ⟨.spec, .d⟩, ⟨.spec, .nw⟩, ⟨.spec, .d⟩, {}, {}, ⟨.spec, .d⟩, ⟨.spec, .d⟩, ⟨.spec, .d⟩, ⟨.spec, .d⟩], .br (some false), .reg [{}, {}, ⟨.auto, .nw⟩], .reg [{}, ⟨.auto, .nw⟩], .cut { kill := [10, 11, 16, 17, 18, 19, 20, 21, 22, 23, 24, 25, 26, 27, 29, 30, 31, 32, 33, 34, 51, 52, 53, 54, 59, 60, 61, 62, 69, 70, 71, 72, 87, 88, 89, 90, 91, 92, 93, 94, 95, 96, 97, 98, 99, 100, 101, 102, 103, 104, 105, 108, 109, 110, 111, 112, 113, 114, 115, 116, 117, 118, 119, 120, 121, 124, 125, 126], weak := [], adopt := [], adoptB := [], heapLen := 2, toks := [] }]) (todo' := loopAt Try.f26 0) (s' := F26.h0 l d0 d1 d2 d3 d4 d5 d6 d7 d8 (((at_ + 1) + y2_2)) ((n + 1)) b1_0 b1_1 b1_2 b1_3 b1_4 b1_5 b1_6 b1_7 b1_8 b1_9 b1_10 b1_11 b1_12 b1_13 b1_14 b1_15 b1_16 b1_17) (by kernel_rfl) (ob1 ho0 (ob1 (show (!(decide (at_ < 0))) = true → (!(decide (at_ < 0))) = true from idG (!(decide (at_ < 0)))) (ob1 (show (!(decide (at_ < 0))) = true → (!(decide (at_ < 0))) = true from idG (!(decide (at_ < 0)))) (ob1 (show (!(decide (at_ < 0))) = true → (!(decide (at_ < 0))) = true from idG (!(decide (at_ < 0)))) (ob1 (show (decide (at_ < 0)) = false → (!(decide (at_ < 0))) = true from notF) (ob1 ho1 (ob1 ho2 (ob1 ho3 (ob1 ho4 (ob1 ho5 (ob1 ho6 (ob1 ho7 (ob1 ho8 (ob1 ho9 (ob1 (show (decide (y2_2 < 0)) = true → (decide (y2_2 < 0)) = true from idG (decide (y2_2 < 0))) (ob1 (show (decide (y2_2 < 0)) = true → (decide (y2_2 < 0)) = true from idG (decide (y2_2 < 0))) (ob1 ho10 (ob1 (show (decide (y2_2 < 0)) = true → (decide (y2_2 < 0)) = true from idG (decide (y2_2 < 0))) (ob1 (show (decide (y2_2 < 0)) = true → (decide (y2_2 < 0)) = true from idG (decide (y2_2 < 0))) (ob1 (show (!(bif (decide (y2_2 < 0)) then (decide (((at_ + 1) + y2_2) < 0)) else false)) = true → (!(bif (decide (y2_2 < 0)) then (decide (((at_ + 1) + y2_2) < 0)) else false)) = true from idG (!(bif (decide (y2_2 < 0)) then (decide (((at_ + 1) + y2_2) < 0)) else false))) (ob1 (show (!(bif (decide (y2_2 < 0)) then (decide (((at_ + 1) + y2_2) < 0)) else false)) = true → (!(bif (decide (y2_2 < 0)) then (decide (((at_ + 1) + y2_2) < 0)) else false)) = true from idG (!(bif (decide (y2_2 < 0)) then (decide (((at_ + 1) + y2_2) < 0)) else false))) (ob1 (show (!(bif (decide (y2_2 < 0)) then (decide (((at_ + 1) + y2_2) < 0)) else false)) = true → (!(bif (decide (y2_2 < 0)) then (decide (((at_ + 1) + y2_2) < 0)) else false)) = true from idG (!(bif (decide (y2_2 < 0)) then (decide (((at_ + 1) + y2_2) < 0)) else false))) (ob1 (show (bif (decide (y2_2 < 0)) then (decide (((at_ + 1) + y2_2) < 0)) else false) = false → (!(bif (decide (y2_2 < 0)) then (decide (((at_ + 1) + y2_2) < 0)) else false)) = true from notF) (ob1 ho11 (ob1 ho12 (ob1 ho13 ob0)))))))))))))))))))))))))) (ca1 (fun _ : True => hc0) (ca1 (fun _ : True => hc1) (ca1 (fun _ : True => hc2) ca0))) hk
-- h0: ret
theorem F26.l0_10 (l : List (List PV)) (d0 d1 d2 d3 d4 d5 d6 d7 d8 at_ n b1_0 b1_1 b1_2 b1_3 b1_4 b1_5 b1_6 b1_7 b1_8 b1_9 b1_10 b1_11 b1_12 b1_13 b1_14 b1_15 b1_16 b1_17 y0_2 y1_2 y2_2 y3_2 : Int) (isjump_2 plain0_2 plain1_2 : Bool) (z_36 z_37 z_38 z_39 z_40 z_41 z_42 z_43 z_44 z_45 z_46 z_47 z_48 z_49 z_50 z_51 z_52 z_53 : Int) (ho0 : (decide (n < 4096)) = true)
    (ho1 : (bif (decide (at_ < 0)) then true else (decide (at_ ≥ ((l.length : Int))))) = false)
    (ho2 : (0 : Int) ≤ at_)
    (ho3 : (l : List (List PV))[Int.toNat at_]? = some [.int .i64 y0_2, .int .i64 y1_2, .int .i64 y2_2, .int .u32 y3_2])
    (ho4 : inR .i64 (at_ + 1))
    (ho5 : (y0_2 == 6) = false)
    (ho6 : (y0_2 == 22) = false)
    (ho7 : (y0_2 == 5) = false)
    (ho8 : isjump_2 = false)
    (ho9 : plain1_2 = true)
    (ho10 : inR .i64 (n + 1))
    (hc0 : EvF Try.prog prim 35 [.v (.int .i64 y0_2)] [] [] [.v (.bool isjump_2)] [])
    (hc1 : EvF Try.prog prim 38 [.optr 1 0, .v (.int .i64 y0_2), .v (.int .u32 y3_2), .agg (DA d0 d1 d2 d3 d4 d5 d6 d7 d8)] [] ([] ++ [[.v (.int .u32 d0), .v (.int .u32 d1), .v (.int .u64 d2), .v (.int .u64 d3), .v (.int .u64 d4), .v (.int .u64 d5), .v (.int .u64 d6), .v (.int .u64 d7), .v (.int .u64 d8)], (RB b1_0 b1_1 b1_2 b1_3 b1_4 b1_5 b1_6 b1_7 b1_8 b1_9 b1_10 b1_11 b1_12 b1_13 b1_14 b1_15 b1_16 b1_17), [.v (.int .i64 y0_2), .v (.int .i64 y1_2), .v (.int .i64 y2_2), .v (.int .u32 y3_2)]]) [.v (.bool plain0_2), .v (.bool plain1_2)] ([] ++ [[.v (.int .u32 d0), .v (.int .u32 d1), .v (.int .u64 d2), .v (.int .u64 d3), .v (.int .u64 d4), .v (.int .u64 d5), .v (.int .u64 d6), .v (.int .u64 d7), .v (.int .u64 d8)], (RB z_36 z_37 z_38 z_39 z_40 z_41 z_42 z_43 z_44 z_45 z_46 z_47 z_48 z_49 z_50 z_51 z_52 z_53), [.v (.int .i64 y0_2), .v (.int .i64 y1_2), .v (.int .i64 y2_2), .v (.int .u32 y3_2)]])) :
    EvK Try.prog prim Try.f26 (loopAt Try.f26 0) (F26.h0 l d0 d1 d2 d3 d4 d5 d6 d7 d8 at_ n b1_0 b1_1 b1_2 b1_3 b1_4 b1_5 b1_6 b1_7 b1_8 b1_9 b1_10 b1_11 b1_12 b1_13 b1_14 b1_15 b1_16 b1_17) [.v (.int .u32 0), .v (.int .i64 (n + 1)), .v (.bool true)] [] :=
  EvK.done (n := 98) (sc := [.reg [], .br (some true), .reg [{}, {}, {}, ⟨.spec, .d⟩, ⟨.spec, .d⟩, ⟨.spec, .d⟩, ⟨.spec, .d⟩], .br (some false), .reg [{}, {}, ⟨.auto, .row [.int .i64 y0_2, .int .i64 y1_2, .int .i64 y2_2, .int .u32 y3_2]⟩], .reg [{}, ⟨.auto, .nw⟩], .reg [{}, ⟨.auto, .h⟩], .br (some false), .reg [{}, ⟨.auto, .h⟩], .br (some false), .reg [{}, ⟨.auto, .h⟩], .br (some false), .reg [{}, ⟨.auto, .h⟩, ⟨.auto, .call [] false [.v (.bool isjump_2)]⟩], .br (some false), .reg [{}, {}, ⟨.auto, .h⟩, {}, ⟨.auto, .h⟩, ⟨.auto, .h⟩, ⟨.auto, .callH [.v (.bool plain0_2), .v (.bool plain1_2)] [] [[.v (.int .u32 d0), .v (.int .u32 d1), .v (.int .u64 d2), .v (.int .u64 d3), .v (.int .u64 d4), .v (.int .u64 d5), .v (.int .u64 d6), .v (.int .u64 d7), .v (.int .u64 d8)], (RB z_36 z_37 z_38 z_39 z_40 z_41 z_42 z_43 z_44 z_45 z_46 z_47 z_48 z_49 z_50 z_51 z_52 z_53), [.v (.int .i64 y0_2), .v (.int .i64 y1_2), .v (.int .i64 y2_2), .v (.int .u32 y3_2)]]⟩], .reg [], .br (some true), .reg [{}, ⟨.auto, .nw⟩]]) (by kernel_rfl) (ob1 ho0 (ob1 (show (!(decide (at_ < 0))) = true → (!(decide (at_ < 0))) = true from idG (!(decide (at_ < 0)))) (ob1 (show (!(decide (at_ < 0))) = true → (!(decide (at_ < 0))) = true from idG (!(decide (at_ < 0)))) (ob1 (show (!(decide (at_ < 0))) = true → (!(decide (at_ < 0))) = true from idG (!(decide (at_ < 0)))) (ob1 (show (decide (at_ < 0)) = false → (!(decide (at_ < 0))) = true from notF) (ob1 ho1 (ob1 ho2 (ob1 ho3 (ob1 ho4 (ob1 ho5 (ob1 ho6 (ob1 ho7 (ob1 ho8 (ob1 (show ([] : List (List AV)).length = ([] : List (List AV)).length from rfl) (ob1 (show LowS [] [] from (fun cs hc => Or.inl hc)) (ob1 ho9 (ob1 ho10 ob0))))))))))))))))) (ca1 (fun _ : True => hc0) (ca1 (fun _ : True => hc1) ca0))
-- h0: ret
theorem F26.l0_11 (l : List (List PV)) (d0 d1 d2 d3 d4 d5 d6 d7 d8 at_ n b1_0 b1_1 b1_2 b1_3 b1_4 b1_5 b1_6 b1_7 b1_8 b1_9 b1_10 b1_11 b1_12 b1_13 b1_14 b1_15 b1_16 b1_17 y0_2 y1_2 y2_2 y3_2 : Int) (isjump_2 plain0_2 plain1_2 : Bool) (z_36 z_37 z_38 z_39 z_40 z_41 z_42 z_43 z_44 z_45 z_46 z_47 z_48 z_49 z_50 z_51 z_52 z_53 : Int) (ho0 : (decide (n < 4096)) = true)
    (ho1 : (bif (decide (at_ < 0)) then true else (decide (at_ ≥ ((l.length : Int))))) = false)
    (ho2 : (0 : Int) ≤ at_)
    (ho3 : (l : List (List PV))[Int.toNat at_]? = some [.int .i64 y0_2, .int .i64 y1_2, .int .i64 y2_2, .int .u32 y3_2])
    (ho4 : inR .i64 (at_ + 1))
    (ho5 : (y0_2 == 6) = false)
    (ho6 : (y0_2 == 22) = false)
    (ho7 : (y0_2 == 5) = false)
    (ho8 : isjump_2 = false)
    (ho9 : plain1_2 = false)
    (ho10 : (!plain0_2) = true)
    (hc0 : EvF Try.prog prim 35 [.v (.int .i64 y0_2)] [] [] [.v (.bool isjump_2)] [])
    (hc1 : EvF Try.prog prim 38 [.optr 1 0, .v (.int .i64 y0_2), .v (.int .u32 y3_2), .agg (DA d0 d1 d2 d3 d4 d5 d6 d7 d8)] [] ([] ++ [[.v (.int .u32 d0), .v (.int .u32 d1), .v (.int .u64 d2), .v (.int .u64 d3), .v (.int .u64 d4), .v (.int .u64 d5), .v (.int .u64 d6), .v (.int .u64 d7), .v (.int .u64 d8)], (RB b1_0 b1_1 b1_2 b1_3 b1_4 b1_5 b1_6 b1_7 b1_8 b1_9 b1_10 b1_11 b1_12 b1_13 b1_14 b1_15 b1_16 b1_17), [.v (.int .i64 y0_2), .v (.int .i64 y1_2), .v (.int .i64 y2_2), .v (.int .u32 y3_2)]]) [.v (.bool plain0_2), .v (.bool plain1_2)] ([] ++ [[.v (.int .u32 d0), .v (.int .u32 d1), .v (.int .u64 d2), .v (.int .u64 d3), .v (.int .u64 d4), .v (.int .u64 d5), .v (.int .u64 d6), .v (.int .u64 d7), .v (.int .u64 d8)], (RB z_36 z_37 z_38 z_39 z_40 z_41 z_42 z_43 z_44 z_45 z_46 z_47 z_48 z_49 z_50 z_51 z_52 z_53), [.v (.int .i64 y0_2), .v (.int .i64 y1_2), .v (.int .i64 y2_2), .v (.int .u32 y3_2)]])) :
    EvK Try.prog prim Try.f26 (loopAt Try.f26 0) (F26.h0 l d0 d1 d2 d3 d4 d5 d6 d7 d8 at_ n b1_0 b1_1 b1_2 b1_3 b1_4 b1_5 b1_6 b1_7 b1_8 b1_9 b1_10 b1_11 b1_12 b1_13 b1_14 b1_15 b1_16 b1_17) [.v (.int .u32 0), .v (.int .i64 n), .v (.bool false)] [] :=
  EvK.done (n := 102) (sc := [.reg [], .br (some true), .reg [{}, {}, {}, ⟨.spec, .d⟩, ⟨.spec, .d⟩, ⟨.spec, .d⟩, ⟨.spec, .d⟩], .br (some false), .reg [{}, {}, ⟨.auto, .row [.int .i64 y0_2, .int .i64 y1_2, .int .i64 y2_2, .int .u32 y3_2]⟩], .reg [{}, ⟨.auto, .nw⟩], .reg [{}, ⟨.auto, .h⟩], .br (some false), .reg [{}, ⟨.auto, .h⟩], .br (some false), .reg [{}, ⟨.auto, .h⟩], .br (some false), .reg [{}, ⟨.auto, .h⟩, ⟨.auto, .call [] false [.v (.bool isjump_2)]⟩], .br (some false), .reg [{}, {}, ⟨.auto, .h⟩, {}, ⟨.auto, .h⟩, ⟨.auto, .h⟩, ⟨.auto, .callH [.v (.bool plain0_2), .v (.bool plain1_2)] [] [[.v (.int .u32 d0), .v (.int .u32 d1), .v (.int .u64 d2), .v (.int .u64 d3), .v (.int .u64 d4), .v (.int .u64 d5), .v (.int .u64 d6), .v (.int .u64 d7), .v (.int .u64 d8)], (RB z_36 z_37 z_38 z_39 z_40 z_41 z_42 z_43 z_44 z_45 z_46 z_47 z_48 z_49 z_50 z_51 z_52 z_53), [.v (.int .i64 y0_2), .v (.int .i64 y1_2), .v (.int .i64 y2_2), .v (.int .u32 y3_2)]]⟩], .reg [], .br (some false), .reg [], .br (some true), .reg []]) (by kernel_rfl) (ob1 ho0 (ob1 (show (!(decide (at_ < 0))) = true → (!(decide (at_ < 0))) = true from idG (!(decide (at_ < 0)))) (ob1 (show (!(decide (at_ < 0))) = true → (!(decide (at_ < 0))) = true from idG (!(decide (at_ < 0)))) (ob1 (show (!(decide (at_ < 0))) = true → (!(decide (at_ < 0))) = true from idG (!(decide (at_ < 0)))) (ob1 (show (decide (at_ < 0)) = false → (!(decide (at_ < 0))) = true from notF) (ob1 ho1 (ob1 ho2 (ob1 ho3 (ob1 ho4 (ob1 ho5 (ob1 ho6 (ob1 ho7 (ob1 ho8 (ob1 (show ([] : List (List AV)).length = ([] : List (List AV)).length from rfl) (ob1 (show LowS [] [] from (fun cs hc => Or.inl hc)) (ob1 ho9 (ob1 ho10 ob0))))))))))))))))) (ca1 (fun _ : True => hc0) (ca1 (fun _ : True => hc1) ca0))
-- h0: to h0
theorem F26.l0_12 (l : List (List PV)) (d0 d1 d2 d3 d4 d5 d6 d7 d8 at_ n b1_0 b1_1 b1_2 b1_3 b1_4 b1_5 b1_6 b1_7 b1_8 b1_9 b1_10 b1_11 b1_12 b1_13 b1_14 b1_15 b1_16 b1_17 y0_2 y1_2 y2_2 y3_2 : Int) (isjump_2 plain0_2 plain1_2 : Bool) (z_36 z_37 z_38 z_39 z_40 z_41 z_42 z_43 z_44 z_45 z_46 z_47 z_48 z_49 z_50 z_51 z_52 z_53 : Int) {r : List AV} {h : List (List AV)} (ho0 : (decide (n < 4096)) = true)
    (ho1 : (bif (decide (at_ < 0)) then true else (decide (at_ ≥ ((l.length : Int))))) = false)
    (ho2 : (0 : Int) ≤ at_)
    (ho3 : (l : List (List PV))[Int.toNat at_]? = some [.int .i64 y0_2, .int .i64 y1_2, .int .i64 y2_2, .int .u32 y3_2])
    (ho4 : inR .i64 (at_ + 1))
    (ho5 : (y0_2 == 6) = false)
    (ho6 : (y0_2 == 22) = false)
    (ho7 : (y0_2 == 5) = false)
    (ho8 : isjump_2 = false)
    (ho9 : plain1_2 = false)
    (ho10 : (!plain0_2) = false)
    (ho11 : inR .i64 (n + 1))
    (hc0 : EvF Try.prog prim 35 [.v (.int .i64 y0_2)] [] [] [.v (.bool isjump_2)] [])
    (hc1 : EvF Try.prog prim 38 [.optr 1 0, .v (.int .i64 y0_2), .v (.int .u32 y3_2), .agg (DA d0 d1 d2 d3 d4 d5 d6 d7 d8)] [] ([] ++ [[.v (.int .u32 d0), .v (.int .u32 d1), .v (.int .u64 d2), .v (.int .u64 d3), .v (.int .u64 d4), .v (.int .u64 d5), .v (.int .u64 d6), .v (.int .u64 d7), .v (.int .u64 d8)], (RB b1_0 b1_1 b1_2 b1_3 b1_4 b1_5 b1_6 b1_7 b1_8 b1_9 b1_10 b1_11 b1_12 b1_13 b1_14 b1_15 b1_16 b1_17), [.v (.int .i64 y0_2), .v (.int .i64 y1_2), .v (.int .i64 y2_2), .v (.int .u32 y3_2)]]) [.v (.bool plain0_2), .v (.bool plain1_2)] ([] ++ [[.v (.int .u32 d0), .v (.int .u32 d1), .v (.int .u64 d2), .v (.int .u64 d3), .v (.int .u64 d4), .v (.int .u64 d5), .v (.int .u64 d6), .v (.int .u64 d7), .v (.int .u64 d8)], (RB z_36 z_37 z_38 z_39 z_40 z_41 z_42 z_43 z_44 z_45 z_46 z_47 z_48 z_49 z_50 z_51 z_52 z_53), [.v (.int .i64 y0_2), .v (.int .i64 y1_2), .v (.int .i64 y2_2), .v (.int .u32 y3_2)]]))
    (hk : EvK Try.prog prim Try.f26 (loopAt Try.f26 0) (F26.h0 l d0 d1 d2 d3 d4 d5 d6 d7 d8 ((at_ + 1)) ((n + 1)) z_36 z_37 z_38 z_39 z_40 z_41 z_42 z_43 z_44 z_45 z_46 z_47 z_48 z_49 z_50 z_51 z_52 z_53) r h) :
    EvK Try.prog prim Try.f26 (loopAt Try.f26 0) (F26.h0 l d0 d1 d2 d3 d4 d5 d6 d7 d8 at_ n b1_0 b1_1 b1_2 b1_3 b1_4 b1_5 b1_6 b1_7 b1_8 b1_9 b1_10 b1_11 b1_12 b1_13 b1_14 b1_15 b1_16 b1_17) r h :=
  EvK.cont (n := 104) (sc := [.reg [], .br (some true), .reg [{}, {}, {}, ⟨.spec, .d⟩, ⟨.spec, .d⟩, ⟨.spec, .d⟩, ⟨.spec, .d⟩], .br (some false), .reg [{}, {}, ⟨.auto, .row [.int .i64 y0_2, .int .i64 y1_2, .int .i64 y2_2, .int .u32 y3_2]⟩], .reg [{}, ⟨.auto, .nw⟩], .reg [{}, ⟨.auto, .h⟩], .br (some false), .reg [{}, ⟨.auto, .h⟩], .br (some false), .reg [{}, ⟨.auto, .h⟩], .br (some false), .reg [{}, ⟨.auto, .h⟩, ⟨.auto, .call [] false [.v (.bool isjump_2)]⟩], .br (some false), .reg [{}, {}, ⟨.auto, .h⟩, {}, ⟨.auto, .h⟩, ⟨.auto, .h⟩, ⟨.auto, .callH [.v (.bool plain0_2), .v (.bool plain1_2)] [] [[.v (.int .u32 d0), .v (.int .u32 d1), .v (.int .u64 d2), .v (.int .u64 d3), .v (.int .u64 d4), .v (.int .u64 d5), .v (.int .u64 d6), .v (.int .u64 d7), .v (.int .u64 d8)], (RB z_36 z_37 z_38 z_39 z_40 z_41 z_42 z_43 z_44 z_45 z_46 z_47 z_48 z_49 z_50 z_51 z_52 z_53), [.v (.int .i64 y0_2), .v (.int .i64 y1_2), .v (.int .i64 y2_2), .v (.int .u32 y3_2)]]⟩], .reg [], .br (some false), .reg [], .br (some false), .reg [{}, ⟨.auto, .nw⟩], .cut { kill := [10, 12, 13, 16, 17, 18, 19, 20, 21, 22, 23, 24, 25, 26, 27, 29, 30, 31, 32, 33, 34, 35, 36, 37, 38, 39, 40, 41, 42, 43, 44, 45, 48, 49, 51, 52, 53, 54, 59, 60, 61, 62, 69, 70, 71, 72, 87, 88, 89, 90], weak := [], adopt := [], adoptB := [], heapLen := 2, toks := [] }]) (todo' := loopAt Try.f26 0) (s' := F26.h0 l d0 d1 d2 d3 d4 d5 d6 d7 d8 ((at_ + 1)) ((n + 1)) z_36 z_37 z_38 z_39 z_40 z_41 z_42 z_43 z_44 z_45 z_46 z_47 z_48 z_49 z_50 z_51 z_52 z_53) (by kernel_rfl) (ob1 ho0 (ob1 (show (!(decide (at_ < 0))) = true → (!(decide (at_ < 0))) = true from idG (!(decide (at_ < 0)))) (ob1 (show (!(decide (at_ < 0))) = true → (!(decide (at_ < 0))) = true from idG (!(decide (at_ < 0)))) (ob1 (show (!(decide (at_ < 0))) = true → (!(decide (at_ < 0))) = true from idG (!(decide (at_ < 0)))) (ob1 (show (decide (at_ < 0)) = false → (!(decide (at_ < 0))) = true from notF) (ob1 ho1 (ob1 ho2 (ob1 ho3 (ob1 ho4 (ob1 ho5 (ob1 ho6 (ob1 ho7 (ob1 ho8 (ob1 (show ([] : List (List AV)).length = ([] : List (List AV)).length from rfl) (ob1 (show LowS [] [] from (fun cs hc => Or.inl hc)) (ob1 ho9 (ob1 ho10 (ob1 ho11 ob0)))))))))))))))))) (ca1 (fun _ : True => hc0) (ca1 (fun _ : True => hc1) ca0)) hk
-- h0: ret
theorem F26.l0_13 (l : List (List PV)) (d0 d1 d2 d3 d4 d5 d6 d7 d8 at_ n b1_0 b1_1 b1_2 b1_3 b1_4 b1_5 b1_6 b1_7 b1_8 b1_9 b1_10 b1_11 b1_12 b1_13 b1_14 b1_15 b1_16 b1_17 : Int) (ho0 : (decide (n < 4096)) = false) :
    EvK Try.prog prim Try.f26 (loopAt Try.f26 0) (F26.h0 l d0 d1 d2 d3 d4 d5 d6 d7 d8 at_ n b1_0 b1_1 b1_2 b1_3 b1_4 b1_5 b1_6 b1_7 b1_8 b1_9 b1_10 b1_11 b1_12 b1_13 b1_14 b1_15 b1_16 b1_17) [.v (.int .u32 0), .v (.int .i64 4096), .v (.bool false)] [] :=
  EvK.done (n := 68) (sc := [.reg [], .br (some false), .reg []]) (by kernel_rfl) (ob1 ho0 ob0) ca0
/-! ### tipstaff/tipstaffref1.IsJump (function 35) -/
-- entry: ret
theorem F35.p0 (c : Int) (ho0 : (c == 21) = true) :
    EvF Try.prog prim 35 [.v (.int .i64 c)] [] [] [.v (.bool true)] [] :=
  EvF.of Try.func35 (EvK.done (n := 75) (sc := [.reg [], .reg [], .reg [], .br (some true), .br (some true), .reg []]) (by kernel_rfl) (ob1 ho0 (ob1 ho0 ob0)) ca0)
-- entry: ret
theorem F35.p1 (c : Int) (ho0 : (c == 21) = false)
    (ho1 : (c == 29) = true) :
    EvF Try.prog prim 35 [.v (.int .i64 c)] [] [] [.v (.bool true)] [] :=
  EvF.of Try.func35 (EvK.done (n := 78) (sc := [.reg [], .reg [], .reg [], .br (some false), .reg [], .br (some true), .br (some true), .reg []]) (by kernel_rfl) (ob1 ho0 (ob1 ho1 (ob1 ho1 ob0))) ca0)
-- entry: ret
theorem F35.p2 (c : Int) (ho0 : (c == 21) = false)
    (ho1 : (c == 29) = false)
    (ho2 : (c == 37) = true) :
    EvF Try.prog prim 35 [.v (.int .i64 c)] [] [] [.v (.bool true)] [] :=
  EvF.of Try.func35 (EvK.done (n := 81) (sc := [.reg [], .reg [], .reg [], .br (some false), .reg [], .br (some false), .reg [], .br (some true), .br (some true), .reg []]) (by kernel_rfl) (ob1 ho0 (ob1 ho1 (ob1 ho2 (ob1 ho2 ob0)))) ca0)
-- entry: ret
theorem F35.p3 (c : Int) (ho0 : (c == 21) = false)
    (ho1 : (c == 29) = false)
    (ho2 : (c == 37) = false)
    (ho3 : (c == 45) = true) :
    EvF Try.prog prim 35 [.v (.int .i64 c)] [] [] [.v (.bool true)] [] :=
  EvF.of Try.func35 (EvK.done (n := 84) (sc := [.reg [], .reg [], .reg [], .br (some false), .reg [], .br (some false), .reg [], .br (some false), .reg [], .br (some true), .br (some true), .reg []]) (by kernel_rfl) (ob1 ho0 (ob1 ho1 (ob1 ho2 (ob1 ho3 (ob1 ho3 ob0))))) ca0)
-- entry: ret
theorem F35.p4 (c : Int) (ho0 : (c == 21) = false)
    (ho1 : (c == 29) = false)
    (ho2 : (c == 37) = false)
    (ho3 : (c == 45) = false)
    (ho4 : (c == 53) = true) :
    EvF Try.prog prim 35 [.v (.int .i64 c)] [] [] [.v (.bool true)] [] :=
  EvF.of Try.func35 (EvK.done (n := 87) (sc := [.reg [], .reg [], .reg [], .br (some false), .reg [], .br (some false), .reg [], .br (some false), .reg [], .br (some false), .reg [], .br (some true), .br (some true), .reg []]) (by kernel_rfl) (ob1 ho0 (ob1 ho1 (ob1 ho2 (ob1 ho3 (ob1 ho4 (ob1 ho4 ob0)))))) ca0)
-- entry: ret
theorem F35.p5 (c : Int) (ho0 : (c == 21) = false)
    (ho1 : (c == 29) = false)
    (ho2 : (c == 37) = false)
    (ho3 : (c == 45) = false)
    (ho4 : (c == 53) = false)
    (ho5 : (c == 61) = true) :
    EvF Try.prog prim 35 [.v (.int .i64 c)] [] [] [.v (.bool true)] [] :=
  EvF.of Try.func35 (EvK.done (n := 90) (sc := [.reg [], .reg [], .reg [], .br (some false), .reg [], .br (some false), .reg [], .br (some false), .reg [], .br (some false), .reg [], .br (some false), .reg [], .br (some true), .br (some true), .reg []]) (by kernel_rfl) (ob1 ho0 (ob1 ho1 (ob1 ho2 (ob1 ho3 (ob1 ho4 (ob1 ho5 (ob1 ho5 ob0))))))) ca0)
-- entry: ret
theorem F35.p6 (c : Int) (ho0 : (c == 21) = false)
    (ho1 : (c == 29) = false)
    (ho2 : (c == 37) = false)
    (ho3 : (c == 45) = false)
    (ho4 : (c == 53) = false)
    (ho5 : (c == 61) = false)
    (ho6 : (c == 69) = true) :
    EvF Try.prog prim 35 [.v (.int .i64 c)] [] [] [.v (.bool true)] [] :=
  EvF.of Try.func35 (EvK.done (n := 93) (sc := [.reg [], .reg [], .reg [], .br (some false), .reg [], .br (some false), .reg [], .br (some false), .reg [], .br (some false), .reg [], .br (some false), .reg [], .br (some false), .reg [], .br (some true), .br (some true), .reg []]) (by kernel_rfl) (ob1 ho0 (ob1 ho1 (ob1 ho2 (ob1 ho3 (ob1 ho4 (ob1 ho5 (ob1 ho6 (ob1 ho6 ob0)))))))) ca0)
-- entry: ret
theorem F35.p7 (c : Int) (ho0 : (c == 21) = false)
    (ho1 : (c == 29) = false)
    (ho2 : (c == 37) = false)
    (ho3 : (c == 45) = false)
    (ho4 : (c == 53) = false)
    (ho5 : (c == 61) = false)
    (ho6 : (c == 69) = false)
    (ho7 : (c == 77) = true) :
    EvF Try.prog prim 35 [.v (.int .i64 c)] [] [] [.v (.bool true)] [] :=
  EvF.of Try.func35 (EvK.done (n := 93) (sc := [.reg [], .reg [], .reg [], .br (some false), .reg [], .br (some false), .reg [], .br (some false), .reg [], .br (some false), .reg [], .br (some false), .reg [], .br (some false), .reg [], .br (some false), .reg [], .br (some true), .reg []]) (by kernel_rfl) (ob1 ho0 (ob1 ho1 (ob1 ho2 (ob1 ho3 (ob1 ho4 (ob1 ho5 (ob1 ho6 (ob1 ho7 ob0)))))))) ca0)
-- entry: ret
theorem F35.p8 (c : Int) (ho0 : (c == 21) = false)
    (ho1 : (c == 29) = false)
    (ho2 : (c == 37) = false)
    (ho3 : (c == 45) = false)
    (ho4 : (c == 53) = false)
    (ho5 : (c == 61) = false)
    (ho6 : (c == 69) = false)
    (ho7 : (c == 77) = false) :
    EvF Try.prog prim 35 [.v (.int .i64 c)] [] [] [.v (.bool false)] [] :=
  EvF.of Try.func35 (EvK.done (n := 95) (sc := [.reg [], .reg [], .reg [], .br (some false), .reg [], .br (some false), .reg [], .br (some false), .reg [], .br (some false), .reg [], .br (some false), .reg [], .br (some false), .reg [], .br (some false), .reg [], .br (some false), .reg []]) (by kernel_rfl) (ob1 ho0 (ob1 ho1 (ob1 ho2 (ob1 ho3 (ob1 ho4 (ob1 ho5 (ob1 ho6 (ob1 ho7 ob0)))))))) ca0)
/-! ### tipstaff/tipstaffref1.Jumps (function 36) -/
-- entry: ret
theorem F36.p0 (c a b : Int) (ho0 : (c == 21) = true) :
    EvF Try.prog prim 36 [.v (.int .i64 c), .v (.int .u32 a), .v (.int .u32 b)] [] [] [.v (.bool (a == b))] [] :=
  EvF.of Try.func36 (EvK.done (n := 75) (sc := [.reg [], .reg [], .reg [], .br (some true), .br (some true), .reg []]) (by kernel_rfl) (ob1 ho0 (ob1 ho0 ob0)) ca0)
-- entry: ret
theorem F36.p1 (c a b : Int) (ho0 : (c == 21) = false)
    (ho1 : (c == 29) = true) :
    EvF Try.prog prim 36 [.v (.int .i64 c), .v (.int .u32 a), .v (.int .u32 b)] [] [] [.v (.bool (a == b))] [] :=
  EvF.of Try.func36 (EvK.done (n := 75) (sc := [.reg [], .reg [], .reg [], .br (some false), .reg [], .br (some true), .reg []]) (by kernel_rfl) (ob1 ho0 (ob1 ho1 ob0)) ca0)
-- entry: ret
theorem F36.p2 (c a b : Int) (ho0 : (c == 21) = false)
    (ho1 : (c == 29) = false)
    (ho2 : (c == 37) = true) :
    EvF Try.prog prim 36 [.v (.int .i64 c), .v (.int .u32 a), .v (.int .u32 b)] [] [] [.v (.bool (decide (a > b)))] [] :=
  EvF.of Try.func36 (EvK.done (n := 81) (sc := [.reg [], .reg [], .reg [], .br (some false), .reg [], .br (some false), .reg [], .br (some true), .br (some true), .reg []]) (by kernel_rfl) (ob1 ho0 (ob1 ho1 (ob1 ho2 (ob1 ho2 ob0)))) ca0)
-- entry: ret
theorem F36.p3 (c a b : Int) (ho0 : (c == 21) = false)
    (ho1 : (c == 29) = false)
    (ho2 : (c == 37) = false)
    (ho3 : (c == 45) = true) :
    EvF Try.prog prim 36 [.v (.int .i64 c), .v (.int .u32 a), .v (.int .u32 b)] [] [] [.v (.bool (decide (a > b)))] [] :=
  EvF.of Try.func36 (EvK.done (n := 81) (sc := [.reg [], .reg [], .reg [], .br (some false), .reg [], .br (some false), .reg [], .br (some false), .reg [], .br (some true), .reg []]) (by kernel_rfl) (ob1 ho0 (ob1 ho1 (ob1 ho2 (ob1 ho3 ob0)))) ca0)
-- entry: ret
theorem F36.p4 (c a b : Int) (ho0 : (c == 21) = false)
    (ho1 : (c == 29) = false)
    (ho2 : (c == 37) = false)
    (ho3 : (c == 45) = false)
    (ho4 : (c == 53) = true) :
    EvF Try.prog prim 36 [.v (.int .i64 c), .v (.int .u32 a), .v (.int .u32 b)] [] [] [.v (.bool (decide (a ≥ b)))] [] :=
  EvF.of Try.func36 (EvK.done (n := 87) (sc := [.reg [], .reg [], .reg [], .br (some false), .reg [], .br (some false), .reg [], .br (some false), .reg [], .br (some false), .reg [], .br (some true), .br (some true), .reg []]) (by kernel_rfl) (ob1 ho0 (ob1 ho1 (ob1 ho2 (ob1 ho3 (ob1 ho4 (ob1 ho4 ob0)))))) ca0)
-- entry: ret
theorem F36.p5 (c a b : Int) (ho0 : (c == 21) = false)
    (ho1 : (c == 29) = false)
    (ho2 : (c == 37) = false)
    (ho3 : (c == 45) = false)
    (ho4 : (c == 53) = false)
    (ho5 : (c == 61) = true) :
    EvF Try.prog prim 36 [.v (.int .i64 c), .v (.int .u32 a), .v (.int .u32 b)] [] [] [.v (.bool (decide (a ≥ b)))] [] :=
  EvF.of Try.func36 (EvK.done (n := 87) (sc := [.reg [], .reg [], .reg [], .br (some false), .reg [], .br (some false), .reg [], .br (some false), .reg [], .br (some false), .reg [], .br (some false), .reg [], .br (some true), .reg []]) (by kernel_rfl) (ob1 ho0 (ob1 ho1 (ob1 ho2 (ob1 ho3 (ob1 ho4 (ob1 ho5 ob0)))))) ca0)
-- entry: ret
theorem F36.p6 (c a b : Int) (ho0 : (c == 21) = false)
    (ho1 : (c == 29) = false)
    (ho2 : (c == 37) = false)
    (ho3 : (c == 45) = false)
    (ho4 : (c == 53) = false)
    (ho5 : (c == 61) = false) :
    EvF Try.prog prim 36 [.v (.int .i64 c), .v (.int .u32 a), .v (.int .u32 b)] [] [] [.v (.bool ((IntKind.u32.wrap ((BitVec.ofInt 32 a &&& BitVec.ofInt 32 b).toNat : Int)) != 0))] [] :=
  EvF.of Try.func36 (EvK.done (n := 89) (sc := [.reg [], .reg [], .reg [], .br (some false), .reg [], .br (some false), .reg [], .br (some false), .reg [], .br (some false), .reg [], .br (some false), .reg [], .br (some false), .reg []]) (by kernel_rfl) (ob1 ho0 (ob1 ho1 (ob1 ho2 (ob1 ho3 (ob1 ho4 (ob1 ho5 ob0)))))) ca0)
/-! ### tipstaff/tipstaffref1.IsAlu (function 46) -/
-- entry: ret
theorem F46.p0 (c : Int) (ho0 : (c == 4) = true) :
    EvF Try.prog prim 46 [.v (.int .i64 c)] [] [] [.v (.bool true)] [] :=
  EvF.of Try.func46 (EvK.done (n := 75) (sc := [.reg [], .reg [], .reg [], .br (some true), .br (some true), .reg []]) (by kernel_rfl) (ob1 ho0 (ob1 ho0 ob0)) ca0)
-- entry: ret
theorem F46.p1 (c : Int) (ho0 : (c == 4) = false)
    (ho1 : (c == 12) = true) :
    EvF Try.prog prim 46 [.v (.int .i64 c)] [] [] [.v (.bool true)] [] :=
  EvF.of Try.func46 (EvK.done (n := 78) (sc := [.reg [], .reg [], .reg [], .br (some false), .reg [], .br (some true), .br (some true), .reg []]) (by kernel_rfl) (ob1 ho0 (ob1 ho1 (ob1 ho1 ob0))) ca0)
-- entry: ret
theorem F46.p2 (c : Int) (ho0 : (c == 4) = false)
    (ho1 : (c == 12) = false)
    (ho2 : (c == 20) = true) :
    EvF Try.prog prim 46 [.v (.int .i64 c)] [] [] [.v (.bool true)] [] :=
  EvF.of Try.func46 (EvK.done (n := 81) (sc := [.reg [], .reg [], .reg [], .br (some false), .reg [], .br (some false), .reg [], .br (some true), .br (some true), .reg []]) (by kernel_rfl) (ob1 ho0 (ob1 ho1 (ob1 ho2 (ob1 ho2 ob0)))) ca0)
-- entry: ret
theorem F46.p3 (c : Int) (ho0 : (c == 4) = false)
    (ho1 : (c == 12) = false)
    (ho2 : (c == 20) = false)
    (ho3 : (c == 28) = true) :
    EvF Try.prog prim 46 [.v (.int .i64 c)] [] [] [.v (.bool true)] [] :=
  EvF.of Try.func46 (EvK.done (n := 84) (sc := [.reg [], .reg [], .reg [], .br (some false), .reg [], .br (some false), .reg [], .br (some false), .reg [], .br (some true), .br (some true), .reg []]) (by kernel_rfl) (ob1 ho0 (ob1 ho1 (ob1 ho2 (ob1 ho3 (ob1 ho3 ob0))))) ca0)
-- entry: ret
theorem F46.p4 (c : Int) (ho0 : (c == 4) = false)
    (ho1 : (c == 12) = false)
    (ho2 : (c == 20) = false)
    (ho3 : (c == 28) = false)
    (ho4 : (c == 36) = true) :
    EvF Try.prog prim 46 [.v (.int .i64 c)] [] [] [.v (.bool true)] [] :=
  EvF.of Try.func46 (EvK.done (n := 87) (sc := [.reg [], .reg [], .reg [], .br (some false), .reg [], .br (some false), .reg [], .br (some false), .reg [], .br (some false), .reg [], .br (some true), .br (some true), .reg []]) (by kernel_rfl) (ob1 ho0 (ob1 ho1 (ob1 ho2 (ob1 ho3 (ob1 ho4 (ob1 ho4 ob0)))))) ca0)
-- entry: ret
theorem F46.p5 (c : Int) (ho0 : (c == 4) = false)
    (ho1 : (c == 12) = false)
    (ho2 : (c == 20) = false)
    (ho3 : (c == 28) = false)
    (ho4 : (c == 36) = false)
    (ho5 : (c == 44) = true) :
    EvF Try.prog prim 46 [.v (.int .i64 c)] [] [] [.v (.bool true)] [] :=
  EvF.of Try.func46 (EvK.done (n := 90) (sc := [.reg [], .reg [], .reg [], .br (some false), .reg [], .br (some false), .reg [], .br (some false), .reg [], .br (some false), .reg [], .br (some false), .reg [], .br (some true), .br (some true), .reg []]) (by kernel_rfl) (ob1 ho0 (ob1 ho1 (ob1 ho2 (ob1 ho3 (ob1 ho4 (ob1 ho5 (ob1 ho5 ob0))))))) ca0)
-- entry: ret
theorem F46.p6 (c : Int) (ho0 : (c == 4) = false)
    (ho1 : (c == 12) = false)
    (ho2 : (c == 20) = false)
    (ho3 : (c == 28) = false)
    (ho4 : (c == 36) = false)
    (ho5 : (c == 44) = false)
    (ho6 : (c == 52) = true) :
    EvF Try.prog prim 46 [.v (.int .i64 c)] [] [] [.v (.bool true)] [] :=
  EvF.of Try.func46 (EvK.done (n := 93) (sc := [.reg [], .reg [], .reg [], .br (some false), .reg [], .br (some false), .reg [], .br (some false), .reg [], .br (some false), .reg [], .br (some false), .reg [], .br (some false), .reg [], .br (some true), .br (some true), .reg []]) (by kernel_rfl) (ob1 ho0 (ob1 ho1 (ob1 ho2 (ob1 ho3 (ob1 ho4 (ob1 ho5 (ob1 ho6 (ob1 ho6 ob0)))))))) ca0)
-- entry: ret
theorem F46.p7 (c : Int) (ho0 : (c == 4) = false)
    (ho1 : (c == 12) = false)
    (ho2 : (c == 20) = false)
    (ho3 : (c == 28) = false)
    (ho4 : (c == 36) = false)
    (ho5 : (c == 44) = false)
    (ho6 : (c == 52) = false)
    (ho7 : (c == 60) = true) :
    EvF Try.prog prim 46 [.v (.int .i64 c)] [] [] [.v (.bool true)] [] :=
  EvF.of Try.func46 (EvK.done (n := 96) (sc := [.reg [], .reg [], .reg [], .br (some false), .reg [], .br (some false), .reg [], .br (some false), .reg [], .br (some false), .reg [], .br (some false), .reg [], .br (some false), .reg [], .br (some false), .reg [], .br (some true), .br (some true), .reg []]) (by kernel_rfl) (ob1 ho0 (ob1 ho1 (ob1 ho2 (ob1 ho3 (ob1 ho4 (ob1 ho5 (ob1 ho6 (ob1 ho7 (ob1 ho7 ob0))))))))) ca0)
-- entry: ret
theorem F46.p8 (c : Int) (ho0 : (c == 4) = false)
    (ho1 : (c == 12) = false)
    (ho2 : (c == 20) = false)
    (ho3 : (c == 28) = false)
    (ho4 : (c == 36) = false)
    (ho5 : (c == 44) = false)
    (ho6 : (c == 52) = false)
    (ho7 : (c == 60) = false)
    (ho8 : (c == 68) = true) :
    EvF Try.prog prim 46 [.v (.int .i64 c)] [] [] [.v (.bool true)] [] :=
  EvF.of Try.func46 (EvK.done (n := 99) (sc := [.reg [], .reg [], .reg [], .br (some false), .reg [], .br (some false), .reg [], .br (some false), .reg [], .br (some false), .reg [], .br (some false), .reg [], .br (some false), .reg [], .br (some false), .reg [], .br (some false), .reg [], .br (some true), .br (some true), .reg []]) (by kernel_rfl) (ob1 ho0 (ob1 ho1 (ob1 ho2 (ob1 ho3 (ob1 ho4 (ob1 ho5 (ob1 ho6 (ob1 ho7 (ob1 ho8 (ob1 ho8 ob0)))))))))) ca0)
-- entry: ret
theorem F46.p9 (c : Int) (ho0 : (c == 4) = false)
    (ho1 : (c == 12) = false)
    (ho2 : (c == 20) = false)
    (ho3 : (c == 28) = false)
    (ho4 : (c == 36) = false)
    (ho5 : (c == 44) = false)
    (ho6 : (c == 52) = false)
    (ho7 : (c == 60) = false)
    (ho8 : (c == 68) = false)
    (ho9 : (c == 76) = true) :
    EvF Try.prog prim 46 [.v (.int .i64 c)] [] [] [.v (.bool true)] [] :=
  EvF.of Try.func46 (EvK.done (n := 102) (sc := [.reg [], .reg [], .reg [], .br (some false), .reg [], .br (some false), .reg [], .br (some false), .reg [], .br (some false), .reg [], .br (some false), .reg [], .br (some false), .reg [], .br (some false), .reg [], .br (some false), .reg [], .br (some false), .reg [], .br (some true), .br (some true), .reg []]) (by kernel_rfl) (ob1 ho0 (ob1 ho1 (ob1 ho2 (ob1 ho3 (ob1 ho4 (ob1 ho5 (ob1 ho6 (ob1 ho7 (ob1 ho8 (ob1 ho9 (ob1 ho9 ob0))))))))))) ca0)
-- entry: ret
theorem F46.p10 (c : Int) (ho0 : (c == 4) = false)
    (ho1 : (c == 12) = false)
    (ho2 : (c == 20) = false)
    (ho3 : (c == 28) = false)
    (ho4 : (c == 36) = false)
    (ho5 : (c == 44) = false)
    (ho6 : (c == 52) = false)
    (ho7 : (c == 60) = false)
    (ho8 : (c == 68) = false)
    (ho9 : (c == 76) = false)
    (ho10 : (c == 84) = true) :
    EvF Try.prog prim 46 [.v (.int .i64 c)] [] [] [.v (.bool true)] [] :=
  EvF.of Try.func46 (EvK.done (n := 105) (sc := [.reg [], .reg [], .reg [], .br (some false), .reg [], .br (some false), .reg [], .br (some false), .reg [], .br (some false), .reg [], .br (some false), .reg [], .br (some false), .reg [], .br (some false), .reg [], .br (some false), .reg [], .br (some false), .reg [], .br (some false), .reg [], .br (some true), .br (some true), .reg []]) (by kernel_rfl) (ob1 ho0 (ob1 ho1 (ob1 ho2 (ob1 ho3 (ob1 ho4 (ob1 ho5 (ob1 ho6 (ob1 ho7 (ob1 ho8 (ob1 ho9 (ob1 ho10 (ob1 ho10 ob0)))))))))))) ca0)
-- entry: ret
theorem F46.p11 (c : Int) (ho0 : (c == 4) = false)
    (ho1 : (c == 12) = false)
    (ho2 : (c == 20) = false)
    (ho3 : (c == 28) = false)
    (ho4 : (c == 36) = false)
    (ho5 : (c == 44) = false)
    (ho6 : (c == 52) = false)
    (ho7 : (c == 60) = false)
    (ho8 : (c == 68) = false)
    (ho9 : (c == 76) = false)
    (ho10 : (c == 84) = false)
    (ho11 : (c == 92) = true) :
    EvF Try.prog prim 46 [.v (.int .i64 c)] [] [] [.v (.bool true)] [] :=
  EvF.of Try.func46 (EvK.done (n := 108) (sc := [.reg [], .reg [], .reg [], .br (some false), .reg [], .br (some false), .reg [], .br (some false), .reg [], .br (some false), .reg [], .br (some false), .reg [], .br (some false), .reg [], .br (some false), .reg [], .br (some false), .reg [], .br (some false), .reg [], .br (some false), .reg [], .br (some false), .reg [], .br (some true), .br (some true), .reg []]) (by kernel_rfl) (ob1 ho0 (ob1 ho1 (ob1 ho2 (ob1 ho3 (ob1 ho4 (ob1 ho5 (ob1 ho6 (ob1 ho7 (ob1 ho8 (ob1 ho9 (ob1 ho10 (ob1 ho11 (ob1 ho11 ob0))))))))))))) ca0)
-- entry: ret
theorem F46.p12 (c : Int) (ho0 : (c == 4) = false)
    (ho1 : (c == 12) = false)
    (ho2 : (c == 20) = false)
    (ho3 : (c == 28) = false)
    (ho4 : (c == 36) = false)
    (ho5 : (c == 44) = false)
    (ho6 : (c == 52) = false)
    (ho7 : (c == 60) = false)
    (ho8 : (c == 68) = false)
    (ho9 : (c == 76) = false)
    (ho10 : (c == 84) = false)
    (ho11 : (c == 92) = false)
    (ho12 : (c == 164) = true) :
    EvF Try.prog prim 46 [.v (.int .i64 c)] [] [] [.v (.bool true)] [] :=
  EvF.of Try.func46 (EvK.done (n := 111) (sc := [.reg [], .reg [], .reg [], .br (some false), .reg [], .br (some false), .reg [], .br (some false), .reg [], .br (some false), .reg [], .br (some false), .reg [], .br (some false), .reg [], .br (some false), .reg [], .br (some false), .reg [], .br (some false), .reg [], .br (some false), .reg [], .br (some false), .reg [], .br (some false), .reg [], .br (some true), .br (some true), .reg []]) (by kernel_rfl) (ob1 ho0 (ob1 ho1 (ob1 ho2 (ob1 ho3 (ob1 ho4 (ob1 ho5 (ob1 ho6 (ob1 ho7 (ob1 ho8 (ob1 ho9 (ob1 ho10 (ob1 ho11 (ob1 ho12 (ob1 ho12 ob0)))))))))))))) ca0)
-- entry: ret
theorem F46.p13 (c : Int) (ho0 : (c == 4) = false)
    (ho1 : (c == 12) = false)
    (ho2 : (c == 20) = false)
    (ho3 : (c == 28) = false)
    (ho4 : (c == 36) = false)
    (ho5 : (c == 44) = false)
    (ho6 : (c == 52) = false)
    (ho7 : (c == 60) = false)
    (ho8 : (c == 68) = false)
    (ho9 : (c == 76) = false)
    (ho10 : (c == 84) = false)
    (ho11 : (c == 92) = false)
    (ho12 : (c == 164) = false)
    (ho13 : (c == 172) = true) :
    EvF Try.prog prim 46 [.v (.int .i64 c)] [] [] [.v (.bool true)] [] :=
  EvF.of Try.func46 (EvK.done (n := 114) (sc := [.reg [], .reg [], .reg [], .br (some false), .reg [], .br (some false), .reg [], .br (some false), .reg [], .br (some false), .reg [], .br (some false), .reg [], .br (some false), .reg [], .br (some false), .reg [], .br (some false), .reg [], .br (some false), .reg [], .br (some false), .reg [], .br (some false), .reg [], .br (some false), .reg [], .br (some false), .reg [], .br (some true), .br (some true), .reg []]) (by kernel_rfl) (ob1 ho0 (ob1 ho1 (ob1 ho2 (ob1 ho3 (ob1 ho4 (ob1 ho5 (ob1 ho6 (ob1 ho7 (ob1 ho8 (ob1 ho9 (ob1 ho10 (ob1 ho11 (ob1 ho12 (ob1 ho13 (ob1 ho13 ob0))))))))))))))) ca0)
-- entry: ret
theorem F46.p14 (c : Int) (ho0 : (c == 4) = false)
    (ho1 : (c == 12) = false)
    (ho2 : (c == 20) = false)
    (ho3 : (c == 28) = false)
    (ho4 : (c == 36) = false)
    (ho5 : (c == 44) = false)
    (ho6 : (c == 52) = false)
    (ho7 : (c == 60) = false)
    (ho8 : (c == 68) = false)
    (ho9 : (c == 76) = false)
    (ho10 : (c == 84) = false)
    (ho11 : (c == 92) = false)
    (ho12 : (c == 164) = false)
    (ho13 : (c == 172) = false)
    (ho14 : (c == 100) = true) :
    EvF Try.prog prim 46 [.v (.int .i64 c)] [] [] [.v (.bool true)] [] :=
  EvF.of Try.func46 (EvK.done (n := 117) (sc := [.reg [], .reg [], .reg [], .br (some false), .reg [], .br (some false), .reg [], .br (some false), .reg [], .br (some false), .reg [], .br (some false), .reg [], .br (some false), .reg [], .br (some false), .reg [], .br (some false), .reg [], .br (some false), .reg [], .br (some false), .reg [], .br (some false), .reg [], .br (some false), .reg [], .br (some false), .reg [], .br (some false), .reg [], .br (some true), .br (some true), .reg []]) (by kernel_rfl) (ob1 ho0 (ob1 ho1 (ob1 ho2 (ob1 ho3 (ob1 ho4 (ob1 ho5 (ob1 ho6 (ob1 ho7 (ob1 ho8 (ob1 ho9 (ob1 ho10 (ob1 ho11 (ob1 ho12 (ob1 ho13 (ob1 ho14 (ob1 ho14 ob0)))))))))))))))) ca0)
-- entry: ret
theorem F46.p15 (c : Int) (ho0 : (c == 4) = false)
    (ho1 : (c == 12) = false)
    (ho2 : (c == 20) = false)
    (ho3 : (c == 28) = false)
    (ho4 : (c == 36) = false)
    (ho5 : (c == 44) = false)
    (ho6 : (c == 52) = false)
    (ho7 : (c == 60) = false)
    (ho8 : (c == 68) = false)
    (ho9 : (c == 76) = false)
    (ho10 : (c == 84) = false)
    (ho11 : (c == 92) = false)
    (ho12 : (c == 164) = false)
    (ho13 : (c == 172) = false)
    (ho14 : (c == 100) = false)
    (ho15 : (c == 108) = true) :
    EvF Try.prog prim 46 [.v (.int .i64 c)] [] [] [.v (.bool true)] [] :=
  EvF.of Try.func46 (EvK.done (n := 120) (sc := [.reg [], .reg [], .reg [], .br (some false), .reg [], .br (some false), .reg [], .br (some false), .reg [], .br (some false), .reg [], .br (some false), .reg [], .br (some false), .reg [], .br (some false), .reg [], .br (some false), .reg [], .br (some false), .reg [], .br (some false), .reg [], .br (some false), .reg [], .br (some false), .reg [], .br (some false), .reg [], .br (some false), .reg [], .br (some false), .reg [], .br (some true), .br (some true), .reg []]) (by kernel_rfl) (ob1 ho0 (ob1 ho1 (ob1 ho2 (ob1 ho3 (ob1 ho4 (ob1 ho5 (ob1 ho6 (ob1 ho7 (ob1 ho8 (ob1 ho9 (ob1 ho10 (ob1 ho11 (ob1 ho12 (ob1 ho13 (ob1 ho14 (ob1 ho15 (ob1 ho15 ob0))))))))))))))))) ca0)
-- entry: ret
theorem F46.p16 (c : Int) (ho0 : (c == 4) = false)
    (ho1 : (c == 12) = false)
    (ho2 : (c == 20) = false)
    (ho3 : (c == 28) = false)
    (ho4 : (c == 36) = false)
    (ho5 : (c == 44) = false)
    (ho6 : (c == 52) = false)
    (ho7 : (c == 60) = false)
    (ho8 : (c == 68) = false)
    (ho9 : (c == 76) = false)
    (ho10 : (c == 84) = false)
    (ho11 : (c == 92) = false)
    (ho12 : (c == 164) = false)
    (ho13 : (c == 172) = false)
    (ho14 : (c == 100) = false)
    (ho15 : (c == 108) = false)
    (ho16 : (c == 116) = true) :
    EvF Try.prog prim 46 [.v (.int .i64 c)] [] [] [.v (.bool true)] [] :=
  EvF.of Try.func46 (EvK.done (n := 123) (sc := [.reg [], .reg [], .reg [], .br (some false), .reg [], .br (some false), .reg [], .br (some false), .reg [], .br (some false), .reg [], .br (some false), .reg [], .br (some false), .reg [], .br (some false), .reg [], .br (some false), .reg [], .br (some false), .reg [], .br (some false), .reg [], .br (some false), .reg [], .br (some false), .reg [], .br (some false), .reg [], .br (some false), .reg [], .br (some false), .reg [], .br (some false), .reg [], .br (some true), .br (some true), .reg []]) (by kernel_rfl) (ob1 ho0 (ob1 ho1 (ob1 ho2 (ob1 ho3 (ob1 ho4 (ob1 ho5 (ob1 ho6 (ob1 ho7 (ob1 ho8 (ob1 ho9 (ob1 ho10 (ob1 ho11 (ob1 ho12 (ob1 ho13 (ob1 ho14 (ob1 ho15 (ob1 ho16 (ob1 ho16 ob0)))))))))))))))))) ca0)
-- entry: ret
theorem F46.p17 (c : Int) (ho0 : (c == 4) = false)
    (ho1 : (c == 12) = false)
    (ho2 : (c == 20) = false)
    (ho3 : (c == 28) = false)
    (ho4 : (c == 36) = false)
    (ho5 : (c == 44) = false)
    (ho6 : (c == 52) = false)
    (ho7 : (c == 60) = false)
    (ho8 : (c == 68) = false)
    (ho9 : (c == 76) = false)
    (ho10 : (c == 84) = false)
    (ho11 : (c == 92) = false)
    (ho12 : (c == 164) = false)
    (ho13 : (c == 172) = false)
    (ho14 : (c == 100) = false)
    (ho15 : (c == 108) = false)
    (ho16 : (c == 116) = false)
    (ho17 : (c == 124) = true) :
    EvF Try.prog prim 46 [.v (.int .i64 c)] [] [] [.v (.bool true)] [] :=
  EvF.of Try.func46 (EvK.done (n := 123) (sc := [.reg [], .reg [], .reg [], .br (some false), .reg [], .br (some false), .reg [], .br (some false), .reg [], .br (some false), .reg [], .br (some false), .reg [], .br (some false), .reg [], .br (some false), .reg [], .br (some false), .reg [], .br (some false), .reg [], .br (some false), .reg [], .br (some false), .reg [], .br (some false), .reg [], .br (some false), .reg [], .br (some false), .reg [], .br (some false), .reg [], .br (some false), .reg [], .br (some false), .reg [], .br (some true), .reg []]) (by kernel_rfl) (ob1 ho0 (ob1 ho1 (ob1 ho2 (ob1 ho3 (ob1 ho4 (ob1 ho5 (ob1 ho6 (ob1 ho7 (ob1 ho8 (ob1 ho9 (ob1 ho10 (ob1 ho11 (ob1 ho12 (ob1 ho13 (ob1 ho14 (ob1 ho15 (ob1 ho16 (ob1 ho17 ob0)))))))))))))))))) ca0)
-- entry: ret
theorem F46.p18 (c : Int) (ho0 : (c == 4) = false)
    (ho1 : (c == 12) = false)
    (ho2 : (c == 20) = false)
    (ho3 : (c == 28) = false)
    (ho4 : (c == 36) = false)
    (ho5 : (c == 44) = false)
    (ho6 : (c == 52) = false)
    (ho7 : (c == 60) = false)
    (ho8 : (c == 68) = false)
    (ho9 : (c == 76) = false)
    (ho10 : (c == 84) = false)
    (ho11 : (c == 92) = false)
    (ho12 : (c == 164) = false)
    (ho13 : (c == 172) = false)
    (ho14 : (c == 100) = false)
    (ho15 : (c == 108) = false)
    (ho16 : (c == 116) = false)
    (ho17 : (c == 124) = false) :
    EvF Try.prog prim 46 [.v (.int .i64 c)] [] [] [.v (.bool false)] [] :=
  EvF.of Try.func46 (EvK.done (n := 125) (sc := [.reg [], .reg [], .reg [], .br (some false), .reg [], .br (some false), .reg [], .br (some false), .reg [], .br (some false), .reg [], .br (some false), .reg [], .br (some false), .reg [], .br (some false), .reg [], .br (some false), .reg [], .br (some false), .reg [], .br (some false), .reg [], .br (some false), .reg [], .br (some false), .reg [], .br (some false), .reg [], .br (some false), .reg [], .br (some false), .reg [], .br (some false), .reg [], .br (some false), .reg [], .br (some false), .reg []]) (by kernel_rfl) (ob1 ho0 (ob1 ho1 (ob1 ho2 (ob1 ho3 (ob1 ho4 (ob1 ho5 (ob1 ho6 (ob1 ho7 (ob1 ho8 (ob1 ho9 (ob1 ho10 (ob1 ho11 (ob1 ho12 (ob1 ho13 (ob1 ho14 (ob1 ho15 (ob1 ho16 (ob1 ho17 ob0)))))))))))))))))) ca0)
/-! ### tipstaff/tipstaffref1.alu (function 47) -/
-- entry: ret
theorem F47.p0 (c a b : Int) (ho0 : (c == 4) = true) :
    EvF Try.prog prim 47 [.v (.int .i64 c), .v (.int .u32 a), .v (.int .u32 b)] [] [] [.v (.int .u32 (IntKind.u32.wrap (a + b)))] [] :=
  EvF.of Try.func47 (EvK.done (n := 75) (sc := [.reg [], .reg [], .reg [], .br (some true), .br (some true), .reg []]) (by kernel_rfl) (ob1 ho0 (ob1 ho0 ob0)) ca0)
-- entry: ret
theorem F47.p1 (c a b : Int) (ho0 : (c == 4) = false)
    (ho1 : (c == 12) = true) :
    EvF Try.prog prim 47 [.v (.int .i64 c), .v (.int .u32 a), .v (.int .u32 b)] [] [] [.v (.int .u32 (IntKind.u32.wrap (a + b)))] [] :=
  EvF.of Try.func47 (EvK.done (n := 75) (sc := [.reg [], .reg [], .reg [], .br (some false), .reg [], .br (some true), .reg []]) (by kernel_rfl) (ob1 ho0 (ob1 ho1 ob0)) ca0)
-- entry: ret
theorem F47.p2 (c a b : Int) (ho0 : (c == 4) = false)
    (ho1 : (c == 12) = false)
    (ho2 : (c == 20) = true) :
    EvF Try.prog prim 47 [.v (.int .i64 c), .v (.int .u32 a), .v (.int .u32 b)] [] [] [.v (.int .u32 (IntKind.u32.wrap (a - b)))] [] :=
  EvF.of Try.func47 (EvK.done (n := 81) (sc := [.reg [], .reg [], .reg [], .br (some false), .reg [], .br (some false), .reg [], .br (some true), .br (some true), .reg []]) (by kernel_rfl) (ob1 ho0 (ob1 ho1 (ob1 ho2 (ob1 ho2 ob0)))) ca0)
-- entry: ret
theorem F47.p3 (c a b : Int) (ho0 : (c == 4) = false)
    (ho1 : (c == 12) = false)
    (ho2 : (c == 20) = false)
    (ho3 : (c == 28) = true) :
    EvF Try.prog prim 47 [.v (.int .i64 c), .v (.int .u32 a), .v (.int .u32 b)] [] [] [.v (.int .u32 (IntKind.u32.wrap (a - b)))] [] :=
  EvF.of Try.func47 (EvK.done (n := 81) (sc := [.reg [], .reg [], .reg [], .br (some false), .reg [], .br (some false), .reg [], .br (some false), .reg [], .br (some true), .reg []]) (by kernel_rfl) (ob1 ho0 (ob1 ho1 (ob1 ho2 (ob1 ho3 ob0)))) ca0)
-- entry: ret
theorem F47.p4 (c a b : Int) (ho0 : (c == 4) = false)
    (ho1 : (c == 12) = false)
    (ho2 : (c == 20) = false)
    (ho3 : (c == 28) = false)
    (ho4 : (c == 36) = true) :
    EvF Try.prog prim 47 [.v (.int .i64 c), .v (.int .u32 a), .v (.int .u32 b)] [] [] [.v (.int .u32 (IntKind.u32.wrap (a * b)))] [] :=
  EvF.of Try.func47 (EvK.done (n := 87) (sc := [.reg [], .reg [], .reg [], .br (some false), .reg [], .br (some false), .reg [], .br (some false), .reg [], .br (some false), .reg [], .br (some true), .br (some true), .reg []]) (by kernel_rfl) (ob1 ho0 (ob1 ho1 (ob1 ho2 (ob1 ho3 (ob1 ho4 (ob1 ho4 ob0)))))) ca0)
-- entry: ret
theorem F47.p5 (c a b : Int) (ho0 : (c == 4) = false)
    (ho1 : (c == 12) = false)
    (ho2 : (c == 20) = false)
    (ho3 : (c == 28) = false)
    (ho4 : (c == 36) = false)
    (ho5 : (c == 44) = true) :
    EvF Try.prog prim 47 [.v (.int .i64 c), .v (.int .u32 a), .v (.int .u32 b)] [] [] [.v (.int .u32 (IntKind.u32.wrap (a * b)))] [] :=
  EvF.of Try.func47 (EvK.done (n := 87) (sc := [.reg [], .reg [], .reg [], .br (some false), .reg [], .br (some false), .reg [], .br (some false), .reg [], .br (some false), .reg [], .br (some false), .reg [], .br (some true), .reg []]) (by kernel_rfl) (ob1 ho0 (ob1 ho1 (ob1 ho2 (ob1 ho3 (ob1 ho4 (ob1 ho5 ob0)))))) ca0)
-- entry: ret
theorem F47.p6 (c a b : Int) (ho0 : (c == 4) = false)
    (ho1 : (c == 12) = false)
    (ho2 : (c == 20) = false)
    (ho3 : (c == 28) = false)
    (ho4 : (c == 36) = false)
    (ho5 : (c == 44) = false)
    (ho6 : (c == 52) = true)
    (ho7 : b ≠ 0) :
    EvF Try.prog prim 47 [.v (.int .i64 c), .v (.int .u32 a), .v (.int .u32 b)] [] [] [.v (.int .u32 (IntKind.u32.wrap (Int.tdiv a b)))] [] :=
  EvF.of Try.func47 (EvK.done (n := 93) (sc := [.reg [], .reg [], .reg [], .br (some false), .reg [], .br (some false), .reg [], .br (some false), .reg [], .br (some false), .reg [], .br (some false), .reg [], .br (some false), .reg [], .br (some true), .br (some true), .reg [{}, {}, ⟨.auto, .ob⟩]]) (by kernel_rfl) (ob1 ho0 (ob1 ho1 (ob1 ho2 (ob1 ho3 (ob1 ho4 (ob1 ho5 (ob1 ho6 (ob1 ho6 (ob1 ho7 ob0))))))))) ca0)
-- entry: ret
theorem F47.p7 (c a b : Int) (ho0 : (c == 4) = false)
    (ho1 : (c == 12) = false)
    (ho2 : (c == 20) = false)
    (ho3 : (c == 28) = false)
    (ho4 : (c == 36) = false)
    (ho5 : (c == 44) = false)
    (ho6 : (c == 52) = false)
    (ho7 : (c == 60) = true)
    (ho8 : b ≠ 0) :
    EvF Try.prog prim 47 [.v (.int .i64 c), .v (.int .u32 a), .v (.int .u32 b)] [] [] [.v (.int .u32 (IntKind.u32.wrap (Int.tdiv a b)))] [] :=
  EvF.of Try.func47 (EvK.done (n := 93) (sc := [.reg [], .reg [], .reg [], .br (some false), .reg [], .br (some false), .reg [], .br (some false), .reg [], .br (some false), .reg [], .br (some false), .reg [], .br (some false), .reg [], .br (some false), .reg [], .br (some true), .reg [{}, {}, ⟨.auto, .ob⟩]]) (by kernel_rfl) (ob1 ho0 (ob1 ho1 (ob1 ho2 (ob1 ho3 (ob1 ho4 (ob1 ho5 (ob1 ho6 (ob1 ho7 (ob1 ho8 ob0))))))))) ca0)
-- entry: ret
theorem F47.p8 (c a b : Int) (ho0 : (c == 4) = false)
    (ho1 : (c == 12) = false)
    (ho2 : (c == 20) = false)
    (ho3 : (c == 28) = false)
    (ho4 : (c == 36) = false)
    (ho5 : (c == 44) = false)
    (ho6 : (c == 52) = false)
    (ho7 : (c == 60) = false)
    (ho8 : (c == 68) = true) :
    EvF Try.prog prim 47 [.v (.int .i64 c), .v (.int .u32 a), .v (.int .u32 b)] [] [] [.v (.int .u32 (IntKind.u32.wrap ((BitVec.ofInt 32 a ||| BitVec.ofInt 32 b).toNat : Int)))] [] :=
  EvF.of Try.func47 (EvK.done (n := 99) (sc := [.reg [], .reg [], .reg [], .br (some false), .reg [], .br (some false), .reg [], .br (some false), .reg [], .br (some false), .reg [], .br (some false), .reg [], .br (some false), .reg [], .br (some false), .reg [], .br (some false), .reg [], .br (some true), .br (some true), .reg []]) (by kernel_rfl) (ob1 ho0 (ob1 ho1 (ob1 ho2 (ob1 ho3 (ob1 ho4 (ob1 ho5 (ob1 ho6 (ob1 ho7 (ob1 ho8 (ob1 ho8 ob0)))))))))) ca0)
-- entry: ret
theorem F47.p9 (c a b : Int) (ho0 : (c == 4) = false)
    (ho1 : (c == 12) = false)
    (ho2 : (c == 20) = false)
    (ho3 : (c == 28) = false)
    (ho4 : (c == 36) = false)
    (ho5 : (c == 44) = false)
    (ho6 : (c == 52) = false)
    (ho7 : (c == 60) = false)
    (ho8 : (c == 68) = false)
    (ho9 : (c == 76) = true) :
    EvF Try.prog prim 47 [.v (.int .i64 c), .v (.int .u32 a), .v (.int .u32 b)] [] [] [.v (.int .u32 (IntKind.u32.wrap ((BitVec.ofInt 32 a ||| BitVec.ofInt 32 b).toNat : Int)))] [] :=
  EvF.of Try.func47 (EvK.done (n := 99) (sc := [.reg [], .reg [], .reg [], .br (some false), .reg [], .br (some false), .reg [], .br (some false), .reg [], .br (some false), .reg [], .br (some false), .reg [], .br (some false), .reg [], .br (some false), .reg [], .br (some false), .reg [], .br (some false), .reg [], .br (some true), .reg []]) (by kernel_rfl) (ob1 ho0 (ob1 ho1 (ob1 ho2 (ob1 ho3 (ob1 ho4 (ob1 ho5 (ob1 ho6 (ob1 ho7 (ob1 ho8 (ob1 ho9 ob0)))))))))) ca0)
-- entry: ret
theorem F47.p10 (c a b : Int) (ho0 : (c == 4) = false)
    (ho1 : (c == 12) = false)
    (ho2 : (c == 20) = false)
    (ho3 : (c == 28) = false)
    (ho4 : (c == 36) = false)
    (ho5 : (c == 44) = false)
    (ho6 : (c == 52) = false)
    (ho7 : (c == 60) = false)
    (ho8 : (c == 68) = false)
    (ho9 : (c == 76) = false)
    (ho10 : (c == 84) = true) :
    EvF Try.prog prim 47 [.v (.int .i64 c), .v (.int .u32 a), .v (.int .u32 b)] [] [] [.v (.int .u32 (IntKind.u32.wrap ((BitVec.ofInt 32 a &&& BitVec.ofInt 32 b).toNat : Int)))] [] :=
  EvF.of Try.func47 (EvK.done (n := 105) (sc := [.reg [], .reg [], .reg [], .br (some false), .reg [], .br (some false), .reg [], .br (some false), .reg [], .br (some false), .reg [], .br (some false), .reg [], .br (some false), .reg [], .br (some false), .reg [], .br (some false), .reg [], .br (some false), .reg [], .br (some false), .reg [], .br (some true), .br (some true), .reg []]) (by kernel_rfl) (ob1 ho0 (ob1 ho1 (ob1 ho2 (ob1 ho3 (ob1 ho4 (ob1 ho5 (ob1 ho6 (ob1 ho7 (ob1 ho8 (ob1 ho9 (ob1 ho10 (ob1 ho10 ob0)))))))))))) ca0)
-- entry: ret
theorem F47.p11 (c a b : Int) (ho0 : (c == 4) = false)
    (ho1 : (c == 12) = false)
    (ho2 : (c == 20) = false)
    (ho3 : (c == 28) = false)
    (ho4 : (c == 36) = false)
    (ho5 : (c == 44) = false)
    (ho6 : (c == 52) = false)
    (ho7 : (c == 60) = false)
    (ho8 : (c == 68) = false)
    (ho9 : (c == 76) = false)
    (ho10 : (c == 84) = false)
    (ho11 : (c == 92) = true) :
    EvF Try.prog prim 47 [.v (.int .i64 c), .v (.int .u32 a), .v (.int .u32 b)] [] [] [.v (.int .u32 (IntKind.u32.wrap ((BitVec.ofInt 32 a &&& BitVec.ofInt 32 b).toNat : Int)))] [] :=
  EvF.of Try.func47 (EvK.done (n := 105) (sc := [.reg [], .reg [], .reg [], .br (some false), .reg [], .br (some false), .reg [], .br (some false), .reg [], .br (some false), .reg [], .br (some false), .reg [], .br (some false), .reg [], .br (some false), .reg [], .br (some false), .reg [], .br (some false), .reg [], .br (some false), .reg [], .br (some false), .reg [], .br (some true), .reg []]) (by kernel_rfl) (ob1 ho0 (ob1 ho1 (ob1 ho2 (ob1 ho3 (ob1 ho4 (ob1 ho5 (ob1 ho6 (ob1 ho7 (ob1 ho8 (ob1 ho9 (ob1 ho10 (ob1 ho11 ob0)))))))))))) ca0)
-- entry: ret
theorem F47.p12 (c a b : Int) (ho0 : (c == 4) = false)
    (ho1 : (c == 12) = false)
    (ho2 : (c == 20) = false)
    (ho3 : (c == 28) = false)
    (ho4 : (c == 36) = false)
    (ho5 : (c == 44) = false)
    (ho6 : (c == 52) = false)
    (ho7 : (c == 60) = false)
    (ho8 : (c == 68) = false)
    (ho9 : (c == 76) = false)
    (ho10 : (c == 84) = false)
    (ho11 : (c == 92) = false)
    (ho12 : (c == 164) = true) :
    EvF Try.prog prim 47 [.v (.int .i64 c), .v (.int .u32 a), .v (.int .u32 b)] [] [] [.v (.int .u32 (IntKind.u32.wrap ((BitVec.ofInt 32 a ^^^ BitVec.ofInt 32 b).toNat : Int)))] [] :=
  EvF.of Try.func47 (EvK.done (n := 111) (sc := [.reg [], .reg [], .reg [], .br (some false), .reg [], .br (some false), .reg [], .br (some false), .reg [], .br (some false), .reg [], .br (some false), .reg [], .br (some false), .reg [], .br (some false), .reg [], .br (some false), .reg [], .br (some false), .reg [], .br (some false), .reg [], .br (some false), .reg [], .br (some false), .reg [], .br (some true), .br (some true), .reg []]) (by kernel_rfl) (ob1 ho0 (ob1 ho1 (ob1 ho2 (ob1 ho3 (ob1 ho4 (ob1 ho5 (ob1 ho6 (ob1 ho7 (ob1 ho8 (ob1 ho9 (ob1 ho10 (ob1 ho11 (ob1 ho12 (ob1 ho12 ob0)))))))))))))) ca0)
-- entry: ret
theorem F47.p13 (c a b : Int) (ho0 : (c == 4) = false)
    (ho1 : (c == 12) = false)
    (ho2 : (c == 20) = false)
    (ho3 : (c == 28) = false)
    (ho4 : (c == 36) = false)
    (ho5 : (c == 44) = false)
    (ho6 : (c == 52) = false)
    (ho7 : (c == 60) = false)
    (ho8 : (c == 68) = false)
    (ho9 : (c == 76) = false)
    (ho10 : (c == 84) = false)
    (ho11 : (c == 92) = false)
    (ho12 : (c == 164) = false)
    (ho13 : (c == 172) = true) :
    EvF Try.prog prim 47 [.v (.int .i64 c), .v (.int .u32 a), .v (.int .u32 b)] [] [] [.v (.int .u32 (IntKind.u32.wrap ((BitVec.ofInt 32 a ^^^ BitVec.ofInt 32 b).toNat : Int)))] [] :=
  EvF.of Try.func47 (EvK.done (n := 111) (sc := [.reg [], .reg [], .reg [], .br (some false), .reg [], .br (some false), .reg [], .br (some false), .reg [], .br (some false), .reg [], .br (some false), .reg [], .br (some false), .reg [], .br (some false), .reg [], .br (some false), .reg [], .br (some false), .reg [], .br (some false), .reg [], .br (some false), .reg [], .br (some false), .reg [], .br (some false), .reg [], .br (some true), .reg []]) (by kernel_rfl) (ob1 ho0 (ob1 ho1 (ob1 ho2 (ob1 ho3 (ob1 ho4 (ob1 ho5 (ob1 ho6 (ob1 ho7 (ob1 ho8 (ob1 ho9 (ob1 ho10 (ob1 ho11 (ob1 ho12 (ob1 ho13 ob0)))))))))))))) ca0)
-- entry: ret
theorem F47.p14 (c a b : Int) (ho0 : (c == 4) = false)
    (ho1 : (c == 12) = false)
    (ho2 : (c == 20) = false)
    (ho3 : (c == 28) = false)
    (ho4 : (c == 36) = false)
    (ho5 : (c == 44) = false)
    (ho6 : (c == 52) = false)
    (ho7 : (c == 60) = false)
    (ho8 : (c == 68) = false)
    (ho9 : (c == 76) = false)
    (ho10 : (c == 84) = false)
    (ho11 : (c == 92) = false)
    (ho12 : (c == 164) = false)
    (ho13 : (c == 172) = false)
    (ho14 : (c == 100) = true)
    (ho15 : (0 : Int) ≤ (Int.tmod b 32)) :
    EvF Try.prog prim 47 [.v (.int .i64 c), .v (.int .u32 a), .v (.int .u32 b)] [] [] [.v (.int .u32 (IntKind.u32.wrap (a * 2 ^ (min (Int.toNat (Int.tmod b 32)) (IntKind.bits .u32)))))] [] :=
  EvF.of Try.func47 (EvK.done (n := 117) (sc := [.reg [], .reg [], .reg [], .br (some false), .reg [], .br (some false), .reg [], .br (some false), .reg [], .br (some false), .reg [], .br (some false), .reg [], .br (some false), .reg [], .br (some false), .reg [], .br (some false), .reg [], .br (some false), .reg [], .br (some false), .reg [], .br (some false), .reg [], .br (some false), .reg [], .br (some false), .reg [], .br (some false), .reg [], .br (some true), .br (some true), .reg [{}, {}, {}, ⟨.auto, .ob⟩]]) (by kernel_rfl) (ob1 ho0 (ob1 ho1 (ob1 ho2 (ob1 ho3 (ob1 ho4 (ob1 ho5 (ob1 ho6 (ob1 ho7 (ob1 ho8 (ob1 ho9 (ob1 ho10 (ob1 ho11 (ob1 ho12 (ob1 ho13 (ob1 ho14 (ob1 ho14 (ob1 ho15 ob0))))))))))))))))) ca0)
-- entry: ret
theorem F47.p15 (c a b : Int) (ho0 : (c == 4) = false)
    (ho1 : (c == 12) = false)
    (ho2 : (c == 20) = false)
    (ho3 : (c == 28) = false)
    (ho4 : (c == 36) = false)
    (ho5 : (c == 44) = false)
    (ho6 : (c == 52) = false)
    (ho7 : (c == 60) = false)
    (ho8 : (c == 68) = false)
    (ho9 : (c == 76) = false)
    (ho10 : (c == 84) = false)
    (ho11 : (c == 92) = false)
    (ho12 : (c == 164) = false)
    (ho13 : (c == 172) = false)
    (ho14 : (c == 100) = false)
    (ho15 : (c == 108) = true)
    (ho16 : (0 : Int) ≤ (Int.tmod b 32)) :
    EvF Try.prog prim 47 [.v (.int .i64 c), .v (.int .u32 a), .v (.int .u32 b)] [] [] [.v (.int .u32 (IntKind.u32.wrap (a * 2 ^ (min (Int.toNat (Int.tmod b 32)) (IntKind.bits .u32)))))] [] :=
  EvF.of Try.func47 (EvK.done (n := 117) (sc := [.reg [], .reg [], .reg [], .br (some false), .reg [], .br (some false), .reg [], .br (some false), .reg [], .br (some false), .reg [], .br (some false), .reg [], .br (some false), .reg [], .br (some false), .reg [], .br (some false), .reg [], .br (some false), .reg [], .br (some false), .reg [], .br (some false), .reg [], .br (some false), .reg [], .br (some false), .reg [], .br (some false), .reg [], .br (some false), .reg [], .br (some true), .reg [{}, {}, {}, ⟨.auto, .ob⟩]]) (by kernel_rfl) (ob1 ho0 (ob1 ho1 (ob1 ho2 (ob1 ho3 (ob1 ho4 (ob1 ho5 (ob1 ho6 (ob1 ho7 (ob1 ho8 (ob1 ho9 (ob1 ho10 (ob1 ho11 (ob1 ho12 (ob1 ho13 (ob1 ho14 (ob1 ho15 (ob1 ho16 ob0))))))))))))))))) ca0)
-- entry: ret
theorem F47.p16 (c a b : Int) (ho0 : (c == 4) = false)
    (ho1 : (c == 12) = false)
    (ho2 : (c == 20) = false)
    (ho3 : (c == 28) = false)
    (ho4 : (c == 36) = false)
    (ho5 : (c == 44) = false)
    (ho6 : (c == 52) = false)
    (ho7 : (c == 60) = false)
    (ho8 : (c == 68) = false)
    (ho9 : (c == 76) = false)
    (ho10 : (c == 84) = false)
    (ho11 : (c == 92) = false)
    (ho12 : (c == 164) = false)
    (ho13 : (c == 172) = false)
    (ho14 : (c == 100) = false)
    (ho15 : (c == 108) = false)
    (ho16 : (0 : Int) ≤ (Int.tmod b 32)) :
    EvF Try.prog prim 47 [.v (.int .i64 c), .v (.int .u32 a), .v (.int .u32 b)] [] [] [.v (.int .u32 (Int.fdiv a (2 ^ (min (Int.toNat (Int.tmod b 32)) (IntKind.bits .u32)))))] [] :=
  EvF.of Try.func47 (EvK.done (n := 119) (sc := [.reg [], .reg [], .reg [], .br (some false), .reg [], .br (some false), .reg [], .br (some false), .reg [], .br (some false), .reg [], .br (some false), .reg [], .br (some false), .reg [], .br (some false), .reg [], .br (some false), .reg [], .br (some false), .reg [], .br (some false), .reg [], .br (some false), .reg [], .br (some false), .reg [], .br (some false), .reg [], .br (some false), .reg [], .br (some false), .reg [], .br (some false), .reg [{}, {}, {}, ⟨.auto, .ob⟩]]) (by kernel_rfl) (ob1 ho0 (ob1 ho1 (ob1 ho2 (ob1 ho3 (ob1 ho4 (ob1 ho5 (ob1 ho6 (ob1 ho7 (ob1 ho8 (ob1 ho9 (ob1 ho10 (ob1 ho11 (ob1 ho12 (ob1 ho13 (ob1 ho14 (ob1 ho15 (ob1 ho16 ob0))))))))))))))))) ca0)
end Go.Ab.S3
