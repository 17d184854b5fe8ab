/-
The functions whose meaning is given by hand; boxes that hold plain values.
-/
import Derived.Test.YtgjceiomfccbbaaAb
import Derived.Test.YtgjceiomfccbbaaProg
namespace Go.Ab.S3
open Go
def prim : FuncId → List AV → List AV → Prop := fun _ _ _ => False

/-- A machine's cells; those of the document's; data's. -/
abbrev MB (a x c0 c1 c2 c3 c4 c5 c6 c7 c8 c9 c10 c11 c12 c13 c14 c15 pc d0 d1 d2 d3 d4 d5 d6 d7 d8 : Int) : List AV :=
  [.v (.int .u32 a), .v (.int .u32 x), .v (.int .u32 c0), .v (.int .u32 c1), .v (.int .u32 c2), .v (.int .u32 c3), .v (.int .u32 c4), .v (.int .u32 c5), .v (.int .u32 c6), .v (.int .u32 c7), .v (.int .u32 c8), .v (.int .u32 c9), .v (.int .u32 c10), .v (.int .u32 c11), .v (.int .u32 c12), .v (.int .u32 c13), .v (.int .u32 c14), .v (.int .u32 c15), .v (.int .i64 pc), .v (.int .u32 d0), .v (.int .u32 d1), .v (.int .u64 d2), .v (.int .u64 d3), .v (.int .u64 d4), .v (.int .u64 d5), .v (.int .u64 d6), .v (.int .u64 d7), .v (.int .u64 d8)]
abbrev RB (A X c0 c1 c2 c3 c4 c5 c6 c7 c8 c9 c10 c11 c12 c13 c14 c15 : Int) : List AV :=
  [.v (.int .u32 A), .v (.int .u32 X), .v (.int .u32 c0), .v (.int .u32 c1), .v (.int .u32 c2), .v (.int .u32 c3), .v (.int .u32 c4), .v (.int .u32 c5), .v (.int .u32 c6), .v (.int .u32 c7), .v (.int .u32 c8), .v (.int .u32 c9), .v (.int .u32 c10), .v (.int .u32 c11), .v (.int .u32 c12), .v (.int .u32 c13), .v (.int .u32 c14), .v (.int .u32 c15)]
abbrev DA (d0 d1 d2 d3 d4 d5 d6 d7 d8 : Int) : List PV :=
  [.int .u32 d0, .int .u32 d1, .int .u64 d2, .int .u64 d3, .int .u64 d4, .int .u64 d5, .int .u64 d6, .int .u64 d7, .int .u64 d8]

def plainAV : AV → Bool
  | .v _ => true
  | _ => false

theorem lowS_set {H : List (List AV)} {b : Nat} {cs : List AV} (h : cs.all plainAV = true) : LowS H (H.set b cs) := by
  intro c hc
  rcases List.mem_or_eq_of_mem_set hc with hm | rfl
  · exact .inl hm
  · refine .inr fun a ha p hp => ?_
    have := List.all_eq_true.1 h a ha
    cases a with
    | v q => simp [AV.low] at hp
    | _ => simp [plainAV] at this
end Go.Ab.S3
