/-
The numbers of package api are what the document says.
-/
import Derived.Test.YtimkgalclegffaaF42
import Derived.Test.YtimkgalclegffaaF25
import Derived.Test.YtimkgalclegffaaF26
import Derived.Test.YtimkgalclegffaaF27
import Derived.Test.YtimkgalclegffaaF28
import Derived.Test.YtimkgalclegffaaF8
namespace Go.Ab.S1
open Go Go.Proofs Go.Ab

def pairs (l : List Int) : List (List PV) := l.map fun n => [.int .i64 n, .int .i64 n]

theorem are_loop (l : List Int) (hl : l.length ≤ 1000) : ∀ (k i : Nat), i + k = l.length → EvK Try.prog prim Try.f42 (loopAt Try.f42 0) (F42.h0 (pairs l) i) [.v (.bool true)] []
  | 0, i, h => F42.l0_3 (pairs l) i (by simp [pairs]; omega)
  | k + 1, i, h => by
    have hi : i < l.length := by omega
    refine F42.l0_2 (pairs l) i l[i] l[i] (by simp [pairs]; omega) (by omega) ?_ (by simp) ⟨by simp [IntKind.min, IntKind.signed, IntKind.bits]; omega, by simp [IntKind.max, IntKind.signed, IntKind.bits]; omega⟩ ?_
    · simp [pairs, List.getElem?_eq_getElem hi]
    · have := are_loop l hl k (i + 1) (by omega)
      simpa using this

theorem are_ok (l : List Int) (hl : l.length ≤ 1000) : EvF Try.prog prim 42 [.v (.sl (pairs l))] [] [] [.v (.bool true)] [] :=
  F42.p0 (pairs l) (are_loop l hl l.length 0 (by omega))

theorem topNames : EvF Try.prog prim 8 [] [] [] [.v (.bool true)] [] :=
  F8.p0 true true true true
    (F25.p0 true (are_ok [0, 1, 2, 3, 4, 5, 6, 7, 8, 9, 10, 11, 8, 30, 256, 4096, 20000, 16, 0, 1, 2, 3, 4] (by decide)))
    (fun _ => F26.p0 true (are_ok [5, 6, 7, 12, 20, 21, 22, 28, 29, 32, 36, 37, 44, 45, 52, 53, 60, 61, 68, 69, 76, 77, 84] (by decide)))
    (fun _ => F27.p0 true (are_ok [92, 96, 97, 100, 108, 116, 124, 128, 129, 132, 135, 164, 172, 1, 2, 3, 4, 5, 6, 7, 1, 2, 3] (by decide)))
    (fun _ => F28.p0 true (are_ok [4, 5, 1, 2, 3, 4, 5, 6, 7, 8, 1, 2, 3, 4, 5, 6, 1, 2, 3, 4, 5] (by decide)))

end Go.Ab.S1
