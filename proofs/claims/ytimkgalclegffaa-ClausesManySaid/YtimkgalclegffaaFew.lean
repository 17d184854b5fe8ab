/-
How great a condition is, as chapter 17's laws count it.
-/
import Derived.Test.YtimkgalclegffaaCond
import Derived.Test.YtimkgalclegffaaFA
namespace Go.Ab.S1
open Go Go.Proofs Go.Ab

mutual
def csize : Co → Int → Int
  | .mk _ _ _ _ _ l, d => if d > 60 then 1000 else csizes l d 1
def csizes : List Co → Int → Int → Int
  | [], _, n => n
  | c :: l, d, n => if n < 1000 then csizes l d (n + csize c (d + 1)) else n
end

mutual
theorem csize_bound : ∀ (c : Co) (d : Int), d ≤ 61 → 1 ≤ csize c d ∧ csize c d ≤ 1000 * (62 - d)
  | .mk k a o m v l, d, hd => by
    unfold csize
    split
    · omega
    · have := csizes_bound l d 1 (by omega) (by omega)
      omega
theorem csizes_bound : ∀ (l : List Co) (d n : Int), d ≤ 60 → 1 ≤ n → n ≤ csizes l d n ∧ (csizes l d n ≤ n ∨ csizes l d n ≤ 999 + 1000 * (61 - d))
  | [], d, n, hd, hn => by simp [csizes]
  | c :: l, d, n, hd, hn => by
    unfold csizes
    split
    · have h1 := csize_bound c (d + 1) (by omega)
      have h2 := csizes_bound l d (n + csize c (d + 1)) hd (by omega)
      omega
    · omega
end

theorem drop_get {α : Type} {L : List α} {i : Nat} {c : α} {l : List α} (h : L.drop i = c :: l) : L[i]? = some c ∧ L.drop (i + 1) = l ∧ i < L.length := by
  have h1 : (L.drop i)[0]? = some c := by rw [h]; rfl
  rw [List.getElem?_drop] at h1
  have h1 : L[i]? = some c := by simpa using h1
  refine ⟨h1, ?_, (List.getElem?_eq_some_iff.1 h1).1⟩
  rw [← List.drop_drop, h]
  rfl

theorem drop_end {α : Type} {L : List α} {i : Nat} (hi : i ≤ L.length) (h : L.drop i = []) : i = L.length := by
  have := congrArg List.length h
  simp at this
  omega

theorem in64 {n : Int} (h : -9223372036854775808 ≤ n) (h' : n ≤ 9223372036854775807) : inR .i64 n := ⟨by simpa [IntKind.min, IntKind.signed, IntKind.bits] using h, by simpa [IntKind.max, IntKind.signed, IntKind.bits] using h'⟩

mutual
theorem size_ev : ∀ (c : Co) (d : Int), c.ok → 0 ≤ d → d ≤ 61 → EvF Try.prog prim 33 [.agg c.row, .v (.int .i64 d)] [] [] [.v (.int .i64 (csize c d))] []
  | .mk k a o m v l, d, h, h0, hd => by
    simp only [Co.ok] at h
    unfold csize
    split
    · exact F33.p0 k a o m v (rows l) d (by simpa using ‹d > 60›)
    · exact F33.p1 k a o m v (rows l) d (by simpa using ‹¬ d > 60›) (size_loop l k a o m v l 0 d 1 (by simp) (by omega) h.2.2.2.2.2.1 h.2.2.2.2.2.2 h0 (by omega) (by omega) (by omega))
theorem size_loop : ∀ (l : List Co) (k a o m v : Int) (L : List Co) (i : Nat) (d n : Int), L.drop i = l → i ≤ L.length → L.length < 2 ^ 63 → oks l → 0 ≤ d → d ≤ 60 → 1 ≤ n → n ≤ 1000000 →
    EvK Try.prog prim Try.f33 (loopAt Try.f33 0) (F33.h0 k a o m v (rows L) d n i) [.v (.int .i64 (csizes l d n))] []
  | [], k, a, o, m, v, L, i, d, n, hl, hi, hL, hk, h0, hd, hn, hn' => by
    have := drop_end hi hl
    exact F33.l0_3 k a o m v (rows L) d n i (by rw [rows_len]; simp; omega)
  | c :: l, k, a, o, m, v, L, i, d, n, hl, hi, hL, hk, h0, hd, hn, hn' => by
    obtain ⟨hc, hl', hlt⟩ := drop_get hl
    obtain ⟨hck, hlk⟩ := hk
    unfold csizes
    split
    · rename_i hlt'
      have hb := csize_bound c (d + 1) (by omega)
      cases c with
      | mk k' a' o' m' v' l' =>
        refine F33.l0_2 k a o m v (rows L) d n i k' a' o' m' v' (rows l') (csize (.mk k' a' o' m' v' l') (d + 1)) (by rw [rows_len]; simp; omega) (by omega) (by simpa [Co.row] using rows_get hc) (in64 (by omega) (by omega)) (in64 (by omega) (by omega)) (in64 (by omega) (by omega)) (size_ev _ _ hck (by omega) (by omega)) ?_
        exact size_loop l k a o m v L (i + 1) d _ hl' (by omega) hL hlk h0 hd (by omega) (by omega)
    · exact F33.l0_3 k a o m v (rows L) d n i (by rw [rows_len]; simp; omega)
end

end Go.Ab.S1
