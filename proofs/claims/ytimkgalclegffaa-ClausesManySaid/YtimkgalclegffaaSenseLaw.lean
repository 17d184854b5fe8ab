/-
The laws of chapter 17.
-/
import Derived.Test.YtimkgalclegffaaSense
import Derived.Test.YtimkgalclegffaaFA
namespace Go.Ab.S1
open Go Go.Proofs Go.Ab

theorem inU {n : Int} (h : 0 ≤ n) (h' : n ≤ 18446744073709551615) : inR .u64 n := ⟨by simpa [IntKind.min, IntKind.signed, IntKind.bits] using h, by simpa [IntKind.max, IntKind.signed, IntKind.bits] using h'⟩

theorem six_isSix {p : List PV} (h : isSix p) : ∃ x : Six, p = x.pv := by
  obtain ⟨l, hl, -, rfl⟩ := h
  match l, hl with
  | [a, b, c, d, e, f], _ => exact ⟨⟨a, b, c, d, e, f⟩, rfl⟩

def atomCo (k a o m v : Int) (hk : -9223372036854775808 ≤ k ∧ k ≤ 9223372036854775807) : Co := .mk k a o m v []

theorem leaf_ok {k a o m v : Int} (hk : -9223372036854775808 ≤ k ∧ k ≤ 9223372036854775807) (ha : -9223372036854775808 ≤ a ∧ a ≤ 9223372036854775807) (ho : -9223372036854775808 ≤ o ∧ o ≤ 9223372036854775807)
    (hm : 0 ≤ m ∧ m ≤ 18446744073709551615) (hv : 0 ≤ v ∧ v ≤ 18446744073709551615) {l : List Co} (hl : l.length < 2 ^ 63) (hs : oks l) : (Co.mk k a o m v l).ok :=
  ⟨in64 hk.1 hk.2, in64 ha.1 ha.2, in64 ho.1 ho.2, inU hm.1 hm.2, inU hv.1 hv.2, hl, hs⟩

theorem alive17 : EvF Try.prog prim 20 [] [] [] [.v (.bool true)] [] := by
  have t : (Co.mk 1 0 0 0 0 []).ok := leaf_ok (by omega) (by omega) (by omega) (by omega) (by omega) (by decide) trivial
  have c : (Co.mk 5 0 1 18446744073709551615 3 []).ok := leaf_ok (by omega) (by omega) (by omega) (by omega) (by omega) (by decide) trivial
  have h0 := sense_holds ⟨0, 0, 0, 0, 0, 0⟩ _ t
  have h1 := sense_holds ⟨0, 0, 0, 0, 0, 0⟩ _ c
  have h2 := sense_holds ⟨3, 0, 0, 0, 0, 0⟩ _ c
  have h3 := ssize_ev _ c (by decide)
  have h4 := sright_ev _ c
  have e0 : holds ⟨0, 0, 0, 0, 0, 0⟩ (.mk 1 0 0 0 0 []) = true := by decide +kernel
  have e1 : holds ⟨0, 0, 0, 0, 0, 0⟩ (.mk 5 0 1 18446744073709551615 3 []) = false := by decide +kernel
  have e2 : holds ⟨3, 0, 0, 0, 0, 0⟩ (.mk 5 0 1 18446744073709551615 3 []) = true := by decide +kernel
  have e3 : nodes (.mk 5 0 1 18446744073709551615 3 []) = 1 := by decide +kernel
  have e4 : right (.mk 5 0 1 18446744073709551615 3 []) = true := by decide +kernel
  rw [e0] at h0
  rw [e1] at h1
  rw [e2] at h2
  rw [e3] at h3
  rw [e4] at h4
  exact F20.p0 true false true 1 true h0 (fun _ => h1) (fun _ => h2) (fun _ => h3) (fun _ => h4)

theorem senseTells (c : Co) (x : Six) (h : c.ok) : EvF Try.prog prim 6 [.agg c.row, .agg x.pv] [] [] [.v (.bool true)] [] := by
  have hf := few_ev c h
  have r1 := sright_ev c h
  have r2 := right_ev c h
  have g1 := sense_holds x c h
  have g2 := ref_holds x c h
  cases hb : few c with
  | false =>
    rw [hb] at hf
    cases c with
    | mk k a o m v l => exact F6.p0 k a o m v (rows l) x.a0 x.a1 x.a2 x.a3 x.a4 x.a5 true false rfl alive17 fun _ => hf
  | true =>
    rw [hb] at hf
    have hn : nodes c ≤ 1000 := by
      have h1 : csize c 0 ≤ 200 := by simpa [few] using hb
      have := few_nodes c 0 (by omega)
      omega
    have s1 := ssize_ev c h hn
    have s2 := rsize_ev c h hn
    generalize right c = r at r1 r2
    generalize holds x c = g at g1 g2
    generalize nodes c = n at s1 s2
    cases c with
    | mk k a o m v l =>
      have := F6.p1 k a o m v (rows l) x.a0 x.a1 x.a2 x.a3 x.a4 x.a5 true true r r g g n n rfl alive17 (fun _ => hf) r1 r2 (fun _ => g1) (fun _ => g2) (fun _ => s1) (fun _ => s2)
      have e : (bif (bif (r == r) then (g == g) else false) then (n == n) else false) = true := by simp
      rw [e] at this
      exact this

theorem senseLaws (a b : Co) (x : Six) (ha : a.ok) (hb : b.ok) : EvF Try.prog prim 7 [.agg a.row, .agg b.row, .agg x.pv] [] [] [.v (.bool true)] [] := by
  have fa := few_ev a ha
  have fb := few_ev b hb
  have ra := right_ev a ha
  have rb := right_ev b hb
  have z : ∀ k : Int, 2 ≤ k → k ≤ 4 → ∀ l : List Co, l.length < 2 ^ 63 → oks l → (Co.mk k 0 0 0 0 l).ok := fun k h1 h2 l hl hs => leaf_ok (by omega) (by omega) (by omega) (by omega) (by omega) hl hs
  have g0 := sense_holds x a ha
  have g1 := sense_holds x b hb
  have g2 := sense_holds x _ (z 2 (by omega) (by omega) [a] (by simp) ⟨ha, trivial⟩)
  have g3 := sense_holds x _ (z 3 (by omega) (by omega) [a, b] (by simp) ⟨ha, hb, trivial⟩)
  have g4 := sense_holds x _ (z 4 (by omega) (by omega) [a, b] (by simp) ⟨ha, hb, trivial⟩)
  have g5 := sense_holds x _ (z 3 (by omega) (by omega) [] (by simp) trivial)
  have g6 := sense_holds x _ (z 4 (by omega) (by omega) [] (by simp) trivial)
  have e5 : holds x (.mk 3 0 0 0 0 []) = true := by simp [holds, right, plainB, zeroB, rights, hold, holdA]
  have e6 : holds x (.mk 4 0 0 0 0 []) = false := by simp [holds, right, plainB, zeroB, rights, hold, holdO]
  rw [e5] at g5
  rw [e6] at g6
  by_cases hall : (bif (bif (bif (bif (!true) then true else (!few a)) then true else (!few b)) then true else (!right a)) then true else (!right b)) = true
  · cases a with
    | mk k1 a1 o1 m1 v1 l1 => cases b with
      | mk k2 a2 o2 m2 v2 l2 => exact F7.p0 k1 a1 o1 m1 v1 (rows l1) k2 a2 o2 m2 v2 (rows l2) x.a0 x.a1 x.a2 x.a3 x.a4 x.a5 true _ _ _ _ hall alive17 (fun _ => fa) (fun _ => fb) (fun _ => ra) (fun _ => rb)
  · have hall : (bif (bif (bif (bif (!true) then true else (!few a)) then true else (!few b)) then true else (!right a)) then true else (!right b)) = false := by simpa using hall
    have hra : right a = true := by cases h1 : few a <;> cases h2 : few b <;> cases h3 : right a <;> simp_all
    have hrb : right b = true := by cases h1 : few a <;> cases h2 : few b <;> cases h3 : right b <;> simp_all
    have e0 : holds x a = hold x a := by simp [holds, hra]
    have e1 : holds x b = hold x b := by simp [holds, hrb]
    have e2 : holds x (.mk 2 0 0 0 0 [a]) = !(hold x a) := by simp [holds, right, plainB, zeroB, rights, hra, hold, holdN]
    have e3 : holds x (.mk 3 0 0 0 0 [a, b]) = (hold x a && hold x b) := by simp [holds, right, plainB, zeroB, rights, hra, hrb, hold, holdA]
    have e4 : holds x (.mk 4 0 0 0 0 [a, b]) = (hold x a || hold x b) := by simp [holds, right, plainB, zeroB, rights, hra, hrb, hold, holdO]
    rw [e0] at g0
    rw [e1] at g1
    rw [e2] at g2
    rw [e3] at g3
    rw [e4] at g4
    generalize hold x a = p at g0 g2 g3 g4
    generalize hold x b = q at g1 g3 g4
    cases a with
    | mk k1 a1 o1 m1 v1 l1 => cases b with
      | mk k2 a2 o2 m2 v2 l2 =>
        have := F7.p1 k1 a1 o1 m1 v1 (rows l1) k2 a2 o2 m2 v2 (rows l2) x.a0 x.a1 x.a2 x.a3 x.a4 x.a5 true _ _ _ _ p q _ _ _ _ _ hall alive17 (fun _ => fa) (fun _ => fb) (fun _ => ra) (fun _ => rb) g0 g1 g2 (fun _ => g3) (fun _ => g4) (fun _ => g5) (fun _ => g6)
        cases p <;> cases q <;> exact this

end Go.Ab.S1
