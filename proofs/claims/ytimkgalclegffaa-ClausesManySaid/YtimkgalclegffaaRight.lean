/-
Which conditions may be: both answers.
-/
import Derived.Test.YtimkgalclegffaaFew
import Derived.Test.YtimkgalclegffaaFA
namespace Go.Ab.S1
open Go Go.Proofs Go.Ab

def mayB (a o : Int) : Bool := bif (bif (bif (decide (a ≥ 0)) then (decide (a ≤ 5)) else false) then (decide (o ≥ 1)) else false) then (decide (o ≤ 6)) else false
def zeroB (a o m v : Int) : Bool := (a == 0) && ((o == 0) && ((m == 0) && ((v == 0) && true)))

/-- but for the kids -/
def plainB (k a o m v : Int) (n : Nat) : Bool :=
  if k = 5 then mayB a o && (n : Int) == 0 else if k = 1 then (n : Int) == 0 && zeroB a o m v else if k = 2 then (n : Int) == 1 && zeroB a o m v else if k = 3 then zeroB a o m v else if k = 4 then zeroB a o m v else false

mutual
def right : Co → Bool
  | .mk k a o m v l => plainB k a o m v l.length && rights l
def rights : List Co → Bool
  | [] => true
  | c :: l => right c && rights l
end

theorem bad_eq {k a o m v : Int} {n : Nat} (h : (k == 5) = false) :
    (bif (bif (bif (bif (!(zeroB a o m v)) then true else (decide (k < 1))) then true else (decide (k > 4))) then true else (bif (k == 1) then (decide ((n : Int) > 0)) else false)) then true else (bif (k == 2) then ((n : Int) != 1) else false)) = !plainB k a o m v n := by
  have h5 : k ≠ 5 := by simpa using h
  unfold plainB
  rw [if_neg h5]
  by_cases h1 : k = 1
  · subst h1
    have pos : (decide ((n : Int) > 0)) = !((n : Int) == 0) := by
      cases n with
      | zero => rfl
      | succ n => simp; omega
    rw [pos]
    cases zeroB a o m v <;> cases ((n : Int) == 0) <;> rfl
  · rw [if_neg h1]
    by_cases h2 : k = 2
    · subst h2
      have ne : ((n : Int) != 1) = !((n : Int) == 1) := rfl
      rw [ne]
      cases zeroB a o m v <;> cases ((n : Int) == 1) <;> rfl
    · rw [if_neg h2]
      by_cases h3 : k = 3
      · subst h3
        cases zeroB a o m v <;> simp
      · rw [if_neg h3]
        by_cases h4 : k = 4
        · subst h4
          cases zeroB a o m v <;> simp
        · rw [if_neg h4]
          have : k < 1 ∨ k > 4 := by omega
          rcases this with h | h <;> cases zeroB a o m v <;> simp [h]

mutual
theorem right_ev : ∀ (c : Co), c.ok → EvF Try.prog prim 18 [.agg c.row] [] [] [.v (.bool (right c))] []
  | .mk k a o m v l, h => by
    simp only [Co.ok] at h
    by_cases h5 : k = 5
    · subst h5
      have := F18.p0 5 a o m v (rows l) (mayB a o) rfl (F36.p0 a o m v)
      have e : right (.mk 5 a o m v l) = (bif mayB a o then (((rows l).length : Int) == 0) else false) := by
        simp only [right, plainB, if_true, rows_len]
        cases l with
        | nil => cases mayB a o <;> rfl
        | cons c l => cases mayB a o <;> simp <;> (first | rfl | omega)
      rw [e]
      exact this
    · have h5' : (k == 5) = false := by simpa using h5
      cases hp : plainB k a o m v l.length with
      | false =>
        have e : right (.mk k a o m v l) = false := by simp [right, hp]
        rw [e]
        exact F18.p1 k a o m v (rows l) h5' (by rw [rows_len]; exact (bad_eq h5').trans (by rw [hp]; rfl))
      | true =>
        have e : right (.mk k a o m v l) = rights l := by simp [right, hp]
        rw [e]
        exact F18.p2 k a o m v (rows l) h5' (by rw [rows_len]; exact (bad_eq h5').trans (by rw [hp]; rfl)) (right_loop l k a o m v l 0 (by simp) (by omega) h.2.2.2.2.2.1 h.2.2.2.2.2.2)
theorem right_loop : ∀ (l : List Co) (k a o m v : Int) (L : List Co) (i : Nat), L.drop i = l → i ≤ L.length → L.length < 2 ^ 63 → oks l →
    EvK Try.prog prim Try.f18 (loopAt Try.f18 0) (F18.h0 k a o m v (rows L) i) [.v (.bool (rights l))] []
  | [], k, a, o, m, v, L, i, hl, hi, hL, hk => by
    have := drop_end hi hl
    exact F18.l0_5 k a o m v (rows L) i (by rw [rows_len]; simp; omega)
  | c :: l, k, a, o, m, v, L, i, hl, hi, hL, hk => by
    obtain ⟨hc, hl', hlt⟩ := drop_get hl
    obtain ⟨hck, hlk⟩ := hk
    have hev := right_ev c hck
    have hrec := right_loop l k a o m v L (i + 1) hl' (by omega) hL hlk
    have hget := rows_get hc
    cases c with
    | mk k' a' o' m' v' l' =>
      cases hr : right (.mk k' a' o' m' v' l') with
      | false =>
        simp only [rights, hr, Bool.false_and]
        exact F18.l0_3 k a o m v (rows L) i k' a' o' m' v' (rows l') false (by rw [rows_len]; simp; omega) (by omega) (by simpa [Co.row] using hget) rfl (hr ▸ hev)
      | true =>
        simp only [rights, hr, Bool.true_and]
        exact F18.l0_4 k a o m v (rows L) i k' a' o' m' v' (rows l') true (by rw [rows_len]; simp; omega) (by omega) (by simpa [Co.row] using hget) rfl (in64 (by omega) (by omega)) (hr ▸ hev) hrec
end

theorem plain_ev (k a o m v : Int) (l : List Co) : EvF Try.prog prim 38 [.agg (Co.mk k a o m v l).row] [] [] [.v (.bool (plainB k a o m v l.length))] [] := by
  rw [Co.row]
  by_cases h5 : k = 5
  · subst h5
    have := F38.p0 5 a o m v (rows l) (mayB a o) rfl fun _ => F49.p0 a o
    have e : plainB 5 a o m v l.length = (bif (((rows l).length : Int) == 0) then mayB a o else false) := by
      simp only [plainB, if_true, rows_len]
      cases ((l.length : Int) == 0) <;> cases mayB a o <;> rfl
    rw [e]
    exact this
  have h5' : (k == 5) = false := by simpa using h5
  by_cases h1 : k = 1
  · subst h1
    have := F38.p1 1 a o m v (rows l) rfl rfl
    have e : plainB 1 a o m v l.length = (bif (((rows l).length : Int) == 0) then zeroB a o m v else false) := by
      simp only [plainB, rows_len]
      cases ((l.length : Int) == 0) <;> simp
    rw [e]
    exact this
  have h1' : (k == 1) = false := by simpa using h1
  by_cases h2 : k = 2
  · subst h2
    have := F38.p2 2 a o m v (rows l) rfl rfl rfl
    have e : plainB 2 a o m v l.length = (bif (((rows l).length : Int) == 1) then zeroB a o m v else false) := by
      simp only [plainB, rows_len]
      cases ((l.length : Int) == 1) <;> simp
    rw [e]
    exact this
  have h2' : (k == 2) = false := by simpa using h2
  by_cases h3 : k = 3
  · subst h3
    exact F38.p3 3 a o m v (rows l) rfl rfl rfl rfl
  have h3' : (k == 3) = false := by simpa using h3
  by_cases h4 : k = 4
  · subst h4
    exact F38.p4 4 a o m v (rows l) rfl rfl rfl rfl rfl
  have h4' : (k == 4) = false := by simpa using h4
  have e : plainB k a o m v l.length = false := by simp [plainB, h5, h1, h2, h3, h4]
  rw [e]
  exact F38.p5 k a o m v (rows l) h5' h1' h2' h3' h4'

mutual
theorem sright_ev : ∀ (c : Co), c.ok → EvF Try.prog prim 21 [.agg c.row] [] [] [.v (.bool (right c))] []
  | .mk k a o m v l, h => by
    have hp := plain_ev k a o m v l
    rw [Co.row] at hp ⊢
    simp only [Co.ok] at h
    cases hb : plainB k a o m v l.length with
    | false =>
      have e : right (.mk k a o m v l) = false := by simp [right, hb]
      rw [e]
      exact F21.p1 k a o m v (rows l) false rfl (hb ▸ hp)
    | true =>
      have e : right (.mk k a o m v l) = (bif true then (!(!(rights l))) else false) := by simp [right, hb]
      rw [e]
      obtain ⟨n, hn, hl⟩ := sright_loop [[.v (.int .i64 k), .v (.int .i64 a), .v (.int .i64 o), .v (.int .u64 m), .v (.int .u64 v), .v (.sl (rows l))]] l l 0 (by simp) (by omega) h.2.2.2.2.2.1 h.2.2.2.2.2.2
      have h39 := F39_40.p0 [[.v (.int .i64 k), .v (.int .i64 a), .v (.int .i64 o), .v (.int .u64 m), .v (.int .u64 v), .v (.sl (rows l))]] (rows l) n (by rw [List.append_nil]; exact F50_40.p0 _ (rows l) hl)
      rw [hn] at h39
      exact F21.p0 k a o m v (rows l) true (!(rights l)) rfl (hb ▸ hp) h39
theorem sright_loop : ∀ (H : List (List AV)) (l L : List Co) (i : Nat), L.drop i = l → i ≤ L.length → L.length < 2 ^ 63 → oks l →
    ∃ n : Int, decide (n ≥ 0) = !(rights l) ∧ EvK Try.prog prim Try.f50 (loopAt Try.f50 0) (F50_40.h0 H (rows L) i) [.v (.int .i64 n)] H
  | H, [], L, i, hl, hi, hL, hk => by
    have := drop_end hi hl
    exact ⟨-1, rfl, F50_40.l0_3 H (rows L) i (by rw [rows_len]; simp; omega)⟩
  | H, c :: l, L, i, hl, hi, hL, hk => by
    obtain ⟨hc, hl', hlt⟩ := drop_get hl
    obtain ⟨hck, hlk⟩ := hk
    have hev := sright_ev c hck
    obtain ⟨n, hn, hrec⟩ := sright_loop H l L (i + 1) hl' (by omega) hL hlk
    have hget := rows_get hc
    cases c with
    | mk k' a' o' m' v' l' =>
      have h40 := F40.p0 [] k' a' o' m' v' (rows l') _ hev
      cases hr : right (.mk k' a' o' m' v' l') with
      | false =>
        rw [hr] at h40
        exact ⟨i, by simp [rights, hr], F50_40.l0_1 H (rows L) i k' a' o' m' v' (rows l') true (by rw [rows_len]; simp; omega) (by omega) (by simpa [Co.row] using hget) rfl h40⟩
      | true =>
        rw [hr] at h40
        exact ⟨n, by simp [rights, hr, hn], F50_40.l0_2 H (rows L) i k' a' o' m' v' (rows l') false (by rw [rows_len]; simp; omega) (by omega) (by simpa [Co.row] using hget) rfl (in64 (by omega) (by omega)) h40 hrec⟩
end

end Go.Ab.S1
