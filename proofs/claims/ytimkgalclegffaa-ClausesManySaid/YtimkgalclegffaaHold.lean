/-
When a condition holds: both answers; how great it is.
-/
import Derived.Test.YtimkgalclegffaaRight
import Derived.Test.YtimkgalclegffaaFA
namespace Go.Ab.S1
open Go Go.Proofs Go.Ab

structure Six where
  a0 : Int
  a1 : Int
  a2 : Int
  a3 : Int
  a4 : Int
  a5 : Int

def Six.pv (x : Six) : List PV := [.int .u64 x.a0, .int .u64 x.a1, .int .u64 x.a2, .int .u64 x.a3, .int .u64 x.a4, .int .u64 x.a5]
def Six.box (x : Six) : List AV := [.v (.int .u64 x.a0), .v (.int .u64 x.a1), .v (.int .u64 x.a2), .v (.int .u64 x.a3), .v (.int .u64 x.a4), .v (.int .u64 x.a5)]
def Six.at (x : Six) (i : Int) : Int := [x.a0, x.a1, x.a2, x.a3, x.a4, x.a5].getD i.toNat 0

theorem six_at (x : Six) {i : Int} (h : 0 ≤ i ∧ i < (6 : Nat)) : (x.box)[(0 + Int.toNat i * 1)]? = some (.v (.int .u64 (x.at i))) := by
  obtain ⟨n, rfl⟩ := Int.eq_ofNat_of_zero_le h.1
  have : n < 6 := by omega
  match n, this with
  | 0, _ => rfl
  | 1, _ => rfl
  | 2, _ => rfl
  | 3, _ => rfl
  | 4, _ => rfl
  | 5, _ => rfl

def comp (o a b : Int) : Bool :=
  if o = 1 then a == b else if o = 2 then a != b else if o = 3 then decide (a < b) else if o = 4 then decide (a ≤ b) else if o = 5 then decide (a > b) else if o = 6 then decide (a ≥ b) else false

def msk (y m : Int) : Int := IntKind.u64.wrap ((BitVec.ofInt 64 y &&& BitVec.ofInt 64 m).toNat : Int)

theorem comp_ev (o a b : Int) : EvF Try.prog prim 48 [.v (.int .i64 o), .v (.int .u64 a), .v (.int .u64 b)] [] [] [.v (.bool (comp o a b))] [] := by
  unfold comp
  by_cases h1 : o = 1
  · subst h1; exact F48.p0 1 a b rfl
  by_cases h2 : o = 2
  · subst h2; exact F48.p1 2 a b rfl rfl
  by_cases h3 : o = 3
  · subst h3; exact F48.p2 3 a b rfl rfl rfl
  by_cases h4 : o = 4
  · subst h4; exact F48.p3 4 a b rfl rfl rfl rfl
  by_cases h5 : o = 5
  · subst h5; exact F48.p4 5 a b rfl rfl rfl rfl rfl
  by_cases h6 : o = 6
  · subst h6; exact F48.p5 6 a b rfl rfl rfl rfl rfl rfl
  simp only [h1, h2, h3, h4, h5, h6, if_false]
  exact F48.p6 o a b (by simpa using h1) (by simpa using h2) (by simpa using h3) (by simpa using h4) (by simpa using h5) (by simpa using h6)

def cmp3 (a b : Int) : Int := if a < b then -1 else if a > b then 1 else 0

theorem cmp3_ev (a b : Int) : EvF Try.prog prim 55 [.v (.int .u64 a), .v (.int .u64 b)] [] [] [.v (.int .i64 (cmp3 a b))] [] := by
  have ha : EvF Try.prog prim 57 [.v (.int .u64 a)] [] [] [.v (.bool false)] [] := by have := F57.p0 a; simpa using this
  have hb : EvF Try.prog prim 57 [.v (.int .u64 b)] [] [] [.v (.bool false)] [] := by have := F57.p0 b; simpa using this
  unfold cmp3
  by_cases h1 : a < b
  · rw [if_pos h1]; exact F55.p3 a b false false rfl rfl (by simpa using h1) ha hb
  · rw [if_neg h1]
    by_cases h2 : a > b
    · rw [if_pos h2]; exact F55.p4 a b false false rfl rfl (by simpa using h1) (by simpa using h2) ha hb
    · rw [if_neg h2]; exact F55.p5 a b false false rfl rfl (by simpa using h1) (by simpa using h2) ha hb

theorem scomp_ev (o a b : Int) : EvF Try.prog prim 53 [.v (.int .i64 o), .v (.int .u64 a), .v (.int .u64 b)] [] [] [.v (.bool (comp o a b))] [] := by
  have hc := cmp3_ev a b
  have tri : (a < b ∧ cmp3 a b = -1) ∨ (a = b ∧ cmp3 a b = 0) ∨ (a > b ∧ cmp3 a b = 1) := by
    unfold cmp3
    rcases Int.lt_trichotomy a b with h | h | h
    · exact .inl ⟨h, by rw [if_pos h]⟩
    · subst h; exact .inr (.inl ⟨rfl, by simp⟩)
    · exact .inr (.inr ⟨h, by rw [if_neg (by omega), if_pos h]⟩)
  generalize cmp3 a b = n at hc tri
  unfold comp
  by_cases h1 : o = 1
  · subst h1
    have e : (a == b) = (n == 0) := by rw [Bool.eq_iff_iff]; simp; omega
    rw [if_pos rfl, e]; exact F53.p0 1 a b n rfl hc
  by_cases h2 : o = 2
  · subst h2
    have e : (a != b) = (n != 0) := by rw [Bool.eq_iff_iff]; simp; omega
    rw [if_neg h1, if_pos rfl, e]; exact F53.p1 2 a b n rfl rfl hc
  by_cases h3 : o = 3
  · subst h3
    have e : decide (a < b) = decide (n < 0) := by rw [Bool.eq_iff_iff]; simp; omega
    rw [if_neg h1, if_neg h2, if_pos rfl, e]; exact F53.p2 3 a b n rfl rfl rfl hc
  by_cases h4 : o = 4
  · subst h4
    have e : decide (a ≤ b) = decide (n ≤ 0) := by rw [Bool.eq_iff_iff]; simp; omega
    rw [if_neg h1, if_neg h2, if_neg h3, if_pos rfl, e]; exact F53.p3 4 a b n rfl rfl rfl rfl hc
  by_cases h5 : o = 5
  · subst h5
    have e : decide (a > b) = decide (n > 0) := by rw [Bool.eq_iff_iff]; simp; omega
    rw [if_neg h1, if_neg h2, if_neg h3, if_neg h4, if_pos rfl, e]; exact F53.p4 5 a b n rfl rfl rfl rfl rfl hc
  by_cases h6 : o = 6
  · subst h6
    have e : decide (a ≥ b) = decide (n ≥ 0) := by rw [Bool.eq_iff_iff]; simp; omega
    rw [if_neg h1, if_neg h2, if_neg h3, if_neg h4, if_neg h5, if_pos rfl, e]; exact F53.p5 6 a b n rfl rfl rfl rfl rfl rfl hc
  simp only [h1, h2, h3, h4, h5, h6, if_false]
  exact F53.p6 o a b n (by simpa using h1) (by simpa using h2) (by simpa using h3) (by simpa using h4) (by simpa using h5) (by simpa using h6) hc

mutual
def hold (x : Six) : Co → Bool
  | .mk k a o m v l => if k = 2 then holdN x l else if k = 3 then holdA x l else if k = 4 then holdO x l else if k = 5 then comp o (msk (x.at a) m) v else true
def holdN (x : Six) : List Co → Bool
  | [] => true
  | c :: _ => !hold x c
def holdA (x : Six) : List Co → Bool
  | [] => true
  | c :: l => hold x c && holdA x l
def holdO (x : Six) : List Co → Bool
  | [] => false
  | c :: l => hold x c || holdO x l
end

theorem right_not {a o m v : Int} {l : List Co} (h : right (.mk 2 a o m v l) = true) : ∃ c, l = [c] ∧ right c = true := by
  simp only [right, plainB, Bool.and_eq_true] at h
  obtain ⟨h1, h2⟩ := h
  simp at h1
  have hl : l.length = 1 := by omega
  match l, hl with
  | [c], _ => exact ⟨c, rfl, by simpa [rights] using h2⟩

theorem right_atom {a o m v : Int} {l : List Co} (h : right (.mk 5 a o m v l) = true) : 0 ≤ a ∧ a < (6 : Nat) := by
  simp only [right, plainB, Bool.and_eq_true, if_true] at h
  have := h.1.1
  unfold mayB at this
  cases h1 : decide (a ≥ 0) <;> cases h2 : decide (a ≤ 5) <;> simp [h1, h2] at this
  simp at h1 h2
  omega

theorem right_kids {k a o m v : Int} {l : List Co} (h : right (.mk k a o m v l) = true) : rights l = true := by
  simp only [right, Bool.and_eq_true] at h
  exact h.2

mutual
theorem hold_ev (x : Six) : ∀ (c : Co), c.ok → right c = true → EvF Try.prog prim 37 [.agg c.row, .agg x.pv] [] [] [.v (.bool (hold x c))] []
  | .mk k a o m v l, h, hr => by
    simp only [Co.ok] at h
    have hrl := right_kids hr
    by_cases h2 : k = 2
    · subst h2
      obtain ⟨c, rfl, hrc⟩ := right_not hr
      have hk := h.2.2.2.2.2.2.1
      have hev := hold_ev x c hk hrc
      cases c with
      | mk k' a' o' m' v' l' => exact F37.p0 2 a o m v _ x.a0 x.a1 x.a2 x.a3 x.a4 x.a5 k' a' o' m' v' (rows l') _ rfl rfl hev
    have h2' : (k == 2) = false := by simpa using h2
    by_cases h3 : k = 3
    · subst h3
      exact F37.p1 3 a o m v (rows l) x.a0 x.a1 x.a2 x.a3 x.a4 x.a5 rfl rfl (holdA_loop x l 3 a o m v l 0 (by simp) (by omega) h.2.2.2.2.2.1 h.2.2.2.2.2.2 hrl)
    have h3' : (k == 3) = false := by simpa using h3
    by_cases h4 : k = 4
    · subst h4
      exact F37.p2 4 a o m v (rows l) x.a0 x.a1 x.a2 x.a3 x.a4 x.a5 rfl rfl rfl (holdO_loop x l 4 a o m v l 0 (by simp) (by omega) h.2.2.2.2.2.1 h.2.2.2.2.2.2 hrl)
    have h4' : (k == 4) = false := by simpa using h4
    by_cases h5 : k = 5
    · subst h5
      have ha := right_atom hr
      exact F37.p3 5 a o m v (rows l) x.a0 x.a1 x.a2 x.a3 x.a4 x.a5 (x.at a) _ rfl rfl rfl rfl ha (six_at x ha) (comp_ev o (msk (x.at a) m) v)
    have h5' : (k == 5) = false := by simpa using h5
    simp only [hold, h2, h3, h4, h5, if_false]
    exact F37.p4 k a o m v (rows l) x.a0 x.a1 x.a2 x.a3 x.a4 x.a5 h2' h3' h4' h5'
theorem holdA_loop (x : Six) : ∀ (l : List Co) (k a o m v : Int) (L : List Co) (i : Nat), L.drop i = l → i ≤ L.length → L.length < 2 ^ 63 → oks l → rights l = true →
    EvK Try.prog prim Try.f37 (loopAt Try.f37 0) (F37.h0 k a o m v (rows L) x.a0 x.a1 x.a2 x.a3 x.a4 x.a5 i) [.v (.bool (holdA x l))] []
  | [], k, a, o, m, v, L, i, hl, hi, hL, hk, hr => by
    have := drop_end hi hl
    exact F37.l0_7 k a o m v (rows L) x.a0 x.a1 x.a2 x.a3 x.a4 x.a5 i (by rw [rows_len]; simp; omega)
  | c :: l, k, a, o, m, v, L, i, hl, hi, hL, hk, hr => by
    obtain ⟨hc, hl', hlt⟩ := drop_get hl
    obtain ⟨hck, hlk⟩ := hk
    simp only [rights, Bool.and_eq_true] at hr
    have hev := hold_ev x c hck hr.1
    have hrec := holdA_loop x l k a o m v L (i + 1) hl' (by omega) hL hlk hr.2
    have hget := rows_get hc
    cases c with
    | mk k' a' o' m' v' l' =>
      cases hh : hold x (.mk k' a' o' m' v' l') with
      | false =>
        simp only [holdA, hh, Bool.false_and]
        exact F37.l0_5 k a o m v (rows L) x.a0 x.a1 x.a2 x.a3 x.a4 x.a5 i k' a' o' m' v' (rows l') false (by rw [rows_len]; simp; omega) (by omega) (by simpa [Co.row] using hget) rfl (hh ▸ hev)
      | true =>
        simp only [holdA, hh, Bool.true_and]
        exact F37.l0_6 k a o m v (rows L) x.a0 x.a1 x.a2 x.a3 x.a4 x.a5 i k' a' o' m' v' (rows l') true (by rw [rows_len]; simp; omega) (by omega) (by simpa [Co.row] using hget) rfl (in64 (by omega) (by omega)) (hh ▸ hev) hrec
theorem holdO_loop (x : Six) : ∀ (l : List Co) (k a o m v : Int) (L : List Co) (i : Nat), L.drop i = l → i ≤ L.length → L.length < 2 ^ 63 → oks l → rights l = true →
    EvK Try.prog prim Try.f37 (loopAt Try.f37 1) (F37.h1 k a o m v (rows L) x.a0 x.a1 x.a2 x.a3 x.a4 x.a5 i) [.v (.bool (holdO x l))] []
  | [], k, a, o, m, v, L, i, hl, hi, hL, hk, hr => by
    have := drop_end hi hl
    exact F37.l1_10 k a o m v (rows L) x.a0 x.a1 x.a2 x.a3 x.a4 x.a5 i (by rw [rows_len]; simp; omega)
  | c :: l, k, a, o, m, v, L, i, hl, hi, hL, hk, hr => by
    obtain ⟨hc, hl', hlt⟩ := drop_get hl
    obtain ⟨hck, hlk⟩ := hk
    simp only [rights, Bool.and_eq_true] at hr
    have hev := hold_ev x c hck hr.1
    have hrec := holdO_loop x l k a o m v L (i + 1) hl' (by omega) hL hlk hr.2
    have hget := rows_get hc
    cases c with
    | mk k' a' o' m' v' l' =>
      cases hh : hold x (.mk k' a' o' m' v' l') with
      | true =>
        simp only [holdO, hh, Bool.true_or]
        exact F37.l1_8 k a o m v (rows L) x.a0 x.a1 x.a2 x.a3 x.a4 x.a5 i k' a' o' m' v' (rows l') true (by rw [rows_len]; simp; omega) (by omega) (by simpa [Co.row] using hget) rfl (hh ▸ hev)
      | false =>
        simp only [holdO, hh, Bool.false_or]
        exact F37.l1_9 k a o m v (rows L) x.a0 x.a1 x.a2 x.a3 x.a4 x.a5 i k' a' o' m' v' (rows l') false (by rw [rows_len]; simp; omega) (by omega) (by simpa [Co.row] using hget) rfl (in64 (by omega) (by omega)) (hh ▸ hev) hrec
end

end Go.Ab.S1
