/-
Package sense: when a condition holds, how great it is.
-/
import Derived.Test.YtimkgalclegffaaHold
import Derived.Test.YtimkgalclegffaaFA
namespace Go.Ab.S1
open Go Go.Proofs Go.Ab

theorem get_app {H Z : List (List AV)} {b : Nat} {c : List AV} (h : H[b]? = some c) : (H ++ Z)[b]? = some c := by
  rw [List.getElem?_append_left (List.getElem?_eq_some_iff.1 h).1]
  exact h

mutual
theorem shold_ev (x : Six) : ∀ (c : Co), c.ok → right c = true → EvF Try.prog prim 41 [.agg c.row, .agg x.pv] [] [] [.v (.bool (hold x c))] []
  | .mk k a o m v l, h, hr => by
    simp only [Co.ok] at h
    have hrl := right_kids hr
    let H : List (List AV) := [[.v (.int .i64 k), .v (.int .i64 a), .v (.int .i64 o), .v (.int .u64 m), .v (.int .u64 v), .v (.sl (rows l))], x.box, [.fn (.func 51) [] [.optr 1 0]]]
    by_cases h2 : k = 2
    · subst h2
      obtain ⟨c, rfl, hrc⟩ := right_not hr
      have hev := shold_ev x c h.2.2.2.2.2.2.1 hrc
      cases c with
      | mk k' a' o' m' v' l' => exact F41.p0 2 a o m v _ x.a0 x.a1 x.a2 x.a3 x.a4 x.a5 k' a' o' m' v' (rows l') _ rfl rfl (F51.p0 1 x.a0 x.a1 x.a2 x.a3 x.a4 x.a5 _ k' a' o' m' v' (rows l') _ rfl hev)
    have h2' : (k == 2) = false := by simpa using h2
    by_cases h3 : k = 3
    · subst h3
      obtain ⟨n, hn, hl⟩ := sholdA_loop x H rfl rfl l l 0 (by simp) (by omega) h.2.2.2.2.2.1 h.2.2.2.2.2.2 hrl
      have h39 := F39_52.p0 2 H (rows l) n (by rw [List.append_nil]; exact F50_52.p0 2 H (rows l) hl)
      rw [hn] at h39
      have := F41.p1 3 a o m v (rows l) x.a0 x.a1 x.a2 x.a3 x.a4 x.a5 (!(holdA x l)) rfl rfl h39
      rw [Bool.not_not] at this
      exact this
    have h3' : (k == 3) = false := by simpa using h3
    by_cases h4 : k = 4
    · subst h4
      obtain ⟨n, hn, hl⟩ := sholdO_loop x H rfl l l 0 (by simp) (by omega) h.2.2.2.2.2.1 h.2.2.2.2.2.2 hrl
      have h39 := F39_51.p0 1 H (rows l) n (by rw [List.append_nil]; exact F50_51.p0 1 H (rows l) hl)
      rw [hn] at h39
      exact F41.p2 4 a o m v (rows l) x.a0 x.a1 x.a2 x.a3 x.a4 x.a5 (holdO x l) rfl rfl rfl h39
    have h4' : (k == 4) = false := by simpa using h4
    by_cases h5 : k = 5
    · subst h5
      have ha := right_atom hr
      exact F41.p3 5 a o m v (rows l) x.a0 x.a1 x.a2 x.a3 x.a4 x.a5 (x.at a) _ rfl rfl rfl rfl ha (six_at x ha) (scomp_ev o (msk (x.at a) m) v)
    have h5' : (k == 5) = false := by simpa using h5
    simp only [hold, h2, h3, h4, h5, if_false]
    exact F41.p4 k a o m v (rows l) x.a0 x.a1 x.a2 x.a3 x.a4 x.a5 h2' h3' h4' h5'
theorem sholdA_loop (x : Six) (H : List (List AV)) (hH1 : H[1]? = some x.box) (hH2 : H[2]? = some [.fn (.func 51) [] [.optr 1 0]]) : ∀ (l L : List Co) (i : Nat), L.drop i = l → i ≤ L.length → L.length < 2 ^ 63 → oks l → rights l = true →
    ∃ n : Int, decide (n ≥ 0) = !(holdA x l) ∧ EvK Try.prog prim Try.f50 (loopAt Try.f50 0) (F50_52.h0 2 H (rows L) i) [.v (.int .i64 n)] H
  | [], L, i, hl, hi, hL, hk, hr => by
    have := drop_end hi hl
    exact ⟨-1, rfl, F50_52.l0_3 2 H (rows L) i (by rw [rows_len]; simp; omega)⟩
  | c :: l, L, i, hl, hi, hL, hk, hr => by
    obtain ⟨hc, hl', hlt⟩ := drop_get hl
    obtain ⟨hck, hlk⟩ := hk
    simp only [rights, Bool.and_eq_true] at hr
    have hev := shold_ev x c hck hr.1
    obtain ⟨n, hn, hrec⟩ := sholdA_loop x H hH1 hH2 l L (i + 1) hl' (by omega) hL hlk hr.2
    have hget := rows_get hc
    cases c with
    | mk k' a' o' m' v' l' =>
      have h52 := F52.p0 2 1 H k' a' o' m' v' (rows l') _ hH2 (F51.p0 1 x.a0 x.a1 x.a2 x.a3 x.a4 x.a5 _ k' a' o' m' v' (rows l') _ (get_app hH1) hev)
      cases hh : hold x (.mk k' a' o' m' v' l') with
      | false =>
        rw [hh] at h52
        exact ⟨i, by simp [holdA, hh], F50_52.l0_1 2 H (rows L) i k' a' o' m' v' (rows l') true (by rw [rows_len]; simp; omega) (by omega) (by simpa [Co.row] using hget) rfl (by rw [List.append_nil]; exact h52)⟩
      | true =>
        rw [hh] at h52
        exact ⟨n, by simp [holdA, hh, hn], F50_52.l0_2 2 H (rows L) i k' a' o' m' v' (rows l') false (by rw [rows_len]; simp; omega) (by omega) (by simpa [Co.row] using hget) rfl (in64 (by omega) (by omega)) (by rw [List.append_nil]; exact h52) hrec⟩
theorem sholdO_loop (x : Six) (H : List (List AV)) (hH1 : H[1]? = some x.box) : ∀ (l L : List Co) (i : Nat), L.drop i = l → i ≤ L.length → L.length < 2 ^ 63 → oks l → rights l = true →
    ∃ n : Int, decide (n ≥ 0) = holdO x l ∧ EvK Try.prog prim Try.f50 (loopAt Try.f50 0) (F50_51.h0 1 H (rows L) i) [.v (.int .i64 n)] H
  | [], L, i, hl, hi, hL, hk, hr => by
    have := drop_end hi hl
    exact ⟨-1, rfl, F50_51.l0_3 1 H (rows L) i (by rw [rows_len]; simp; omega)⟩
  | c :: l, L, i, hl, hi, hL, hk, hr => by
    obtain ⟨hc, hl', hlt⟩ := drop_get hl
    obtain ⟨hck, hlk⟩ := hk
    simp only [rights, Bool.and_eq_true] at hr
    have hev := shold_ev x c hck hr.1
    obtain ⟨n, hn, hrec⟩ := sholdO_loop x H hH1 l L (i + 1) hl' (by omega) hL hlk hr.2
    have hget := rows_get hc
    cases c with
    | mk k' a' o' m' v' l' =>
      have h51 := F51.p0 1 x.a0 x.a1 x.a2 x.a3 x.a4 x.a5 H k' a' o' m' v' (rows l') _ hH1 hev
      cases hh : hold x (.mk k' a' o' m' v' l') with
      | true =>
        rw [hh] at h51
        exact ⟨i, by simp [holdO, hh], F50_51.l0_1 1 H (rows L) i k' a' o' m' v' (rows l') true (by rw [rows_len]; simp; omega) (by omega) (by simpa [Co.row] using hget) rfl (by rw [List.append_nil]; exact h51)⟩
      | false =>
        rw [hh] at h51
        exact ⟨n, by simp [holdO, hh, hn], F50_51.l0_2 1 H (rows L) i k' a' o' m' v' (rows l') false (by rw [rows_len]; simp; omega) (by omega) (by simpa [Co.row] using hget) rfl (in64 (by omega) (by omega)) (by rw [List.append_nil]; exact h51) hrec⟩
end

def holds (x : Six) (c : Co) : Bool := bif right c then hold x c else false

theorem ref_holds (x : Six) (c : Co) (h : c.ok) : EvF Try.prog prim 19 [.agg c.row, .agg x.pv] [] [] [.v (.bool (holds x c))] [] := by
  have h1 := right_ev c h
  have h2 := fun hr => hold_ev x c h hr
  unfold holds
  cases c with
  | mk k a o m v l => exact F19.p0 k a o m v (rows l) x.a0 x.a1 x.a2 x.a3 x.a4 x.a5 _ _ h1 h2

theorem sense_holds (x : Six) (c : Co) (h : c.ok) : EvF Try.prog prim 22 [.agg c.row, .agg x.pv] [] [] [.v (.bool (holds x c))] [] := by
  have h1 := sright_ev c h
  have h2 := fun hr => shold_ev x c h hr
  unfold holds
  cases c with
  | mk k a o m v l => exact F22.p0 k a o m v (rows l) x.a0 x.a1 x.a2 x.a3 x.a4 x.a5 _ _ h1 h2

/-! ### how great -/

mutual
def nodes : Co → Int
  | .mk _ _ _ _ _ l => nodesIn l 1
def nodesIn : List Co → Int → Int
  | [], n => n
  | c :: l, n => nodesIn l (n + nodes c)
end

theorem nodesIn_ge : ∀ (l : List Co) (n : Int), (∀ c ∈ l, 1 ≤ nodes c) → n ≤ nodesIn l n
  | [], n, _ => Int.le_refl _
  | c :: l, n, h => by
    have h1 := h c (List.mem_cons_self ..)
    have h2 := nodesIn_ge l (n + nodes c) fun d hd => h d (List.mem_cons_of_mem _ hd)
    unfold nodesIn
    omega

mutual
theorem nodes_pos : ∀ (c : Co), 1 ≤ nodes c
  | .mk _ _ _ _ _ l => by unfold nodes; exact nodesIn_pos l 1
theorem nodesIn_pos : ∀ (l : List Co) (n : Int), n ≤ nodesIn l n
  | [], n => by unfold nodesIn; omega
  | c :: l, n => by
    have h1 := nodes_pos c
    have h2 := nodesIn_pos l (n + nodes c)
    unfold nodesIn
    omega
end

mutual
theorem few_nodes : ∀ (c : Co) (d : Int), csize c d < 1000 → nodes c = csize c d
  | .mk _ _ _ _ _ l, d, h => by
    unfold csize at h ⊢
    split at h
    · omega
    · rename_i hd
      rw [if_neg hd]
      unfold nodes
      exact few_nodesIn l d 1 (by omega) (by omega) h
theorem few_nodesIn : ∀ (l : List Co) (d n : Int), d ≤ 60 → 1 ≤ n → csizes l d n < 1000 → nodesIn l n = csizes l d n
  | [], d, n, hd, hn, h => by simp [nodesIn, csizes]
  | c :: l, d, n, hd, hn, h => by
    unfold csizes at h ⊢
    unfold nodesIn
    split at h
    · rename_i hlt
      rw [if_pos hlt]
      have hb := csize_bound c (d + 1) (by omega)
      have hs := csizes_bound l d (n + csize c (d + 1)) hd (by omega)
      rw [few_nodes c (d + 1) (by omega)]
      exact few_nodesIn l d _ hd (by omega) h
    · omega
end

mutual
theorem ssize_ev : ∀ (c : Co), c.ok → nodes c ≤ 1000 → EvF Try.prog prim 23 [.agg c.row] [] [] [.v (.int .i64 (nodes c))] []
  | .mk k a o m v l, h, hn => by
    simp only [Co.ok] at h
    unfold nodes at hn ⊢
    exact F23.p0 k a o m v (rows l) (ssize_loop l k a o m v l 0 1 (by simp) (by omega) h.2.2.2.2.2.1 h.2.2.2.2.2.2 (by omega) hn)
theorem ssize_loop : ∀ (l : List Co) (k a o m v : Int) (L : List Co) (i : Nat) (n : Int), L.drop i = l → i ≤ L.length → L.length < 2 ^ 63 → oks l → 1 ≤ n → nodesIn l n ≤ 1000 →
    EvK Try.prog prim Try.f23 (loopAt Try.f23 0) (F23.h0 k a o m v (rows L) n i) [.v (.int .i64 (nodesIn l n))] []
  | [], k, a, o, m, v, L, i, n, hl, hi, hL, hk, hn, hb => by
    have := drop_end hi hl
    exact F23.l0_2 k a o m v (rows L) n i (by rw [rows_len]; simp; omega)
  | c :: l, k, a, o, m, v, L, i, n, hl, hi, hL, hk, hn, hb => by
    obtain ⟨hc, hl', hlt⟩ := drop_get hl
    obtain ⟨hck, hlk⟩ := hk
    unfold nodesIn at hb ⊢
    have h1 := nodes_pos c
    have h2 := nodesIn_pos l (n + nodes c)
    have hev := ssize_ev c hck (by omega)
    have hrec := ssize_loop l k a o m v L (i + 1) (n + nodes c) hl' (by omega) hL hlk (by omega) hb
    have hget := rows_get hc
    cases c with
    | mk k' a' o' m' v' l' =>
      exact F23.l0_1 k a o m v (rows L) n i k' a' o' m' v' (rows l') _ (by rw [rows_len]; simp; omega) (by omega) (by simpa [Co.row] using hget) (in64 (by omega) (by omega)) (in64 (by omega) (by omega)) hev hrec
end

mutual
theorem rsize_ev : ∀ (c : Co), c.ok → nodes c ≤ 1000 → EvF Try.prog prim 24 [.agg c.row] [] [] [.v (.int .i64 (nodes c))] []
  | .mk k a o m v l, h, hn => by
    simp only [Co.ok] at h
    unfold nodes at hn ⊢
    exact F24.p0 k a o m v (rows l) (rsize_loop l k a o m v l 0 1 (by simp) (by omega) h.2.2.2.2.2.1 h.2.2.2.2.2.2 (by omega) hn)
theorem rsize_loop : ∀ (l : List Co) (k a o m v : Int) (L : List Co) (i : Nat) (n : Int), L.drop i = l → i ≤ L.length → L.length < 2 ^ 63 → oks l → 1 ≤ n → nodesIn l n ≤ 1000 →
    EvK Try.prog prim Try.f24 (loopAt Try.f24 0) (F24.h0 k a o m v (rows L) n i) [.v (.int .i64 (nodesIn l n))] []
  | [], k, a, o, m, v, L, i, n, hl, hi, hL, hk, hn, hb => by
    have := drop_end hi hl
    exact F24.l0_2 k a o m v (rows L) n i (by rw [rows_len]; simp; omega)
  | c :: l, k, a, o, m, v, L, i, n, hl, hi, hL, hk, hn, hb => by
    obtain ⟨hc, hl', hlt⟩ := drop_get hl
    obtain ⟨hck, hlk⟩ := hk
    unfold nodesIn at hb ⊢
    have h1 := nodes_pos c
    have h2 := nodesIn_pos l (n + nodes c)
    have hev := rsize_ev c hck (by omega)
    have hrec := rsize_loop l k a o m v L (i + 1) (n + nodes c) hl' (by omega) hL hlk (by omega) hb
    have hget := rows_get hc
    cases c with
    | mk k' a' o' m' v' l' =>
      exact F24.l0_1 k a o m v (rows L) n i k' a' o' m' v' (rows l') _ (by rw [rows_len]; simp; omega) (by omega) (by simpa [Co.row] using hget) (in64 (by omega) (by omega)) (in64 (by omega) (by omega)) hev hrec
end

def few (c : Co) : Bool := decide (csize c 0 ≤ 200)

theorem few_ev (c : Co) (h : c.ok) : EvF Try.prog prim 13 [.agg c.row] [] [] [.v (.bool (few c))] [] := by
  have := size_ev c 0 h (by omega) (by omega)
  cases c with
  | mk k a o m v l => exact F13.p0 k a o m v (rows l) _ this

end Go.Ab.S1
