/-
Chapter 21: both programs, and the laws.
-/
import Derived.Test.YtdddimnfhgmadaaPruneLaw
namespace Go.Ab.S2
open Go Go.Proofs Go.Ab

/-! ### few -/

def fewN : List (List Hf) → Int → Int
  | [], n => n
  | c :: l, n => if n < 1000 then fewN l (n + 1 + c.length) else n

theorem few_loop2 (L : List (List Hf)) (hL : L.length < 2 ^ 62) (hl : ∀ c ∈ L, c.length < 2 ^ 62) : ∀ (l : List (List Hf)) (i : Nat) (n : Int), L.drop i = l → i ≤ L.length → 0 ≤ n → n ≤ 2 ^ 62 + 2000 →
    EvK Try.prog prim Try.f15 (loopAt Try.f15 0) (F15.h0 (crows L) n i) [.v (.bool (decide (fewN l n ≤ 120)))] []
  | [], i, n, hd, hi, h0, hb => by
    have := drop_end hi hd
    exact F15.l0_2 (crows L) n i (by rw [crows_len]; simp [this])
  | c :: l, i, n, hd, hi, h0, hb => by
    obtain ⟨hc, hd', hlt⟩ := drop_get hd
    have hcl := hl c (List.mem_of_getElem? hc)
    unfold fewN
    split
    · have hi1 : (decide ((i : Int) < ((crows L).length : Int))) = true := by rw [crows_len]; simp; omega
      have hn1 : decide (n < 1000) = true := by simpa
      exact F15.l0_1 (crows L) n i (c.map Hf.row) (by rw [hi1, hn1]; rfl) (in64 (by omega) (by omega)) (by omega) (by simpa using crows_get hc) (by rw [hrows_len]; exact in64 (by omega) (by omega)) (in64 (by omega) (by omega))
        (by rw [hrows_len]; exact few_loop2 L hL hl l (i + 1) (n + 1 + c.length) hd' (by omega) (by omega) (by omega))
    · have hn1 : decide (n < 1000) = false := decide_eq_false ‹_›
      exact F15.l0_2 (crows L) n i (by rw [hn1]; simp)

theorem few_ev2 (L : List (List Hf)) (hL : L.length < 2 ^ 62) (hl : ∀ c ∈ L, c.length < 2 ^ 62) : EvF Try.prog prim 15 [.v (.sl (crows L))] [] [] [.v (.bool (decide (fewN L 0 ≤ 120)))] [] :=
  F15.p0 (crows L) (few_loop2 L hL hl L 0 0 rfl (by omega) (by omega) (by omega))

theorem fewN_le : ∀ (l : List (List Hf)) (n : Int), 0 ≤ n → fewN l n ≤ 120 → n + l.length ≤ 120 ∧ ∀ c ∈ l, (c.length : Int) ≤ 120
  | [], n, h0, h => by
    simp only [fewN] at h
    exact ⟨by simpa using h, by simp⟩
  | c :: l, n, h0, h => by
    unfold fewN at h
    split at h
    · obtain ⟨h1, h2⟩ := fewN_le l _ (by omega) h
      refine ⟨by simp; omega, fun d hd => ?_⟩
      rcases List.mem_cons.1 hd with rfl | hd
      · omega
      · exact h2 d hd
    · omega

/-! ### clauses that are in others go -/

theorem crows_snoc (out : List (List Hf)) (y : List Hf) : crows out ++ [[.sl (y.map Hf.row)]] = crows (out ++ [y]) := by simp [crows, crow]

theorem crows_one (L : List (List Hf)) : ∀ r ∈ crows L, r.length = 1 := by
  intro r hr
  unfold crows at hr
  obtain ⟨c, -, rfl⟩ := List.mem_map.1 hr
  rfl

theorem left_loop (L : List (List Hf)) (hL : L.length ≤ 1000) (hl : ∀ c ∈ L, c.length ≤ 1000) (hok : ∀ c ∈ L, ∀ h ∈ c, h.ok) {r : List AV} : ∀ (l out : List (List Hf)) (i : Nat), L.drop i = l → i ≤ L.length → out.length ≤ i →
    EvK Try.prog prim Try.f17 (loopAt Try.f17 1) (F17.h1 (crows (out ++ leftL l)) (crows (out ++ leftL l)) ((out ++ leftL l).length : Nat) [] 0) r [] →
    EvK Try.prog prim Try.f17 (loopAt Try.f17 0) (F17.h0 (crows L) (crows out) i) r []
  | [], out, i, hd, hi, ho, hk => by
    have := drop_end hi hd
    have e : leftL [] = [] := rfl
    rw [e, List.append_nil] at hk
    exact F17.l0_3 (crows L) (crows out) i (by rw [crows_len]; simp; omega) (by rw [crows_len]; exact hk)
  | c :: l, out, i, hd, hi, ho, hk => by
    obtain ⟨hc, hd', hlt⟩ := drop_get hd
    have hm := List.mem_of_getElem? hc
    have hev := clause_ev c (hl c hm) (hok c hm)
    have i0 : (decide ((i : Int) < ((crows L).length : Int))) = true := by rw [crows_len]; simp; omega
    cases hz : cleanC c [] with
    | none =>
      rw [hz] at hev
      have e : leftL (c :: l) = leftL l := by unfold leftL; exact List.filterMap_cons_none (show tu c = none from hz)
      rw [e] at hk
      exact F17.l0_2 (crows L) (crows out) i (c.map Hf.row) [] false i0 (by omega) (by simpa using crows_get hc) rfl (in64 (by omega) (by omega)) hev (left_loop L hL hl hok l out (i + 1) hd' (by omega) (by omega) hk)
    | some y =>
      rw [hz] at hev
      have e : leftL (c :: l) = y :: leftL l := by unfold leftL; exact List.filterMap_cons_some (show tu c = some y from hz)
      rw [e, List.append_cons] at hk
      have hrec := left_loop L hL hl hok l (out ++ [y]) (i + 1) hd' (by omega) (by simp; omega) hk
      rw [← crows_snoc] at hrec
      exact F17.l0_1 (crows L) (crows out) i (c.map Hf.row) (y.map Hf.row) true i0 (by omega) (by simpa using crows_get hc) rfl (by rw [crows_snoc, crows_len]; simp; omega) (by rw [crows_snoc]; exact crows_one _) (in64 (by omega) (by omega)) hev hrec

/-- Is the i-th clause in another one of these, from the k-th on? -/
def goneAt (i : Nat) (x : List Hf) : List (List Hf) → Nat → Bool
  | [], _ => false
  | y :: l, k => (decide (k ≠ i) && withinB y x && (decide (y.length < x.length) || decide (k < i))) || goneAt i x l (k + 1)

theorem goneAt_after (i : Nat) (x : List Hf) : ∀ (l : List (List Hf)) (k : Nat), i < k → goneAt i x l k = l.any fun y => withinB y x && decide (y.length < x.length)
  | [], k, h => rfl
  | y :: l, k, h => by
    rw [goneAt, List.any_cons, goneAt_after i x l (k + 1) (by omega)]
    have h1 : decide (k ≠ i) = true := by simp; omega
    have h2 : decide (k < i) = false := by simp; omega
    rw [h1, h2]
    simp

theorem goneAt_split (x : List Hf) (post : List (List Hf)) : ∀ (pre : List (List Hf)) (k : Nat), goneAt (k + pre.length) x (pre ++ x :: post) k = gone pre x post
  | [], k => by
    simp only [List.nil_append, List.length_nil, Nat.add_zero, goneAt, ne_eq, not_true, decide_false, Bool.false_and, Bool.false_or]
    rw [goneAt_after k x post (k + 1) (by omega)]
    simp [gone]
  | y :: pre, k => by
    have ih := goneAt_split x post pre (k + 1)
    have e : k + (y :: pre).length = k + 1 + pre.length := by simp; omega
    rw [e, List.cons_append, goneAt, ih]
    have h1 : decide (k ≠ k + 1 + pre.length) = true := by simp; omega
    have h2 : decide (k < k + 1 + pre.length) = true := by simp; omega
    rw [h1, h2]
    unfold gone
    simp [Bool.or_assoc]

theorem bif_gone (g : Bool) (k i : Nat) (w : Bool) (a b : Nat) (hw : w = true → a ≤ b) : (bif g then true else (bif (bif ((k : Int) != (i : Int)) then (decide (a ≤ b) && w) else false) then (bif (decide ((a : Int) < (b : Int))) then true else (decide ((k : Int) < (i : Int)))) else false)) =
    (g || (decide (k ≠ i) && w && (decide (a < b) || decide (k < i)))) := by
  have e1 : ((k : Int) != (i : Int)) = decide (k ≠ i) := by rw [Bool.eq_iff_iff]; simp; omega
  have e2 : (decide ((a : Int) < (b : Int))) = decide (a < b) := by rw [Bool.eq_iff_iff]; simp
  have e3 : (decide ((k : Int) < (i : Int))) = decide (k < i) := by rw [Bool.eq_iff_iff]; simp
  have e4 : (decide (a ≤ b) && w) = w := by
    cases w with
    | false => simp
    | true => simp [hw rfl]
  rw [e1, e2, e3, e4]
  cases g <;> cases decide (k ≠ i) <;> cases w <;> cases decide (a < b) <;> cases decide (k < i) <;> rfl

/-- The program's second pass, over W. -/
theorem gone_loop (W : List (List Hf)) (hW : W.length ≤ 1000) (hl : ∀ c ∈ W, c.length ≤ 1000) (hlen : ∀ y ∈ W, ∀ x ∈ W, withinB y x = true → y.length ≤ x.length) (i : Nat) (x : List Hf) (hi : W[i]? = some x) (out : List (List Hf)) (ho : out.length ≤ i) {r : List AV} :
    ∀ (l : List (List Hf)) (k : Nat) (g : Bool), W.drop k = l → k ≤ W.length →
    EvK Try.prog prim Try.f17 (loopAt Try.f17 1) (F17.h1 (crows W) (crows W) (W.length : Nat) (crows (if (g || goneAt i x l k) then out else out ++ [x])) ((i : Int) + 1)) r [] →
    EvK Try.prog prim Try.f17 (loopAt Try.f17 2) (F17.h2 (crows W) (crows W) (W.length : Nat) (x.map Hf.row) k (crows out) i i g) r []
  | [], k, g, hd, hk', hk => by
    have := drop_end hk' hd
    have hilt := (List.getElem?_eq_some_iff.1 hi).1
    rw [goneAt, Bool.or_false] at hk
    have i0 : (decide ((k : Int) < ((crows W).length : Int))) = false := by rw [crows_len]; simp; omega
    cases g with
    | true =>
      rw [if_pos rfl] at hk
      exact F17.l2_8 (crows W) (crows W) (W.length : Nat) (x.map Hf.row) k (crows out) i i true i0 rfl (in64 (by omega) (by omega)) hk
    | false =>
      rw [if_neg (by simp), ← crows_snoc] at hk
      exact F17.l2_7 (crows W) (crows W) (W.length : Nat) (x.map Hf.row) k (crows out) i i false i0 rfl (by rw [crows_snoc, crows_len]; simp; omega) (by rw [crows_snoc]; exact crows_one _) (in64 (by omega) (by omega)) hk
  | y :: l, k, g, hd, hk', hk => by
    obtain ⟨hy, hd', hlt⟩ := drop_get hd
    have my := List.mem_of_getElem? hy
    have mx := List.mem_of_getElem? hi
    have hev := within_ev y x (by have := hl y my; omega) (by have := hl x mx; omega)
    have hb := bif_gone g k i (withinB y x) y.length x.length (hlen y my x mx)
    have e : (g || goneAt i x (y :: l) k) = ((g || (decide (k ≠ i) && withinB y x && (decide (y.length < x.length) || decide (k < i)))) || goneAt i x l (k + 1)) := by rw [goneAt, Bool.or_assoc]
    rw [e] at hk
    have hrec := gone_loop W hW hl hlen i x hi out ho l (k + 1) _ hd' (by omega) hk
    rw [← hb] at hrec
    exact F17.l2_6 (crows W) (crows W) (W.length : Nat) (x.map Hf.row) k (crows out) i i g (y.map Hf.row) _ (by rw [crows_len]; simp; omega) (by omega) (by simpa using crows_get hy) (in64 (by omega) (by omega)) (fun _ => hev) (by rw [hrows_len, hrows_len]; exact hrec)

theorem stay_loop (W : List (List Hf)) (hW : W.length ≤ 1000) (hl : ∀ c ∈ W, c.length ≤ 1000) (hlen : ∀ y ∈ W, ∀ x ∈ W, withinB y x = true → y.length ≤ x.length) :
    ∀ (post pre out : List (List Hf)), W = pre ++ post → out.length ≤ pre.length →
    EvK Try.prog prim Try.f17 (loopAt Try.f17 1) (F17.h1 (crows W) (crows W) (W.length : Nat) (crows out) (pre.length : Nat)) [.own 0 (crows (out ++ stayZ pre post))] []
  | [], pre, out, hd, ho => by
    have e : W.length = pre.length := by rw [hd]; simp
    rw [stayZ, List.append_nil]
    exact F17.l1_5 (crows W) (crows W) (W.length : Nat) (crows out) (pre.length : Nat) (by simp; omega)
  | x :: post, pre, out, hd, ho => by
    have e : W.length = pre.length + post.length + 1 := by rw [hd]; simp; omega
    have hi : W[pre.length]? = some x := by rw [hd]; simp
    have hg := goneAt_split x post pre 0
    rw [Nat.zero_add, ← hd] at hg
    refine F17.l1_4 (crows W) (crows W) (W.length : Nat) (crows out) (pre.length : Nat) (x.map Hf.row) (by simp; omega) (by omega) (by simpa using crows_get hi) ?_
    refine gone_loop W hW hl hlen pre.length x hi out ho W 0 false rfl (by omega) ?_
    rw [Bool.false_or, hg]
    have hl1 : ((pre.length : Int) + 1) = ((pre ++ [x]).length : Nat) := by simp
    rw [hl1]
    cases hgo : gone pre x post with
    | true =>
      have := stay_loop W hW hl hlen post (pre ++ [x]) out (by rw [hd]; simp) (by simp; omega)
      rw [if_pos rfl]
      have e2 : stayZ pre (x :: post) = stayZ (pre ++ [x]) post := by rw [stayZ, hgo, if_pos rfl]
      rw [e2]
      exact this
    | false =>
      have := stay_loop W hW hl hlen post (pre ++ [x]) (out ++ [x]) (by rw [hd]; simp) (by simp; omega)
      rw [if_neg (by simp)]
      have e2 : stayZ pre (x :: post) = x :: stayZ (pre ++ [x]) post := by rw [stayZ, hgo, if_neg (by simp)]
      rw [e2, List.append_cons out x (stayZ (pre ++ [x]) post)]
      exact this

theorem left_len (L : List (List Hf)) : (leftL L).length ≤ L.length := List.length_filterMap_le ..
theorem left_clen {L : List (List Hf)} {b : Nat} (h : ∀ c ∈ L, c.length ≤ b) : ∀ c ∈ leftL L, c.length ≤ b := by
  intro c hc
  unfold leftL at hc
  obtain ⟨d, hd, hy⟩ := List.mem_filterMap.1 hc
  have := cleanC_len d [] c hy
  have := h d hd
  simp at *
  omega

theorem clean_ev (L : List (List Hf)) (hL : L.length ≤ 1000) (hl : ∀ c ∈ L, c.length ≤ 1000) (hok : ∀ c ∈ L, ∀ h ∈ c, h.ok) : EvF Try.prog prim 17 [.v (.sl (crows L))] [] [] [.v (.sl (crows (clean L)))] [] := by
  have h1 := stay_loop (leftL L) (by have := left_len L; omega) (left_clen hl) left_within (leftL L) [] [] rfl (by simp)
  have h2 := left_loop L hL hl hok L [] 0 rfl (by omega) (by simp) h1
  exact (F17.p0 _ h2).soft

/-! ### the document's answer -/

theorem rleft_loop (L : List (List Hf)) (hL : L.length ≤ 1000) (hl : ∀ c ∈ L, c.length ≤ 1000) (hok : ∀ c ∈ L, ∀ h ∈ c, h.ok) {r : List AV} : ∀ (l out : List (List Hf)) (i : Nat), L.drop i = l → i ≤ L.length → out.length ≤ i →
    EvK Try.prog prim Try.f18 (loopAt Try.f18 1) (F18.h1 (crows (out ++ leftL l)) [] 0) r [] →
    EvK Try.prog prim Try.f18 (loopAt Try.f18 0) (F18.h0 (crows L) (crows out) i) r []
  | [], out, i, hd, hi, ho, hk => by
    have := drop_end hi hd
    have e : leftL [] = [] := rfl
    rw [e, List.append_nil] at hk
    exact F18.l0_3 (crows L) (crows out) i (by rw [crows_len]; simp; omega) hk
  | c :: l, out, i, hd, hi, ho, hk => by
    obtain ⟨hc, hd', hlt⟩ := drop_get hd
    have hm := List.mem_of_getElem? hc
    have hev := rclause_ev c (hl c hm) (hok c hm)
    have i0 : (decide ((i : Int) < ((crows L).length : Int))) = true := by rw [crows_len]; simp; omega
    cases hz : cleanC c [] with
    | none =>
      rw [hz] at hev
      have e : leftL (c :: l) = leftL l := by unfold leftL; exact List.filterMap_cons_none (show tu c = none from hz)
      rw [e] at hk
      exact F18.l0_2 (crows L) (crows out) i (c.map Hf.row) [] false i0 (by omega) (by simpa using crows_get hc) rfl (in64 (by omega) (by omega)) hev (rleft_loop L hL hl hok l out (i + 1) hd' (by omega) (by omega) hk)
    | some y =>
      rw [hz] at hev
      have e : leftL (c :: l) = y :: leftL l := by unfold leftL; exact List.filterMap_cons_some (show tu c = some y from hz)
      rw [e, List.append_cons] at hk
      have hrec := rleft_loop L hL hl hok l (out ++ [y]) (i + 1) hd' (by omega) (by simp; omega) hk
      rw [← crows_snoc] at hrec
      exact F18.l0_1 (crows L) (crows out) i (c.map Hf.row) (y.map Hf.row) true i0 (by omega) (by simpa using crows_get hc) rfl (by rw [crows_snoc, crows_len]; simp; omega) (by rw [crows_snoc]; exact crows_one _) (in64 (by omega) (by omega)) hev hrec

theorem bif_stay (k i : Nat) (w : Bool) (a b : Nat) : (bif (bif ((k : Int) != (i : Int)) then w else false) then (bif (decide ((a : Int) < (b : Int))) then true else (decide ((k : Int) < (i : Int)))) else false) =
    (decide (k ≠ i) && w && (decide (a < b) || decide (k < i))) := by
  have e1 : ((k : Int) != (i : Int)) = decide (k ≠ i) := by rw [Bool.eq_iff_iff]; simp; omega
  have e2 : (decide ((a : Int) < (b : Int))) = decide (a < b) := by rw [Bool.eq_iff_iff]; simp
  have e3 : (decide ((k : Int) < (i : Int))) = decide (k < i) := by rw [Bool.eq_iff_iff]; simp
  rw [e1, e2, e3]
  cases decide (k ≠ i) <;> cases w <;> cases decide (a < b) <;> cases decide (k < i) <;> rfl

theorem rgone_loop (W : List (List Hf)) (hW : W.length ≤ 1000) (hl : ∀ c ∈ W, c.length ≤ 1000) (i : Nat) (x : List Hf) (hi : W[i]? = some x) (out : List (List Hf)) (ho : out.length ≤ i) {r : List AV} :
    ∀ (l : List (List Hf)) (k : Nat) (g : Bool), W.drop k = l → k ≤ W.length →
    EvK Try.prog prim Try.f18 (loopAt Try.f18 1) (F18.h1 (crows W) (crows (if (g || goneAt i x l k) then out else out ++ [x])) ((i : Int) + 1)) r [] →
    EvK Try.prog prim Try.f18 (loopAt Try.f18 2) (F18.h2 (crows W) k (crows out) i (!g)) r []
  | [], k, g, hd, hk', hk => by
    have := drop_end hk' hd
    have hilt := (List.getElem?_eq_some_iff.1 hi).1
    rw [goneAt, Bool.or_false] at hk
    have i0 : (decide ((k : Int) < ((crows W).length : Int))) = false := by rw [crows_len]; simp; omega
    cases g with
    | true =>
      rw [if_pos rfl] at hk
      exact F18.l2_9 (crows W) k (crows out) i false i0 rfl (in64 (by omega) (by omega)) hk
    | false =>
      rw [if_neg (by simp), ← crows_snoc] at hk
      exact F18.l2_8 (crows W) k (crows out) i true (x.map Hf.row) i0 rfl (by omega) (by simpa using crows_get hi) (by rw [crows_snoc, crows_len]; simp; omega) (by rw [crows_snoc]; exact crows_one _) (in64 (by omega) (by omega)) hk
  | y :: l, k, g, hd, hk', hk => by
    obtain ⟨hy, hd', hlt⟩ := drop_get hd
    have my := List.mem_of_getElem? hy
    have mx := List.mem_of_getElem? hi
    have hev := rwithin_ev y x (by have := hl y my; omega) (by have := hl x mx; omega)
    have hb := bif_stay k i (withinB y x) y.length x.length
    have e : (g || goneAt i x (y :: l) k) = ((g || (decide (k ≠ i) && withinB y x && (decide (y.length < x.length) || decide (k < i)))) || goneAt i x l (k + 1)) := by rw [goneAt, Bool.or_assoc]
    rw [e] at hk
    have hrec := rgone_loop W hW hl i x hi out ho l (k + 1) _ hd' (by omega) hk
    have gy : (crows W)[Int.toNat (k : Int)]? = some [.sl (y.map Hf.row)] := by simpa using crows_get hy
    have gx : (crows W)[Int.toNat (i : Int)]? = some [.sl (x.map Hf.row)] := by simpa using crows_get hi
    have i0 : (decide ((k : Int) < ((crows W).length : Int))) = true := by rw [crows_len]; simp; omega
    cases hc : (decide (k ≠ i) && withinB y x && (decide (y.length < x.length) || decide (k < i))) with
    | true =>
      rw [hc] at hrec hb
      have e1 : (!(g || true)) = false := by simp
      rw [e1] at hrec
      exact F18.l2_6 (crows W) k (crows out) i (!g) (y.map Hf.row) (x.map Hf.row) (withinB y x) i0 (fun _ => by omega) (fun _ => gy) (fun _ => by omega) (fun _ => gx) (fun _ => by omega) (fun _ => gy) (fun _ => by omega) (fun _ => gx)
        (by rw [hrows_len, hrows_len]; exact hb) (in64 (by omega) (by omega)) (fun _ => hev) hrec
    | false =>
      rw [hc] at hrec hb
      rw [Bool.or_false] at hrec
      exact F18.l2_7 (crows W) k (crows out) i (!g) (y.map Hf.row) (x.map Hf.row) (withinB y x) i0 (fun _ => by omega) (fun _ => gy) (fun _ => by omega) (fun _ => gx) (fun _ => by omega) (fun _ => gy) (fun _ => by omega) (fun _ => gx)
        (by rw [hrows_len, hrows_len]; exact hb) (in64 (by omega) (by omega)) (fun _ => hev) hrec

theorem rstay_loop (W : List (List Hf)) (hW : W.length ≤ 1000) (hl : ∀ c ∈ W, c.length ≤ 1000) :
    ∀ (post pre out : List (List Hf)), W = pre ++ post → out.length ≤ pre.length →
    EvK Try.prog prim Try.f18 (loopAt Try.f18 1) (F18.h1 (crows W) (crows out) (pre.length : Nat)) [.own 0 (crows (out ++ stayZ pre post))] []
  | [], pre, out, hd, ho => by
    have e : W.length = pre.length := by rw [hd]; simp
    rw [stayZ, List.append_nil]
    exact F18.l1_5 (crows W) (crows out) (pre.length : Nat) (by rw [crows_len]; simp; omega)
  | x :: post, pre, out, hd, ho => by
    have e : W.length = pre.length + post.length + 1 := by rw [hd]; simp; omega
    have hi : W[pre.length]? = some x := by rw [hd]; simp
    have hg := goneAt_split x post pre 0
    rw [Nat.zero_add, ← hd] at hg
    refine F18.l1_4 (crows W) (crows out) (pre.length : Nat) (by rw [crows_len]; simp; omega) ?_
    refine rgone_loop W hW hl pre.length x hi out ho W 0 false rfl (by omega) ?_
    rw [Bool.false_or, hg]
    have hl1 : ((pre.length : Int) + 1) = ((pre ++ [x]).length : Nat) := by simp
    rw [hl1]
    cases hgo : gone pre x post with
    | true =>
      have := rstay_loop W hW hl post (pre ++ [x]) out (by rw [hd]; simp) (by simp; omega)
      rw [if_pos rfl]
      have e2 : stayZ pre (x :: post) = stayZ (pre ++ [x]) post := by rw [stayZ, hgo, if_pos rfl]
      rw [e2]
      exact this
    | false =>
      have := rstay_loop W hW hl post (pre ++ [x]) (out ++ [x]) (by rw [hd]; simp) (by simp; omega)
      rw [if_neg (by simp)]
      have e2 : stayZ pre (x :: post) = x :: stayZ (pre ++ [x]) post := by rw [stayZ, hgo, if_neg (by simp)]
      rw [e2, List.append_cons out x (stayZ (pre ++ [x]) post)]
      exact this

theorem rclean_ev (L : List (List Hf)) (hL : L.length ≤ 1000) (hl : ∀ c ∈ L, c.length ≤ 1000) (hok : ∀ c ∈ L, ∀ h ∈ c, h.ok) : EvF Try.prog prim 18 [.v (.sl (crows L))] [] [] [.v (.sl (crows (clean L)))] [] := by
  have h1 := rstay_loop (leftL L) (by have := left_len L; omega) (left_clen hl) (leftL L) [] [] rfl (by simp)
  have h2 := rleft_loop L hL hl hok L [] 0 rfl (by omega) (by simp) h1
  exact (F18.p0 _ h2).soft

/-! ### of some -/

theorem some_inner (s : Six) (hs : s.ok) (L : List (List Hf)) (n : Nat) (c : List Hf) (hc : L[n]? = some c) (hL : L.length ≤ 1000) (hl : c.length ≤ 1000) (hok : ∀ h ∈ c, h.ok) {r : List AV} :
    ∀ (l : List Hf) (k : Nat) (ok : Bool), c.drop k = l → k ≤ c.length → ((ok && clauseB s l) = true → r = [.v (.bool true)]) →
    ((ok && clauseB s l) = false → EvK Try.prog prim Try.f19 (loopAt Try.f19 0) (F19.h0 (crows L) s.a0 s.a1 s.a2 s.a3 s.a4 s.a5 ((n : Int) + 1)) r []) →
    EvK Try.prog prim Try.f19 (loopAt Try.f19 1) (F19.h1 (crows L) s.a0 s.a1 s.a2 s.a3 s.a4 s.a5 ok k n) r []
  | [], k, ok, hd, hk', h1, h2 => by
    have := drop_end hk' hd
    have hn := (List.getElem?_eq_some_iff.1 hc).1
    have e : (ok && clauseB s []) = ok := by simp [clauseB]
    rw [e] at h1 h2
    cases ok with
    | true => rw [h1 rfl]; exact F19.l1_4 (crows L) s.a0 s.a1 s.a2 s.a3 s.a4 s.a5 true k n (c.map Hf.row) (by omega) (by simpa using crows_get hc) (by rw [hrows_len]; simp; omega) rfl
    | false => exact F19.l1_5 (crows L) s.a0 s.a1 s.a2 s.a3 s.a4 s.a5 false k n (c.map Hf.row) (by omega) (by simpa using crows_get hc) (by rw [hrows_len]; simp; omega) rfl (in64 (by omega) (by omega)) (h2 rfl)
  | h :: l, k, ok, hd, hk', h1, h2 => by
    obtain ⟨hx, hd', hlt⟩ := drop_get hd
    have hho := hok h (List.mem_of_getElem? hx)
    have e : (ok && clauseB s (h :: l)) = ((bif ok then h.holds s else false) && clauseB s l) := by simp [clauseB]; cases ok <;> simp
    rw [e] at h1 h2
    have hrec := some_inner s hs L n c hc hL hl hok l (k + 1) (bif ok then h.holds s else false) hd' (by omega) h1 h2
    have hg := hrows_get hx
    exact F19.l1_3 (crows L) s.a0 s.a1 s.a2 s.a3 s.a4 s.a5 ok k n (c.map Hf.row) h.a h.o h.h h.m h.v (h.holds s) (by omega) (by simpa using crows_get hc) (by rw [hrows_len]; simp; omega) (fun _ => by omega)
      (fun _ => by simpa using crows_get hc) (fun _ => by omega) (fun _ => by simpa [Hf.row] using hg) (in64 (by omega) (by omega)) (fun _ => rholds_ev h s hho hs) hrec

theorem some_loop (s : Six) (hs : s.ok) (L : List (List Hf)) (hL : L.length ≤ 1000) (hl : ∀ c ∈ L, c.length ≤ 1000) (hok : ∀ c ∈ L, ∀ h ∈ c, h.ok) :
    ∀ (l : List (List Hf)) (n : Nat), L.drop n = l → n ≤ L.length → EvK Try.prog prim Try.f19 (loopAt Try.f19 0) (F19.h0 (crows L) s.a0 s.a1 s.a2 s.a3 s.a4 s.a5 n) [.v (.bool (someB s l))] []
  | [], n, hd, hn => by
    have := drop_end hn hd
    exact F19.l0_2 (crows L) s.a0 s.a1 s.a2 s.a3 s.a4 s.a5 n (by rw [crows_len]; simp; omega)
  | c :: l, n, hd, hn => by
    obtain ⟨hc, hd', hlt⟩ := drop_get hd
    have hcm := List.mem_of_getElem? hc
    have hrec := some_loop s hs L hL hl hok l (n + 1) hd' (by omega)
    refine F19.l0_1 (crows L) s.a0 s.a1 s.a2 s.a3 s.a4 s.a5 n (by rw [crows_len]; simp; omega) (some_inner s hs L n c hc hL (hl c hcm) (hok c hcm) c 0 true rfl (by omega) (fun h => ?_) fun h => ?_)
    · have : someB s (c :: l) = true := by simp only [someB, List.any_cons]; rw [show clauseB s c = true by simpa using h]; rfl
      rw [this]
    · have : someB s (c :: l) = someB s l := by simp only [someB, List.any_cons]; rw [show clauseB s c = false by simpa using h]; rfl
      rw [this]
      exact hrec

theorem some_ev (s : Six) (hs : s.ok) (L : List (List Hf)) (hL : L.length ≤ 1000) (hl : ∀ c ∈ L, c.length ≤ 1000) (hok : ∀ c ∈ L, ∀ h ∈ c, h.ok) : EvF Try.prog prim 19 [.v (.sl (crows L)), .agg s.pv] [] [] [.v (.bool (someB s L))] [] :=
  F19.p0 (crows L) s.a0 s.a1 s.a2 s.a3 s.a4 s.a5 (some_loop s hs L hL hl hok L 0 rfl (by omega))

/-! ### the laws -/

theorem alive21 : EvF Try.prog prim 14 [] [] [] [.v (.bool true)] [] := by
  let L : List (List Hf) := [[⟨0, 1, false, 1, 2⟩], [⟨0, 1, false, 3, 2⟩]]
  have hok : ∀ c ∈ L, ∀ h ∈ c, h.ok := by
    intro c hc h hh
    simp only [L, List.mem_cons, List.not_mem_nil, or_false] at hc
    rcases hc with rfl | rfl <;> (simp only [List.mem_cons, List.not_mem_nil, or_false] at hh; subst hh; exact ⟨in64 (by decide) (by decide), in64 (by decide) (by decide), inW (by decide) (by decide), inW (by decide) (by decide)⟩)
  have h1 := clean_ev L (by decide) (by decide) hok
  have h2 := clean_ev [] (by decide) (by decide) (by simp)
  have e1 : clean L = [[⟨0, 1, false, 3, 2⟩]] := by decide +kernel
  have e2 : clean [] = [] := by decide +kernel
  rw [e1] at h1
  rw [e2] at h2
  exact F14.p0 _ _ _ 0 1 false 3 2 (fun _ => rfl) (fun _ => rfl) (fun _ => rfl) h1 h2

theorem pruneTells (L : List (List Hf)) (hL : L.length < 2 ^ 62) (hl : ∀ c ∈ L, (∀ h ∈ c, h.ok) ∧ c.length < 2 ^ 62) : EvF Try.prog prim 4 [.v (.sl (crows L))] [] [] [.v (.bool true)] [] := by
  have hf := few_ev2 L hL fun c hc => (hl c hc).2
  cases hb : decide (fewN L 0 ≤ 120) with
  | false =>
    rw [hb] at hf
    exact F4.p0 _ true false rfl alive21 fun _ => hf
  | true =>
    rw [hb] at hf
    obtain ⟨b1, b2⟩ := fewN_le L 0 (by omega) (by simpa using hb)
    have c1 := clean_ev L (by omega) (fun c hc => by have := b2 c hc; omega) fun c hc => (hl c hc).1
    have c2 := rclean_ev L (by omega) (fun c hc => by have := b2 c hc; omega) fun c hc => (hl c hc).1
    have h3 := same_ev (clean L) (by have := clean_len L; omega) (fun c hc => by obtain ⟨d, hd, h1, -⟩ := clean_mem c hc; have := b2 d hd; omega)
    exact F4.p1 _ true true _ _ true rfl alive21 (fun _ => hf) c1 c2 h3

theorem pruneMeans (L : List (List Hf)) (s : Six) (hL : L.length < 2 ^ 62) (hl : ∀ c ∈ L, (∀ h ∈ c, h.ok) ∧ c.length < 2 ^ 62) (hs : s.ok) : EvF Try.prog prim 5 [.v (.sl (crows L)), .agg s.pv] [] [] [.v (.bool true)] [] := by
  have hf := few_ev2 L hL fun c hc => (hl c hc).2
  cases hb : decide (fewN L 0 ≤ 120) with
  | false =>
    rw [hb] at hf
    exact F5.p0 _ s.a0 s.a1 s.a2 s.a3 s.a4 s.a5 true false rfl alive21 fun _ => hf
  | true =>
    rw [hb] at hf
    obtain ⟨b1, b2⟩ := fewN_le L 0 (by omega) (by simpa using hb)
    have hok := fun c hc => (hl c hc).1
    have c1 := clean_ev L (by omega) (fun c hc => by have := b2 c hc; omega) hok
    have hcl := clean_len L
    have hcc : ∀ c ∈ clean L, c.length ≤ 1000 := fun c hc => by obtain ⟨d, hd, h1, -⟩ := clean_mem c hc; have := b2 d hd; omega
    have hcok : ∀ c ∈ clean L, ∀ h ∈ c, h.ok := fun c hc h hh => by obtain ⟨d, hd, -, h1⟩ := clean_mem c hc; exact hok d hd h (h1 h hh)
    have s1 := some_ev s hs (clean L) (by omega) hcc hcok
    have s2 := some_ev s hs L (by omega) (fun c hc => by have := b2 c hc; omega) hok
    rw [clean_means s L hok] at s1
    have c3 := clean_ev (clean L) (by omega) hcc hcok
    rw [clean_twice] at c3
    have h3 := same_ev (clean L) (by omega) (fun c hc => by have := hcc c hc; omega)
    have := F5.p1 (crows L) s.a0 s.a1 s.a2 s.a3 s.a4 s.a5 true true (crows (clean L)) (someB s L) (someB s L) (crows (clean L)) true rfl alive21 (fun _ => hf) c1 s1 s2 (fun _ => c3) (fun _ => h3)
    have e : (bif (bif (someB s L == someB s L) then true else false) then (decide ((((crows (clean L)).length : Int)) ≤ (((crows L).length : Int)))) else false) = true := by
      rw [crows_len, crows_len]
      simp
      omega
    rw [e] at this
    exact this

end Go.Ab.S2
