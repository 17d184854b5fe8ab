/-
Nots taken down: both answers; what comes of it.
-/
import Derived.Test.YtimkgalclegffaaSenseLaw
import Derived.Test.YtimkgalclegffaaFB
namespace Go.Ab.S1
open Go Go.Proofs Go.Ab

/-! ### conditions that may be -/

theorem zero_of {a o m v : Int} (h : zeroB a o m v = true) : a = 0 ∧ o = 0 ∧ m = 0 ∧ v = 0 := by
  unfold zeroB at h
  simp only [Bool.and_eq_true, beq_iff_eq] at h
  exact ⟨h.1, h.2.1, h.2.2.1, h.2.2.2.1⟩

theorem may_of {a o : Int} (h : mayB a o = true) : (0 ≤ a ∧ a ≤ 5) ∧ 1 ≤ o ∧ o ≤ 6 := by
  unfold mayB at h
  by_cases h1 : a ≥ 0 <;> by_cases h2 : a ≤ 5 <;> by_cases h3 : o ≥ 1 <;> by_cases h4 : o ≤ 6 <;> simp_all

/-- What a condition is that may be. -/
inductive Rt : Co → Prop
  | yes : Rt (.mk 1 0 0 0 0 [])
  | not {c : Co} (h : right c = true) : Rt (.mk 2 0 0 0 0 [c])
  | all {l : List Co} (h : rights l = true) : Rt (.mk 3 0 0 0 0 l)
  | some {l : List Co} (h : rights l = true) : Rt (.mk 4 0 0 0 0 l)
  | atom {a o m v : Int} (h : mayB a o = true) : Rt (.mk 5 a o m v [])

theorem rt_of : ∀ {c : Co}, right c = true → Rt c
  | .mk k a o m v l, h => by
    simp only [right, Bool.and_eq_true] at h
    obtain ⟨h, hl⟩ := h
    unfold plainB at h
    split at h
    · rename_i hk
      subst hk
      simp only [Bool.and_eq_true, beq_iff_eq] at h
      have : l = [] := by
        cases l with
        | nil => rfl
        | cons c l => have := h.2; simp at this; omega
      subst this
      exact .atom h.1
    split at h
    · rename_i hk
      subst hk
      simp only [Bool.and_eq_true, beq_iff_eq] at h
      have : l = [] := by
        cases l with
        | nil => rfl
        | cons c l => have := h.1; simp at this; omega
      subst this
      obtain ⟨rfl, rfl, rfl, rfl⟩ := zero_of h.2
      exact .yes
    split at h
    · rename_i hk
      subst hk
      simp only [Bool.and_eq_true, beq_iff_eq] at h
      obtain ⟨rfl, rfl, rfl, rfl⟩ := zero_of h.2
      match l, h.1, hl with
      | [c], _, hl => exact .not (by simpa [rights] using hl)
      | [], h1, _ => simp at h1
      | _ :: _ :: _, h1, _ => simp at h1; omega
    split at h
    · rename_i hk
      subst hk
      obtain ⟨rfl, rfl, rfl, rfl⟩ := zero_of h
      exact .all hl
    split at h
    · rename_i hk
      subst hk
      obtain ⟨rfl, rfl, rfl, rfl⟩ := zero_of h
      exact .some hl
    · simp at h

theorem right_all (l : List Co) : right (.mk 3 0 0 0 0 l) = rights l := by simp [right, plainB, zeroB]
theorem right_some (l : List Co) : right (.mk 4 0 0 0 0 l) = rights l := by simp [right, plainB, zeroB]
theorem right_yes : right (.mk 1 0 0 0 0 []) = true := by decide +kernel
theorem right_no : right (.mk 4 0 0 0 0 []) = true := by decide +kernel

/-! ### nots taken down -/

def opp (o : Int) : Int := if o = 1 then 2 else if o = 2 then 1 else if o = 3 then 6 else if o = 6 then 3 else if o = 5 then 4 else 5

mutual
/-- 'b': without a not -/
def down : Co → Bool → Co
  | .mk k a o m v l, b =>
    if k = 2 then downN l (!b) else if k = 1 then (if b then .mk 1 0 0 0 0 [] else .mk 4 0 0 0 0 [])
    else if k = 5 then .mk 5 a (if b then o else opp o) m v [] else .mk (if b then k else 7 - k) 0 0 0 0 (downs l b)
def downN : List Co → Bool → Co
  | [], _ => .mk 4 0 0 0 0 []
  | c :: _, b => down c b
def downs : List Co → Bool → List Co
  | [], _ => []
  | c :: l, b => down c b :: downs l b
end

theorem downs_len : ∀ (l : List Co) (b : Bool), (downs l b).length = l.length
  | [], _ => rfl
  | c :: l, b => by simp [downs, downs_len l b]

theorem down_yes (b : Bool) : down (.mk 1 0 0 0 0 []) b = if b then .mk 1 0 0 0 0 [] else .mk 4 0 0 0 0 [] := rfl
theorem down_not (c : Co) (b : Bool) : down (.mk 2 0 0 0 0 [c]) b = down c (!b) := rfl
theorem down_all (l : List Co) (b : Bool) : down (.mk 3 0 0 0 0 l) b = .mk (if b then 3 else 4) 0 0 0 0 (downs l b) := by cases b <;> rfl
theorem down_some (l : List Co) (b : Bool) : down (.mk 4 0 0 0 0 l) b = .mk (if b then 4 else 3) 0 0 0 0 (downs l b) := by cases b <;> rfl
theorem down_atom (a o m v : Int) (b : Bool) : down (.mk 5 a o m v []) b = .mk 5 a (if b then o else opp o) m v [] := rfl

theorem opp_in (o : Int) : 1 ≤ opp o ∧ opp o ≤ 6 := by unfold opp; repeat' split <;> omega

theorem no_ok : (Co.mk 4 0 0 0 0 []).ok := leaf_ok (by omega) (by omega) (by omega) (by omega) (by omega) (by decide) trivial
theorem yes_ok : (Co.mk 1 0 0 0 0 []).ok := leaf_ok (by omega) (by omega) (by omega) (by omega) (by omega) (by decide) trivial

mutual
theorem down_ok : ∀ (c : Co) (b : Bool), c.ok → right c = true → (down c b).ok
  | .mk k a o m v l, b, h, hr => by
    have ht := rt_of hr
    cases ht with
    | yes => rw [down_yes]; cases b <;> first | exact no_ok | exact yes_ok
    | not hq => simp only [Co.ok] at h; rw [down_not]; exact down_ok _ _ h.2.2.2.2.2.2.1 hq
    | all hr =>
      simp only [Co.ok] at h
      rw [down_all]
      exact leaf_ok (by cases b <;> simp) (by omega) (by omega) (by omega) (by omega) (by rw [downs_len]; exact h.2.2.2.2.2.1) (downs_ok _ _ h.2.2.2.2.2.2 hr)
    | some hr =>
      simp only [Co.ok] at h
      rw [down_some]
      exact leaf_ok (by cases b <;> simp) (by omega) (by omega) (by omega) (by omega) (by rw [downs_len]; exact h.2.2.2.2.2.1) (downs_ok _ _ h.2.2.2.2.2.2 hr)
    | atom hm =>
      simp only [Co.ok] at h
      rw [down_atom]
      refine ⟨h.1, h.2.1, ?_, h.2.2.2.1, h.2.2.2.2.1, h.2.2.2.2.2.1, trivial⟩
      cases b with
      | true => exact h.2.2.1
      | false => have := opp_in o; exact in64 (by simp; omega) (by simp; omega)
theorem downs_ok : ∀ (l : List Co) (b : Bool), oks l → rights l = true → oks (downs l b)
  | [], _, _, _ => trivial
  | c :: l, b, h, hr => by
    simp only [rights, Bool.and_eq_true] at hr
    exact ⟨down_ok c b h.1 hr.1, downs_ok l b h.2 hr.2⟩
end

mutual
theorem down_right : ∀ (c : Co) (b : Bool), right c = true → right (down c b) = true
  | .mk k a o m v l, b, hr => by
    have ht := rt_of hr
    cases ht with
    | yes => rw [down_yes]; cases b <;> first | exact right_no | exact right_yes
    | not hq => rw [down_not]; exact down_right _ _ hq
    | all hr =>
      rw [down_all]
      have := downs_right _ b hr
      cases b
      · exact (right_some _).trans this
      · exact (right_all _).trans this
    | some hr =>
      rw [down_some]
      have := downs_right _ b hr
      cases b
      · exact (right_all _).trans this
      · exact (right_some _).trans this
    | atom hm =>
      rw [down_atom]
      cases b with
      | true => exact hr
      | false =>
        have h1 := opp_in o
        have h2 := may_of hm
        have : mayB a (opp o) = true := by unfold mayB; simp; omega
        simp [right, plainB, rights, this]
theorem downs_right : ∀ (l : List Co) (b : Bool), rights l = true → rights (downs l b) = true
  | [], _, _ => rfl
  | c :: l, b, hr => by
    simp only [rights, Bool.and_eq_true] at hr
    simp only [downs, rights, down_right c b hr.1, downs_right l b hr.2, Bool.and_self]
end

/-! ### what it means -/

theorem comp_opp {o : Int} (h : 1 ≤ o ∧ o ≤ 6) (a b : Int) : comp (opp o) a b = !comp o a b := by
  have : o = 1 ∨ o = 2 ∨ o = 3 ∨ o = 4 ∨ o = 5 ∨ o = 6 := by omega
  rcases this with rfl | rfl | rfl | rfl | rfl | rfl <;> simp [comp, opp] <;> first | rfl | omega | skip
  all_goals (first | (rw [Bool.eq_iff_iff]; simp; done) | (rw [Bool.eq_iff_iff]; simp; omega))

mutual
theorem down_hold (x : Six) : ∀ (c : Co) (b : Bool), right c = true → hold x (down c b) = (hold x c == b)
  | .mk k a o m v l, b, hr => by
    have ht := rt_of hr
    cases ht with
    | yes => rw [down_yes]; cases b <;> rfl
    | not hq =>
      rw [down_not, down_hold x _ _ hq]
      simp only [hold, if_true, holdN]
      cases hold x _ <;> cases b <;> rfl
    | all hr =>
      rw [down_all]
      cases b
      · have := downs_holdF x _ hr
        simp only [hold]
        simpa using this.1
      · have := downs_holdT x _ hr
        simp only [hold]
        simpa using this.1
    | some hr =>
      rw [down_some]
      cases b
      · have := downs_holdF x _ hr
        simp only [hold]
        simpa using this.2
      · have := downs_holdT x _ hr
        simp only [hold]
        simpa using this.2
    | atom hm =>
      rw [down_atom]
      cases b with
      | true => simp
      | false =>
        have := comp_opp (may_of hm).2 (msk (x.at a) m) v
        simp only [hold]
        simpa using this
theorem downs_holdF (x : Six) : ∀ (l : List Co), rights l = true → holdO x (downs l false) = !(holdA x l) ∧ holdA x (downs l false) = !(holdO x l)
  | [], _ => ⟨rfl, rfl⟩
  | c :: l, hr => by
    simp only [rights, Bool.and_eq_true] at hr
    have h1 := down_hold x c false hr.1
    have h2 := downs_holdF x l hr.2
    simp only [downs, holdO, holdA, h1, h2.1, h2.2]
    cases hold x c <;> simp
theorem downs_holdT (x : Six) : ∀ (l : List Co), rights l = true → holdA x (downs l true) = holdA x l ∧ holdO x (downs l true) = holdO x l
  | [], _ => ⟨rfl, rfl⟩
  | c :: l, hr => by
    simp only [rights, Bool.and_eq_true] at hr
    have h1 := down_hold x c true hr.1
    have h2 := downs_holdT x l hr.2
    simp only [downs, holdO, holdA, h1, h2.1, h2.2]
    cases hold x c <;> simp
end

/-! ### no nots -/

mutual
def noNot : Co → Bool
  | .mk k _ _ _ _ l => bif noNots l then k != 2 else false
def noNots : List Co → Bool
  | [] => true
  | c :: l => noNot c && noNots l
end

mutual
theorem down_noNot : ∀ (c : Co) (b : Bool), right c = true → noNot (down c b) = true
  | .mk k a o m v l, b, hr => by
    have ht := rt_of hr
    cases ht with
    | yes => rw [down_yes]; cases b <;> rfl
    | not hq => rw [down_not]; exact down_noNot _ _ hq
    | all hr => rw [down_all]; cases b <;> simp [noNot, downs_noNot _ _ hr]
    | some hr => rw [down_some]; cases b <;> simp [noNot, downs_noNot _ _ hr]
    | atom hm => rw [down_atom]; rfl
theorem downs_noNot : ∀ (l : List Co) (b : Bool), rights l = true → noNots (downs l b) = true
  | [], _, _ => rfl
  | c :: l, b, hr => by
    simp only [rights, Bool.and_eq_true] at hr
    simp [downs, noNots, down_noNot c b hr.1, downs_noNot l b hr.2]
end

mutual
theorem down_same : ∀ (c : Co), right c = true → noNot c = true → down c true = c
  | .mk k a o m v l, hr, hn => by
    have ht := rt_of hr
    cases ht with
    | yes => rfl
    | not hr => simp [noNot] at hn
    | all hr =>
      rw [down_all, downs_same _ hr]
      · rfl
      · simpa [noNot] using hn
    | some hr =>
      rw [down_some, downs_same _ hr]
      · rfl
      · simpa [noNot] using hn
    | atom hm => rfl
theorem downs_same : ∀ (l : List Co), rights l = true → noNots l = true → downs l true = l
  | [], _, _ => rfl
  | c :: l, hr, hn => by
    simp only [rights, noNots, Bool.and_eq_true] at hr hn
    rw [downs, down_same c hr.1 hn.1, downs_same l hr.2 hn.2]
end

mutual
theorem none_ev : ∀ (c : Co), c.ok → EvF Try.prog prim 17 [.agg c.row] [] [] [.v (.bool (noNot c))] []
  | .mk k a o m v l, h => by
    simp only [Co.ok] at h
    exact F17.p0 k a o m v (rows l) (none_loop l k a o m v l 0 (by simp) (by omega) h.2.2.2.2.2.1 h.2.2.2.2.2.2)
theorem none_loop : ∀ (l : List Co) (k a o m v : Int) (L : List Co) (i : Nat), L.drop i = l → i ≤ L.length → L.length < 2 ^ 63 → oks l →
    EvK Try.prog prim Try.f17 (loopAt Try.f17 0) (F17.h0 k a o m v (rows L) i) [.v (.bool (bif noNots l then k != 2 else false))] []
  | [], k, a, o, m, v, L, i, hl, hi, hL, hk => by
    have := drop_end hi hl
    exact F17.l0_3 k a o m v (rows L) i (by rw [rows_len]; simp; omega)
  | c :: l, k, a, o, m, v, L, i, hl, hi, hL, hk => by
    obtain ⟨hc, hl', hlt⟩ := drop_get hl
    obtain ⟨hck, hlk⟩ := hk
    have hev := none_ev c hck
    have hrec := none_loop l k a o m v L (i + 1) hl' (by omega) hL hlk
    have hget := rows_get hc
    cases c with
    | mk k' a' o' m' v' l' =>
      cases hn : noNot (.mk k' a' o' m' v' l') with
      | false =>
        rw [hn] at hev
        simp only [noNots, hn, Bool.false_and, cond_false]
        exact F17.l0_1 k a o m v (rows L) i k' a' o' m' v' (rows l') false (by rw [rows_len]; simp; omega) (by omega) (by simpa [Co.row] using hget) rfl hev
      | true =>
        rw [hn] at hev
        simp only [noNots, hn, Bool.true_and]
        exact F17.l0_2 k a o m v (rows L) i k' a' o' m' v' (rows l') true (by rw [rows_len]; simp; omega) (by omega) (by simpa [Co.row] using hget) rfl (in64 (by omega) (by omega)) hev hrec
end

/-! ### a condition is like itself -/

mutual
theorem same_ev : ∀ (c : Co), c.ok → EvF Try.prog prim 15 [.agg c.row, .agg c.row] [] [] [.v (.bool true)] []
  | .mk k a o m v l, h => by
    simp only [Co.ok] at h
    exact F15.p1 k a o m v (rows l) k a o m v (rows l) (by simp) (same_loop l k a o m v l 0 (by simp) (by omega) h.2.2.2.2.2.1 h.2.2.2.2.2.2)
theorem same_loop : ∀ (l : List Co) (k a o m v : Int) (L : List Co) (i : Nat), L.drop i = l → i ≤ L.length → L.length < 2 ^ 63 → oks l →
    EvK Try.prog prim Try.f15 (loopAt Try.f15 0) (F15.h0 k a o m v (rows L) k a o m v (rows L) i) [.v (.bool true)] []
  | [], k, a, o, m, v, L, i, hl, hi, hL, hk => by
    have := drop_end hi hl
    exact F15.l0_4 k a o m v (rows L) k a o m v (rows L) i (by rw [rows_len]; simp; omega)
  | c :: l, k, a, o, m, v, L, i, hl, hi, hL, hk => by
    obtain ⟨hc, hl', hlt⟩ := drop_get hl
    obtain ⟨hck, hlk⟩ := hk
    have hev := same_ev c hck
    have hrec := same_loop l k a o m v L (i + 1) hl' (by omega) hL hlk
    have hget := rows_get hc
    cases c with
    | mk k' a' o' m' v' l' =>
      exact F15.l0_3 k a o m v (rows L) k a o m v (rows L) i k' a' o' m' v' (rows l') k' a' o' m' v' (rows l') true (by rw [rows_len]; simp; omega) (by omega) (by simpa [Co.row] using hget) (by simpa [Co.row] using hget) rfl (in64 (by omega) (by omega)) hev hrec
end

/-! ### both answers -/

theorem nodes_len : ∀ (l : List Co) (n : Int), n + l.length ≤ nodesIn l n
  | [], n => by simp [nodesIn]
  | c :: l, n => by
    have h1 := nodes_pos c
    have h2 := nodes_len l (n + nodes c)
    unfold nodesIn
    simp
    omega

theorem other_ev (o : Int) : EvF Try.prog prim 45 [.v (.int .i64 o)] [] [] [.v (.int .i64 (opp o))] [] := by
  unfold opp
  by_cases h1 : o = 1
  · subst h1; exact F45.p0 1 rfl
  by_cases h2 : o = 2
  · subst h2; exact F45.p1 2 rfl rfl
  by_cases h3 : o = 3
  · subst h3; exact F45.p2 3 rfl rfl rfl
  by_cases h6 : o = 6
  · subst h6; exact F45.p3 6 rfl rfl rfl rfl
  by_cases h5 : o = 5
  · subst h5; exact F45.p4 5 rfl rfl rfl rfl rfl
  simp only [h1, h2, h3, h5, h6, if_false]
  exact F45.p5 o (by simpa using h1) (by simpa using h2) (by simpa using h3) (by simpa using h6) (by simpa using h5)

theorem rother_ev {o : Int} (h : 1 ≤ o ∧ o ≤ 6) : EvF Try.prog prim 47 [.v (.int .i64 o)] [] [] [.v (.int .i64 (opp o))] [] := by
  have : o = 1 ∨ o = 2 ∨ o = 3 ∨ o = 4 ∨ o = 5 ∨ o = 6 := by omega
  rcases this with rfl | rfl | rfl | rfl | rfl | rfl <;> exact F47.p0 _ _ (by omega) rfl

theorem rows_app (l k : List Co) : rows (l ++ k) = rows l ++ rows k := by simp [rows_map]

theorem rows_six {l : List Co} : ∀ r ∈ rows l, r.length = 6 := by
  intro r hr
  rw [rows_map] at hr
  obtain ⟨c, -, rfl⟩ := List.mem_map.1 hr
  exact row_len c

mutual
theorem down_ev : ∀ (c : Co) (b : Bool), c.ok → right c = true → nodes c ≤ 1000 → EvF Try.prog prim 34 [.agg c.row, .v (.bool b)] [] [] [.agg (down c b).row] []
  | .mk k a o m v l, b, h, hr, hn => by
    have ht := rt_of hr
    simp only [Co.ok] at h
    unfold nodes at hn
    have hlen := nodes_len l 1
    cases ht with
    | yes =>
      cases b with
      | false => exact F34.p1 1 0 0 0 0 [] false rfl rfl
      | true =>
        have hk := EvF.soft (F46.p0 [] true (kids_loop [] [] 0 true [] rfl (by simp) trivial rfl (by simp) (by simp) (by simp [nodesIn])))
        exact F34.p5 1 0 0 0 0 [] true [] rfl rfl rfl rfl rfl hk
    | @not c hrc =>
      have hev := down_ev c (!b) h.2.2.2.2.2.2.1 hrc (by have := nodesIn_pos [] (1 + nodes c); simp [nodesIn] at hn; omega)
      rw [down_not]
      cases hd : down c (!b) with
      | mk k2 a2 o2 m2 v2 l2 =>
        rw [hd] at hev
        cases c with
        | mk k' a' o' m' v' l' => exact F34.p0 2 0 0 0 0 _ b k' a' o' m' v' (rows l') k2 a2 o2 m2 v2 (rows l2) rfl rfl hev
    | all hrl =>
      have hk := EvF.soft (F46.p0 (rows l) b (kids_loop l l 0 b [] (by simp) (by omega) h.2.2.2.2.2.2 hrl (by simp) (by omega) hn))
      rw [down_all]
      cases b with
      | false => exact F34.p3 3 0 0 0 0 (rows l) false (rows (downs l false)) rfl rfl rfl rfl hk
      | true => exact F34.p5 3 0 0 0 0 (rows l) true (rows (downs l true)) rfl rfl rfl rfl rfl hk
    | some hrl =>
      have hk := EvF.soft (F46.p0 (rows l) b (kids_loop l l 0 b [] (by simp) (by omega) h.2.2.2.2.2.2 hrl (by simp) (by omega) hn))
      rw [down_some]
      cases b with
      | false => exact F34.p4 4 0 0 0 0 (rows l) false (rows (downs l false)) rfl rfl rfl rfl rfl hk
      | true => exact F34.p5 4 0 0 0 0 (rows l) true (rows (downs l true)) rfl rfl rfl rfl rfl hk
    | atom hm =>
      have hk := EvF.soft (F46.p0 [] b (kids_loop [] [] 0 b [] rfl (by simp) trivial rfl (by simp) (by simp) (by simp [nodesIn])))
      cases b with
      | false => exact F34.p2 5 a o m v [] false (opp o) [] rfl rfl rfl (other_ev o) hk
      | true => exact F34.p5 5 a o m v [] true [] rfl rfl rfl rfl rfl hk
theorem kids_loop : ∀ (l L : List Co) (i : Nat) (b : Bool) (out : List Co), L.drop i = l → i ≤ L.length → oks l → rights l = true → out.length = i → L.length ≤ 1000 → nodesIn l 1 ≤ 1000 →
    EvK Try.prog prim Try.f46 (loopAt Try.f46 0) (F46.h0 (rows L) b (rows out) i) [.own 0 (rows (out ++ downs l b))] []
  | [], L, i, b, out, hl, hi, hk, hr, ho, hL, hn => by
    have := drop_end hi hl
    have := F46.l0_2 (rows L) b (rows out) i (by rw [rows_len]; simp; omega)
    simpa [downs] using this
  | c :: l, L, i, b, out, hl, hi, hk, hr, ho, hL, hn => by
    obtain ⟨hc, hl', hlt⟩ := drop_get hl
    obtain ⟨hck, hlk⟩ := hk
    simp only [rights, Bool.and_eq_true] at hr
    have hn' := hn
    unfold nodesIn at hn'
    have h1 := nodes_pos c
    have h2 := nodesIn_pos l (1 + nodes c)
    have hev := down_ev c b hck hr.1 (by omega)
    have mono : ∀ (l : List Co) (n m : Int), n ≤ m → nodesIn l n ≤ nodesIn l m := by
      intro l
      induction l with
      | nil => intro n m h; simpa [nodesIn] using h
      | cons c l ih => intro n m h; unfold nodesIn; exact ih _ _ (by omega)
    have hrec := kids_loop l L (i + 1) b (out ++ [down c b]) hl' (by omega) hlk hr.2 (by simp [ho]) hL (by
      have := mono l 1 (1 + nodes c) (by omega)
      omega)
    have hget := rows_get hc
    rw [rows_app, List.append_assoc] at hrec
    have e : rows [down c b] = [(down c b).row] := rfl
    rw [e] at hrec
    have hout : (rows out).length = i := by rw [rows_len, ho]
    have h6 : ∀ r ∈ rows out ++ [(down c b).row], r.length = 6 := by rw [← e, ← rows_app]; exact rows_six
    cases hd : down c b with
    | mk k2 a2 o2 m2 v2 l2 =>
      rw [hd] at hev hrec h6
      cases c with
      | mk k' a' o' m' v' l' =>
        have := F46.l0_1 (rows L) b (rows out) i k' a' o' m' v' (rows l') k2 a2 o2 m2 v2 (rows l2) (by rw [rows_len]; simp; omega) (by omega) (by simpa [Co.row] using hget) (by simp [hout]; omega) h6 (in64 (by omega) (by omega)) hev hrec
        simpa [downs, hd] using this
end

end Go.Ab.S1
