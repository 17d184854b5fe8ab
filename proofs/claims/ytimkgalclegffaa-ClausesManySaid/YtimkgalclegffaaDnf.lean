/-
The document's clauses; what both answer.
-/
import Derived.Test.YtimkgalclegffaaClause
namespace Go.Ab.S1
open Go Go.Proofs Go.Ab

def resC (q : Option (List (List At))) : List AV :=
  match q with
  | some y => [.v (.sl (crows y)), .v (.int .i64 0)]
  | none => [.v (.sl []), .v (.int .i64 9)]

theorem d3_loop (k a o m v : Int) (l : List Co) (A B : List (List At)) (hA : low 50000 A) (hB : low 50000 B) (hl : A.length ≤ 300) (hlb : B.length ≤ 300) (i j : Nat) (x : List At) (hj : A[j]? = some x) {r : List AV} {h : List (List AV)} : ∀ (n q : Nat) (out : List (List At)), q + n = B.length → out.length ≤ j * B.length + q →
    EvK Try.prog prim Try.f44 (loopAt Try.f44 2) (F44.h2 k a o m v (rows l) (j + 1) (crows (out ++ (B.drop q).map fun y => x ++ y)) (crows A) i (crows B)) r h →
    EvK Try.prog prim Try.f44 (loopAt Try.f44 3) (F44.h3 k a o m v (rows l) (crows out) q j (crows A) i (crows B)) r h
  | 0, q, out, hq, ho, hc => by
    have hjl := (List.getElem?_eq_some_iff.1 hj).1
    rw [List.drop_of_length_le (by omega), List.map_nil, List.append_nil] at hc
    exact F44.l3_15 k a o m v (rows l) (crows out) q j (crows A) i (crows B) (by rw [crows_len]; simp; omega) (in64 (by omega) (by omega)) hc
  | n + 1, q, out, hq, ho, hc => by
    have hjl := (List.getElem?_eq_some_iff.1 hj).1
    have hlt : q < B.length := by omega
    have hg := List.getElem?_eq_getElem hlt
    rw [List.drop_eq_getElem_cons hlt] at hc
    generalize B[q] = y at hg hc
    have hx := low_get hA hj
    have hy := low_get hB hg
    have e : crows out ++ [[PV.sl (arows x ++ arows y)]] = crows (out ++ [x ++ y]) := by rw [crows_app, ← arows_app]; rfl
    have hmul : j * B.length ≤ 300 * 300 := Nat.mul_le_mul (by omega) hlb
    have lx := arows_len x
    have ly := arows_len y
    have ih := d3_loop k a o m v l A B hA hB hl hlb i j x hj n (q + 1) (out ++ [x ++ y]) (by omega) (by simp; omega) (by
      rw [List.append_assoc]
      exact hc)
    refine F44.l3_14 k a o m v (rows l) (crows out) q j (crows A) i (crows B) (arows x) (arows y) (by rw [crows_len]; simp; omega) (by omega) (crows_get hj) (by omega) (arows_four x) (by omega) (crows_get hg) (by rw [List.length_append]; omega)
      (by rw [← arows_app]; exact arows_four _) (by rw [e, crows_len]; simp; omega) (by rw [e]; exact crows_one _) (in64 (by omega) (by omega)) ?_
    rw [e]
    exact ih

theorem d2_loop (k a o m v : Int) (l : List Co) (A B : List (List At)) (hA : low 50000 A) (hB : low 50000 B) (hl : A.length ≤ 300) (hlb : B.length ≤ 300) (i : Nat) (hi : i < 9223372036854775807) {r : List AV} {h : List (List AV)}
    (hc : EvK Try.prog prim Try.f44 (loopAt Try.f44 1) (F44.h1 k a o m v (rows l) (crows (prod A B)) (i + 1)) r h) : ∀ (n j : Nat), j + n = A.length →
    EvK Try.prog prim Try.f44 (loopAt Try.f44 2) (F44.h2 k a o m v (rows l) j (crows (prod (A.take j) B)) (crows A) i (crows B)) r h
  | 0, j, hj => by
    rw [List.take_of_length_le (by omega)]
    exact F44.l2_13 k a o m v (rows l) j (crows (prod A B)) (crows A) i (crows B) (by rw [crows_len]; simp; omega) (in64 (by omega) (by omega)) hc
  | n + 1, j, hj => by
    have hlt : j < A.length := by omega
    have hg := List.getElem?_eq_getElem hlt
    generalize A[j] = x at hg
    have ih := d2_loop k a o m v l A B hA hB hl hlb i hi hc n (j + 1) (by omega)
    have e : prod (A.take (j + 1)) B = prod (A.take j) B ++ (B.drop 0).map fun y => x ++ y := by
      rw [take_succ' hg]
      unfold prod
      rw [List.flatMap_append, List.drop_zero]
      simp
    rw [e] at ih
    have hmin : min j A.length = j := by omega
    refine F44.l2_12 k a o m v (rows l) j (crows (prod (A.take j) B)) (crows A) i (crows B) (by rw [crows_len]; simp; omega) ?_
    exact d3_loop k a o m v l A B hA hB hl hlb i j x hg B.length 0 (prod (A.take j) B) (by omega) (by rw [prod_len, List.length_take, hmin]; omega) ih

mutual
theorem dnf_ev : ∀ (c : Co), c.ok → right c = true → noNot c = true → nodes c ≤ 1000 → EvF Try.prog prim 44 [.agg c.row] [] [] (resC (cls c)) []
  | .mk k a o m v l, h, hr, hn, hs => by
    have hk := rt_kind hr hn
    have hrl := right_kids hr
    have hnl := noNots_of hn
    simp only [Co.ok] at h
    have hs' : nodesIn l 1 ≤ 1000 := hs
    unfold cls
    by_cases h5 : k = 5
    · rw [if_pos h5]
      have h1 : ¬ k = 1 := by omega
      exact EvF.soft (F44.p1 k a o m v (rows l) (by simpa using h1) (by simpa using h5))
    rw [if_neg h5]
    have h5' : (k == 5) = false := by simpa using h5
    by_cases h1 : k = 1
    · have hl : l = [] := by
        rcases hk with ⟨_, h⟩ | h | h | h
        · exact h
        all_goals omega
      subst hl
      rw [if_pos h1]
      exact EvF.soft (F44.p0 k a o m v [] (by simpa using h1))
    rw [if_neg h1]
    have h1' : (k == 1) = false := by simpa using h1
    by_cases h3 : k = 3
    · rw [if_pos h3]
      have h4 : ¬ k = 4 := by omega
      have l0 : low 1 [([] : List At)] := fun c hc => by rw [List.mem_singleton] at hc; subst hc; simp
      refine F44.p3 k a o m v (rows l) h1' h5' (by simpa using h4) ?_
      subst h3
      exact dand_loop l a o m v l 0 [[]] 1 (by simp) (by omega) h.2.2.2.2.2.1 h.2.2.2.2.2.2 hrl hnl (by omega) hs' (by simp) l0
    · rw [if_neg h3]
      have h4 : k = 4 := by omega
      refine F44.p2 k a o m v (rows l) h1' h5' (by simpa using h4) ?_
      subst h4
      exact dor_loop l a o m v l 0 [] 1 (by simp) (by omega) h.2.2.2.2.2.1 h.2.2.2.2.2.2 hrl hnl (by omega) hs' (by simp) (fun c hc => by simp at hc)
theorem dor_loop : ∀ (l : List Co) (a o m v : Int) (L : List Co) (i : Nat) (acc : List (List At)) (n : Int), L.drop i = l → i ≤ L.length → L.length < 2 ^ 63 → oks l → rights l = true → noNots l = true → 0 ≤ n → nodesIn l n ≤ 1000 → acc.length ≤ 256 → low n.toNat acc →
    EvK Try.prog prim Try.f44 (loopAt Try.f44 0) (F44.h0 4 a o m v (rows L) (crows acc) i) (resC (clsN 4 l acc)) []
  | [], a, o, m, v, L, i, acc, n, hl, hi, hL, hk, hr, hn, h0, hs, ha, hw => by
    have := drop_end hi hl
    unfold clsN
    exact EvK.soft (F44.l0_7 4 a o m v (rows L) (crows acc) i (by rw [rows_len]; simp; omega))
  | c :: l, a, o, m, v, L, i, acc, n, hl, hi, hL, hk, hr, hn, h0, hs, ha, hw => by
    obtain ⟨hc, hl', hlt⟩ := drop_get hl
    obtain ⟨hck, hlk⟩ := hk
    simp only [rights, Bool.and_eq_true] at hr
    simp only [noNots, Bool.and_eq_true] at hn
    have hs' : nodesIn l (n + nodes c) ≤ 1000 := hs
    have hp := nodes_pos c
    have hp2 := nodesIn_pos l (n + nodes c)
    have hev := dnf_ev c hck hr.1 hn.1 (by omega)
    have hget : (rows L)[Int.toNat (i : Int)]? = some c.row := by
      have : Int.toNat (i : Int) = i := by omega
      rw [this]
      exact rows_get hc
    have go : (decide ((i : Int) < ((rows L).length : Int))) = true := by rw [rows_len]; simp; omega
    have hii : inR .i64 ((i : Int) + 1) := in64 (by omega) (by omega)
    cases c with
    | mk k2 a2 o2 m2 v2 l2 =>
    unfold clsN
    cases hx : cls (.mk k2 a2 o2 m2 v2 l2) with
    | none =>
      rw [hx] at hev
      exact F44.l0_4 4 a o m v (rows L) (crows acc) i k2 a2 o2 m2 v2 (rows l2) [] 9 go (by omega) hget rfl hev
    | some x =>
      rw [hx] at hev
      have hb := cls_bound _ x hx
      have e : crows acc ++ crows x = crows (acc ++ x) := (crows_app ..).symm
      have e1 : ((crows acc ++ crows x).length : Int) = ((acc.length + x.length : Nat) : Int) := by rw [List.length_append, crows_len, crows_len]
      simp only [stepC]
      rw [if_neg (by decide)]
      by_cases hm : acc.length + x.length ≤ 256
      · rw [if_pos hm]
        have hlow : low (n + nodes (.mk k2 a2 o2 m2 v2 l2)).toNat (acc ++ x) := fun c hc => by
          rcases List.mem_append.1 hc with hc | hc
          · have := hw c hc; omega
          · have := hb.2 c hc; omega
        have ih := dor_loop l a o m v L (i + 1) (acc ++ x) (n + nodes (.mk k2 a2 o2 m2 v2 l2)) hl' (by omega) hL hlk hr.2 hn.2 (by omega) hs' (by rw [List.length_append]; exact hm) hlow
        refine F44.l0_6 4 a o m v (rows L) (crows acc) i k2 a2 o2 m2 v2 (rows l2) (crows x) 0 go (by omega) hget rfl (by rw [e, crows_len, List.length_append]; omega) (by rw [e]; exact crows_one _) (by rw [e1]; exact decide_eq_false (by omega)) hii hev ?_
        rw [e]
        exact ih
      · rw [if_neg hm]
        exact F44.l0_5 4 a o m v (rows L) (crows acc) i k2 a2 o2 m2 v2 (rows l2) (crows x) 0 go (by omega) hget rfl (by rw [e, crows_len, List.length_append]; omega) (by rw [e]; exact crows_one _) (by rw [e1]; exact decide_eq_true (by omega)) hev
theorem dand_loop : ∀ (l : List Co) (a o m v : Int) (L : List Co) (i : Nat) (acc : List (List At)) (n : Int), L.drop i = l → i ≤ L.length → L.length < 2 ^ 63 → oks l → rights l = true → noNots l = true → 0 ≤ n → nodesIn l n ≤ 1000 → acc.length ≤ 256 → low n.toNat acc →
    EvK Try.prog prim Try.f44 (loopAt Try.f44 1) (F44.h1 3 a o m v (rows L) (crows acc) i) (resC (clsN 3 l acc)) []
  | [], a, o, m, v, L, i, acc, n, hl, hi, hL, hk, hr, hn, h0, hs, ha, hw => by
    have := drop_end hi hl
    unfold clsN
    exact F44.l1_11 3 a o m v (rows L) (crows acc) i (by rw [rows_len]; simp; omega)
  | c :: l, a, o, m, v, L, i, acc, n, hl, hi, hL, hk, hr, hn, h0, hs, ha, hw => by
    obtain ⟨hc, hl', hlt⟩ := drop_get hl
    obtain ⟨hck, hlk⟩ := hk
    simp only [rights, Bool.and_eq_true] at hr
    simp only [noNots, Bool.and_eq_true] at hn
    have hs' : nodesIn l (n + nodes c) ≤ 1000 := hs
    have hp := nodes_pos c
    have hp2 := nodesIn_pos l (n + nodes c)
    have hev := dnf_ev c hck hr.1 hn.1 (by omega)
    have hget : (rows L)[Int.toNat (i : Int)]? = some c.row := by
      have : Int.toNat (i : Int) = i := by omega
      rw [this]
      exact rows_get hc
    have go : (decide ((i : Int) < ((rows L).length : Int))) = true := by rw [rows_len]; simp; omega
    cases c with
    | mk k2 a2 o2 m2 v2 l2 =>
    unfold clsN
    cases hx : cls (.mk k2 a2 o2 m2 v2 l2) with
    | none =>
      rw [hx] at hev
      exact F44.l1_8 3 a o m v (rows L) (crows acc) i k2 a2 o2 m2 v2 (rows l2) [] 9 go (by omega) hget rfl hev
    | some x =>
      rw [hx] at hev
      have hb := cls_bound _ x hx
      have e1 : ((crows acc).length : Int) * ((crows x).length : Int) = ((acc.length * x.length : Nat) : Int) := by rw [crows_len, crows_len]; exact (Int.natCast_mul ..).symm
      have hmul : acc.length * x.length ≤ 256 * 256 := Nat.mul_le_mul ha hb.1
      simp only [stepC]
      rw [if_pos trivial]
      by_cases hm : acc.length * x.length ≤ 256
      · rw [if_pos hm]
        have hsb : (prod acc x).length ≤ 256 ∧ low (n.toNat + (nodes (.mk k2 a2 o2 m2 v2 l2)).toNat) (prod acc x) := step_bound (k := 3) ha hw hb.2 (by unfold stepC; rw [if_pos rfl, if_pos hm])
        have hiL : i < 9223372036854775807 := by omega
        have ih := dand_loop l a o m v L (i + 1) (prod acc x) (n + nodes (.mk k2 a2 o2 m2 v2 l2)) hl' (by omega) hL hlk hr.2 hn.2 (by omega) hs' hsb.1 (low_mono hsb.2 (by omega))
        refine F44.l1_10 3 a o m v (rows L) (crows acc) i k2 a2 o2 m2 v2 (rows l2) (crows x) 0 go (by omega) hget rfl (by rw [e1]; exact in64 (by omega) (by omega)) (by rw [e1]; exact decide_eq_false (by omega)) hev ?_
        have := d2_loop 3 a o m v L acc x (low_mono hw (by omega)) (low_mono hb.2 (by omega)) (by omega) (by omega) i hiL ih acc.length 0 (by omega)
        exact this
      · rw [if_neg hm]
        exact F44.l1_9 3 a o m v (rows L) (crows acc) i k2 a2 o2 m2 v2 (rows l2) (crows x) 0 go (by omega) hget rfl (by rw [e1]; exact in64 (by omega) (by omega)) (by rw [e1]; exact decide_eq_true (by omega)) hev
end

/-! ### nots taken down make nothing greater -/

mutual
theorem nodes_down : ∀ (c : Co) (b : Bool), right c = true → nodes (down c b) ≤ nodes c
  | .mk k a o m v l, b, h => by
    have ht := rt_of h
    cases ht with
    | yes => rw [down_yes]; cases b <;> (simp [nodes, nodesIn])
    | @not c hq =>
      rw [down_not]
      have := nodes_down c (!b) hq
      show _ ≤ nodesIn [c] 1
      unfold nodesIn
      unfold nodesIn
      omega
    | all hr => rw [down_all]; exact nodesIn_downs _ b hr 1 1 (Int.le_refl _)
    | some hr => rw [down_some]; exact nodesIn_downs _ b hr 1 1 (Int.le_refl _)
    | atom hm => rw [down_atom]; exact Int.le_refl _
theorem nodesIn_downs : ∀ (l : List Co) (b : Bool), rights l = true → ∀ (n m : Int), n ≤ m → nodesIn (downs l b) n ≤ nodesIn l m
  | [], b, _, n, m, h => by simpa [downs, nodesIn] using h
  | c :: l, b, hr, n, m, h => by
    simp only [rights, Bool.and_eq_true] at hr
    have h1 := nodes_down c b hr.1
    unfold downs nodesIn
    exact nodesIn_downs l b hr.2 _ _ (by omega)
end

theorem push_right (c : Co) : right (push c) = true := by
  unfold push
  split
  · exact down_right c true ‹_›
  · exact right_no
theorem push_noNot (c : Co) : noNot (push c) = true := by
  unfold push
  split
  · exact down_noNot c true ‹_›
  · rfl
theorem push_nodes (c : Co) : nodes (push c) ≤ nodes c := by
  unfold push
  split
  · exact nodes_down c true ‹_›
  · have := nodes_pos c
    show nodesIn [] 1 ≤ _
    unfold nodesIn
    omega

theorem code_ev (c : Co) (h : c.ok) (hn : nodes c ≤ 1000) : EvF Try.prog prim 30 [.agg c.row] [] [] (resC (cls (push c))) [] := by
  have h1 := push_ev h hn
  have hpn := push_nodes c
  have h2 := of_ev (push c) (push_ok h) (push_right c) (push_noNot c) (by omega)
  generalize push c = p at h1 h2
  cases c with
  | mk k a o m v l =>
  cases p with
  | mk k2 a2 o2 m2 v2 l2 =>
  cases hx : cls (.mk k2 a2 o2 m2 v2 l2) with
  | none =>
    rw [hx] at h2
    obtain ⟨z, hz⟩ := h2
    exact F30.p1 k a o m v (rows l) k2 a2 o2 m2 v2 (rows l2) z h1 hz
  | some y =>
    rw [hx] at h2
    exact F30.p0 k a o m v (rows l) k2 a2 o2 m2 v2 (rows l2) (crows y) h1 (EvF.soft h2)

theorem doc_ev (c : Co) (h : c.ok) (hn : nodes c ≤ 1000) : EvF Try.prog prim 31 [.agg c.row] [] [] (resC (cls (push c))) [] := by
  have h1 := rpush_ev h hn
  have hpn := push_nodes c
  have h2 := dnf_ev (push c) (push_ok h) (push_right c) (push_noNot c) (by omega)
  generalize push c = p at h1 h2
  cases c with
  | mk k a o m v l =>
  cases p with
  | mk k2 a2 o2 m2 v2 l2 =>
  cases hx : cls (.mk k2 a2 o2 m2 v2 l2) with
  | none =>
    rw [hx] at h2
    exact F31.p0 k a o m v (rows l) k2 a2 o2 m2 v2 (rows l2) [] 9 h1 h2
  | some y =>
    rw [hx] at h2
    exact F31.p0 k a o m v (rows l) k2 a2 o2 m2 v2 (rows l2) (crows y) 0 h1 h2

theorem alive19 : EvF Try.prog prim 29 [] [] [] [.v (.bool true)] [] := by
  have h0 := code_ev (.mk 1 0 0 0 0 []) yes_ok (by decide +kernel)
  have h1 := code_ev (.mk 5 0 1 0 0 []) (leaf_ok (by omega) (by omega) (by omega) (by omega) (by omega) (by decide) trivial) (by decide +kernel)
  have r1 : right (.mk 5 0 1 0 0 []) = true := by decide +kernel
  rw [push_of right_yes] at h0
  rw [push_of r1] at h1
  have e0 : cls (down (.mk 1 0 0 0 0 []) true) = some [[]] := by rw [down_yes]; rfl
  have e1 : cls (down (.mk 5 0 1 0 0 []) true) = some [[⟨0, 1, 0, 0⟩]] := rfl
  rw [e0] at h0
  rw [e1] at h1
  exact F29.p0 [[.sl []]] 0 [[.sl [[.int .i64 0, .int .i64 1, .int .u64 0, .int .u64 0]]]] 0 0 [] 0 [[.int .i64 0, .int .i64 1, .int .u64 0, .int .u64 0]] (fun _ => rfl) (fun _ => rfl) h0 h1 (F32.p0 0) (fun _ => F32.p0 0)

/-! ### which clauses -/

theorem tell_inner (k a o m v : Int) (l : List Co) (L : List (List At)) (hL : L.length ≤ 256) (hw : low 50000 L) (i : Nat) (c : List At) (hi : L[i]? = some c)
    (hc : EvK Try.prog prim Try.f9 (loopAt Try.f9 0) (F9.h0 k a o m v (rows l) (crows L) (crows L) (i + 1)) [.v (.bool true)] []) : ∀ (n q : Nat), q + n = c.length →
    EvK Try.prog prim Try.f9 (loopAt Try.f9 1) (F9.h1 k a o m v (rows l) (crows L) (crows L) q i) [.v (.bool true)] []
  | 0, q, hq => by
    have hlt := (List.getElem?_eq_some_iff.1 hi).1
    exact F9.l1_8 k a o m v (rows l) (crows L) (crows L) q i (arows c) (by omega) (crows_get hi) (by rw [arows_len]; simp; omega) (in64 (by omega) (by omega)) hc
  | n + 1, q, hq => by
    have hlt : q < c.length := by omega
    have hcl := low_get hw hi
    have hg := List.getElem?_eq_getElem hlt
    generalize c[q] = t at hg
    have hga : (arows c)[Int.toNat (q : Int)]? = some [.int .i64 t.a, .int .i64 t.o, .int .u64 t.m, .int .u64 t.v] := by
      have : Int.toNat (q : Int) = q := by omega
      rw [this]
      unfold arows
      rw [List.getElem?_map, hg]
      rfl
    exact F9.l1_7 k a o m v (rows l) (crows L) (crows L) q i (arows c) t.a t.o t.m t.v (arows c) t.a t.o t.m t.v (by omega) (crows_get hi) (by rw [arows_len]; simp; omega) (by omega) hga (crows_get hi) hga (by simp) (in64 (by omega) (by omega)) (tell_inner k a o m v l L hL hw i c hi hc n (q + 1) (by omega))

theorem tell_loop (k a o m v : Int) (l : List Co) (L : List (List At)) (hL : L.length ≤ 256) (hw : low 50000 L) : ∀ (n i : Nat), i + n = L.length →
    EvK Try.prog prim Try.f9 (loopAt Try.f9 0) (F9.h0 k a o m v (rows l) (crows L) (crows L) i) [.v (.bool true)] []
  | 0, i, h => F9.l0_5 k a o m v (rows l) (crows L) (crows L) i (by rw [crows_len]; simp; omega)
  | n + 1, i, h => by
    have hlt : i < L.length := by omega
    have hg := List.getElem?_eq_getElem hlt
    generalize L[i] = c at hg
    exact F9.l0_4 k a o m v (rows l) (crows L) (crows L) i (arows c) (arows c) (by rw [crows_len]; simp; omega) (by omega) (crows_get hg) (crows_get hg) (by simp)
      (tell_inner k a o m v l L hL hw i c hg (tell_loop k a o m v l L hL hw n (i + 1) (by omega)) c.length 0 (by omega))

theorem clausesTell (c : Co) (h : c.ok) : EvF Try.prog prim 9 [.agg c.row] [] [] [.v (.bool true)] [] := by
  have hf := few_ev c h
  cases hb : few c with
  | false =>
    rw [hb] at hf
    cases c with
    | mk k a o m v l => exact F9.p0 k a o m v (rows l) true false rfl alive19 fun _ => hf
  | true =>
    have hn := few_le hb
    rw [hb] at hf
    have h1 := code_ev c h (by omega)
    have h2 := doc_ev c h (by omega)
    have hpn := push_nodes c
    cases hx : cls (push c) with
    | none =>
      rw [hx] at h1 h2
      cases c with
      | mk k a o m v l => exact F9.p2 k a o m v (rows l) true true [] 9 [] 9 9 rfl rfl alive19 (fun _ => hf) h1 h2 (F32.p0 9) (tell_loop k a o m v l [] (by simp) (fun c hc => by simp at hc) 0 0 rfl)
    | some L =>
      rw [hx] at h1 h2
      have hbd := cls_bound _ L hx
      cases c with
      | mk k a o m v l => exact F9.p2 k a o m v (rows l) true true (crows L) 0 (crows L) 0 0 rfl (by simp) alive19 (fun _ => hf) h1 h2 (F32.p0 0) (tell_loop k a o m v l L hbd.1 (low_mono hbd.2 (by omega)) L.length 0 (by omega))

/-! ### what they mean -/

def hat (x : Six) (t : At) : Bool := holds x (.mk 5 t.a t.o t.m t.v [])
def hatC (x : Six) (c : List At) : Bool := c.all (hat x)
def hatL (x : Six) (L : List (List At)) : Bool := L.any (hatC x)

theorem hatL_prod (x : Six) (A B : List (List At)) : hatL x (prod A B) = (hatL x A && hatL x B) := by
  unfold hatL prod
  induction A with
  | nil => rfl
  | cons c A ih =>
    rw [List.flatMap_cons, List.any_append, ih, List.any_cons]
    have : (B.map fun y => c ++ y).any (hatC x) = (hatC x c && B.any (hatC x)) := by
      clear ih
      induction B with
      | nil => simp
      | cons y B ihB =>
        rw [List.map_cons, List.any_cons, ihB, List.any_cons]
        have : hatC x (c ++ y) = (hatC x c && hatC x y) := by unfold hatC; rw [List.all_append]
        rw [this]
        cases hatC x c <;> simp
    rw [this]
    cases hatC x c <;> cases A.any (hatC x) <;> cases B.any (hatC x) <;> rfl

theorem hatL_app (x : Six) (A B : List (List At)) : hatL x (A ++ B) = (hatL x A || hatL x B) := by unfold hatL; rw [List.any_append]

mutual
theorem cls_hold (x : Six) : ∀ (c : Co) (L : List (List At)), right c = true → noNot c = true → cls c = some L → hatL x L = hold x c
  | .mk k a o m v l, L, hr, hn, h => by
    have hrc := hr
    have hnl := noNots_of hn
    cases rt_of hr with
    | yes =>
      have : L = [[]] := by
        have e : cls (.mk 1 0 0 0 0 []) = some [[]] := rfl
        rw [e] at h
        exact (Option.some.inj h).symm
      subst this
      rfl
    | not hq => simp [noNot] at hn
    | all hq =>
      have e : cls (.mk 3 0 0 0 0 l) = clsN 3 l [[]] := rfl
      rw [e] at h
      have := clsN_holdA x l [[]] L hq hnl h
      rw [this]
      show (hatL x [[]] && holdA x l) = holdA x l
      have : hatL x [[]] = true := rfl
      rw [this]
      rfl
    | some hq =>
      have e : cls (.mk 4 0 0 0 0 l) = clsN 4 l [] := rfl
      rw [e] at h
      have := clsN_holdO x l [] L hq hnl h
      rw [this]
      rfl
    | atom hm =>
      have e : cls (.mk 5 a o m v []) = some [[⟨a, o, m, v⟩]] := rfl
      rw [e] at h
      obtain rfl := Option.some.inj h
      have e2 : hatL x [[⟨a, o, m, v⟩]] = holds x (.mk 5 a o m v []) := by
        show ((hat x ⟨a, o, m, v⟩ && true) || false) = _
        rw [Bool.and_true, Bool.or_false]
        rfl
      rw [e2]
      unfold holds
      rw [hrc]
      rfl
theorem clsN_holdA (x : Six) : ∀ (l : List Co) (acc L : List (List At)), rights l = true → noNots l = true → clsN 3 l acc = some L → hatL x L = (hatL x acc && holdA x l)
  | [], acc, L, hr, hn, h => by
    unfold clsN at h
    obtain rfl := Option.some.inj h
    simp [holdA]
  | c :: l, acc, L, hr, hn, h => by
    simp only [rights, Bool.and_eq_true] at hr
    simp only [noNots, Bool.and_eq_true] at hn
    unfold clsN at h
    split at h <;> (try (simp at h; done))
    rename_i y hy
    split at h <;> (try (simp at h; done))
    rename_i z hz
    unfold stepC at hz
    rw [if_pos rfl] at hz
    split at hz <;> (try (simp at hz; done))
    obtain rfl := Option.some.inj hz
    rw [clsN_holdA x l _ L hr.2 hn.2 h, hatL_prod, cls_hold x c y hr.1 hn.1 hy, holdA, Bool.and_assoc]
theorem clsN_holdO (x : Six) : ∀ (l : List Co) (acc L : List (List At)), rights l = true → noNots l = true → clsN 4 l acc = some L → hatL x L = (hatL x acc || holdO x l)
  | [], acc, L, hr, hn, h => by
    unfold clsN at h
    obtain rfl := Option.some.inj h
    simp [holdO]
  | c :: l, acc, L, hr, hn, h => by
    simp only [rights, Bool.and_eq_true] at hr
    simp only [noNots, Bool.and_eq_true] at hn
    unfold clsN at h
    split at h <;> (try (simp at h; done))
    rename_i y hy
    split at h <;> (try (simp at h; done))
    rename_i z hz
    unfold stepC at hz
    rw [if_neg (by decide)] at hz
    split at hz <;> (try (simp at hz; done))
    obtain rfl := Option.some.inj hz
    rw [clsN_holdO x l _ L hr.2 hn.2 h, hatL_app, cls_hold x c y hr.1 hn.1 hy, holdO, Bool.or_assoc]
end

def At.ok (t : At) : Prop := inR .i64 t.a ∧ inR .i64 t.o ∧ inR .u64 t.m ∧ inR .u64 t.v
def oksA (L : List (List At)) : Prop := ∀ c ∈ L, ∀ t ∈ c, t.ok

theorem step_ok {k : Int} {acc x y : List (List At)} (h : stepC k acc x = some y) (ha : oksA acc) (hx : oksA x) : oksA y := by
  unfold stepC at h
  split at h
  · split at h <;> (try (simp at h; done))
    obtain rfl := Option.some.inj h
    intro c hc t ht
    obtain ⟨p, hp, hc⟩ := List.mem_flatMap.1 hc
    obtain ⟨q, hq, rfl⟩ := List.mem_map.1 hc
    rcases List.mem_append.1 ht with h | h
    · exact ha p hp t h
    · exact hx q hq t h
  · split at h <;> (try (simp at h; done))
    obtain rfl := Option.some.inj h
    intro c hc t ht
    rcases List.mem_append.1 hc with h | h
    · exact ha c h t ht
    · exact hx c h t ht

mutual
theorem cls_ok : ∀ (c : Co) (L : List (List At)), c.ok → cls c = some L → oksA L
  | .mk k a o m v l, L, hk, h => by
    simp only [Co.ok] at hk
    unfold cls at h
    split at h
    · obtain rfl := Option.some.inj h
      intro c hc t ht
      rw [List.mem_singleton] at hc
      subst hc
      rw [List.mem_singleton] at ht
      subst ht
      exact ⟨hk.2.1, hk.2.2.1, hk.2.2.2.1, hk.2.2.2.2.1⟩
    · refine clsN_ok k l _ L hk.2.2.2.2.2.2 ?_ h
      intro c hc t ht
      split at hc
      · rw [List.mem_singleton] at hc; subst hc; simp at ht
      split at hc
      · rw [List.mem_singleton] at hc; subst hc; simp at ht
      · simp at hc
theorem clsN_ok (k : Int) : ∀ (l : List Co) (acc L : List (List At)), oks l → oksA acc → clsN k l acc = some L → oksA L
  | [], acc, L, hk, ha, h => by
    unfold clsN at h
    obtain rfl := Option.some.inj h
    exact ha
  | c :: l, acc, L, hk, ha, h => by
    unfold clsN at h
    split at h <;> (try (simp at h; done))
    rename_i x hx
    split at h <;> (try (simp at h; done))
    rename_i y hy
    exact clsN_ok k l y L hk.2 (step_ok hy ha (cls_ok c x hk.1 hx)) h
end

theorem atom_ev (x : Six) (t : At) (h : t.ok) : EvF Try.prog prim 19 [.agg [.int .i64 5, .int .i64 t.a, .int .i64 t.o, .int .u64 t.m, .int .u64 t.v, .sl []], .agg x.pv] [] [] [.v (.bool (hat x t))] [] := by
  refine ref_holds x (.mk 5 t.a t.o t.m t.v []) ?_
  simp only [Co.ok]
  exact ⟨in64 (by decide) (by decide), h.1, h.2.1, h.2.2.1, h.2.2.2, by simp, trivial⟩

theorem mean_inner (k a o m v : Int) (l : List Co) (x : Six) (L : List (List At)) (hL : L.length ≤ 256) (hw : low 50000 L) (i : Nat) (c : List At) (hi : L[i]? = some c) (hok : ∀ t ∈ c, t.ok) (s : Bool) {r : List AV} {h : List (List AV)}
    (hc : EvK Try.prog prim Try.f10 (loopAt Try.f10 0) (F10.h0 k a o m v (rows l) x.a0 x.a1 x.a2 x.a3 x.a4 x.a5 (crows L) (bif s then true else hatC x c) (i + 1)) r h) : ∀ (n q : Nat) (b : Bool), q + n = c.length → (b && (c.drop q).all (hat x)) = hatC x c →
    EvK Try.prog prim Try.f10 (loopAt Try.f10 1) (F10.h1 k a o m v (rows l) x.a0 x.a1 x.a2 x.a3 x.a4 x.a5 (crows L) b q s i) r h
  | 0, q, b, hq, hb => by
    have hlt := (List.getElem?_eq_some_iff.1 hi).1
    rw [List.drop_of_length_le (by omega), List.all_nil, Bool.and_true] at hb
    subst hb
    exact F10.l1_6 k a o m v (rows l) x.a0 x.a1 x.a2 x.a3 x.a4 x.a5 (crows L) _ q s i (arows c) (by omega) (crows_get hi) (by rw [arows_len]; simp; omega) (in64 (by omega) (by omega)) hc
  | n + 1, q, b, hq, hb => by
    have hlt : q < c.length := by omega
    have hcl := low_get hw hi
    have hg := List.getElem?_eq_getElem hlt
    have hto := hok _ (List.getElem_mem hlt)
    rw [List.drop_eq_getElem_cons hlt, List.all_cons] at hb
    generalize c[q] = t at hg hto hb
    have hga : (arows c)[Int.toNat (q : Int)]? = some [.int .i64 t.a, .int .i64 t.o, .int .u64 t.m, .int .u64 t.v] := by
      have : Int.toNat (q : Int) = q := by omega
      rw [this]
      unfold arows
      rw [List.getElem?_map, hg]
      rfl
    have e : ((bif b then hat x t else false) && (c.drop (q + 1)).all (hat x)) = hatC x c := by
      rw [← hb]
      cases b <;> rfl
    exact F10.l1_5 k a o m v (rows l) x.a0 x.a1 x.a2 x.a3 x.a4 x.a5 (crows L) b q s i (arows c) t.a t.o t.m t.v (hat x t) (by omega) (crows_get hi) (by rw [arows_len]; simp; omega) (fun _ => by omega) (fun _ => crows_get hi) (fun _ => by omega) (fun _ => hga) (in64 (by omega) (by omega)) (fun _ => atom_ev x t hto)
      (mean_inner k a o m v l x L hL hw i c hi hok s hc n (q + 1) _ (by omega) e)

theorem mean_loop (k a o m v : Int) (l : List Co) (x : Six) (L : List (List At)) (hL : L.length ≤ 256) (hw : low 50000 L) (hok : oksA L) (g : Bool) (hg0 : EvF Try.prog prim 19 [.agg (Co.mk k a o m v l).row, .agg x.pv] [] [] [.v (.bool g)] []) (hgL : hatL x L = g) : ∀ (n i : Nat) (s : Bool), i + n = L.length → (s || (L.drop i).any (hatC x)) = hatL x L →
    EvK Try.prog prim Try.f10 (loopAt Try.f10 0) (F10.h0 k a o m v (rows l) x.a0 x.a1 x.a2 x.a3 x.a4 x.a5 (crows L) s i) [.v (.bool true)] []
  | 0, i, s, h, hs => by
    rw [List.drop_of_length_le (by omega), List.any_nil, Bool.or_false, hgL] at hs
    subst hs
    have := F10.l0_4 k a o m v (rows l) x.a0 x.a1 x.a2 x.a3 x.a4 x.a5 (crows L) s i s (by rw [crows_len]; simp; omega) hg0
    rw [beq_self_eq_true] at this
    exact this
  | n + 1, i, s, h, hs => by
    have hlt : i < L.length := by omega
    have hg := List.getElem?_eq_getElem hlt
    have hco := hok _ (List.getElem_mem hlt)
    rw [List.drop_eq_getElem_cons hlt, List.any_cons] at hs
    generalize L[i] = c at hg hco hs
    have ih := mean_loop k a o m v l x L hL hw hok g hg0 hgL n (i + 1) (bif s then true else hatC x c) (by omega) (by
      rw [← hs]
      cases s <;> simp)
    exact F10.l0_3 k a o m v (rows l) x.a0 x.a1 x.a2 x.a3 x.a4 x.a5 (crows L) s i (by rw [crows_len]; simp; omega)
      (mean_inner k a o m v l x L hL hw i c hg hco s ih c.length 0 true (by omega) (by rw [List.drop_zero, Bool.true_and]; rfl))

theorem clausesMean (c : Co) (x : Six) (h : c.ok) : EvF Try.prog prim 10 [.agg c.row, .agg x.pv] [] [] [.v (.bool true)] [] := by
  have hf := few_ev c h
  have hr := right_ev c h
  by_cases hall : (bif (bif (!true) then true else (!few c)) then true else (!right c)) = true
  · cases c with
    | mk k a o m v l => exact F10.p0 k a o m v (rows l) x.a0 x.a1 x.a2 x.a3 x.a4 x.a5 true _ _ hall alive19 (fun _ => hf) (fun _ => hr)
  · have hall : (bif (bif (!true) then true else (!few c)) then true else (!right c)) = false := by simpa using hall
    have hfc : few c = true := by cases h1 : few c <;> cases h2 : right c <;> simp_all
    have hrc : right c = true := by cases h1 : few c <;> cases h2 : right c <;> simp_all
    have hn := few_le hfc
    have hpn := push_nodes c
    have h1 := code_ev c h (by omega)
    cases hx : cls (push c) with
    | none =>
      rw [hx] at h1
      cases c with
      | mk k a o m v l => exact F10.p1 k a o m v (rows l) x.a0 x.a1 x.a2 x.a3 x.a4 x.a5 true _ _ [] 9 9 9 hall rfl alive19 (fun _ => hf) (fun _ => hr) h1 (F32.p0 9) (F32.p0 9)
    | some L =>
      rw [hx] at h1
      have hbd := cls_bound _ L hx
      have hok := cls_ok _ L (push_ok h) hx
      have hh := cls_hold x _ L (push_right c) (push_noNot c) hx
      have hg0 := ref_holds x c h
      have e : hatL x L = holds x c := by
        rw [hh, push_of hrc, down_hold x c true hrc]
        unfold holds
        rw [hrc]
        show (hold x c == true) = hold x c
        cases hold x c <;> rfl
      cases c with
      | mk k a o m v l => exact F10.p2 k a o m v (rows l) x.a0 x.a1 x.a2 x.a3 x.a4 x.a5 true _ _ (crows L) 0 0 hall rfl alive19 (fun _ => hf) (fun _ => hr) h1 (F32.p0 0) (mean_loop k a o m v l x L hbd.1 (low_mono hbd.2 (by omega)) hok _ hg0 e L.length 0 false (by omega) (by rw [List.drop_zero, Bool.false_or]; rfl))

end Go.Ab.S1
