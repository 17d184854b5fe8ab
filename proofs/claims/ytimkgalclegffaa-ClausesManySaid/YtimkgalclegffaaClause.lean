/-
Clauses: the code's and the document's are the same.
-/
import Derived.Test.YtimkgalclegffaaPushLaw
import Derived.Test.YtimkgalclegffaaFC
namespace Go.Ab.S1
open Go Go.Proofs Go.Ab

structure At where
  a : Int
  o : Int
  m : Int
  v : Int

def At.row (t : At) : List PV := [.int .i64 t.a, .int .i64 t.o, .int .u64 t.m, .int .u64 t.v]
def arows (c : List At) : List (List PV) := c.map At.row
def crow (c : List At) : List PV := [.sl (arows c)]
def crows (L : List (List At)) : List (List PV) := L.map crow

theorem arows_four (c : List At) : ∀ r ∈ arows c, r.length = 4 := by
  intro r hr
  obtain ⟨t, _, rfl⟩ := List.mem_map.1 hr
  rfl
theorem arows_len (c : List At) : (arows c).length = c.length := List.length_map ..
theorem crows_len (L : List (List At)) : (crows L).length = L.length := List.length_map ..
theorem crows_one (L : List (List At)) : ∀ r ∈ crows L, r.length = 1 := by
  intro r hr
  obtain ⟨t, _, rfl⟩ := List.mem_map.1 hr
  rfl
theorem arows_app (a b : List At) : arows (a ++ b) = arows a ++ arows b := List.map_append ..
theorem crows_app (a b : List (List At)) : crows (a ++ b) = crows a ++ crows b := List.map_append ..
theorem crows_get {L : List (List At)} {i : Nat} {c : List At} (h : L[i]? = some c) : (crows L)[Int.toNat (i : Int)]? = some [.sl (arows c)] := by
  have : Int.toNat (i : Int) = i := by omega
  rw [this]
  unfold crows
  rw [List.getElem?_map, h]
  rfl

def prod (a b : List (List At)) : List (List At) := a.flatMap fun x => b.map fun y => x ++ y

/-! ### one clause behind another -/

theorem concat_ev (x y : List At) (hx : x.length ≤ 100000) (hy : y.length ≤ 100000) : EvF Try.prog prim 58 [.v (.sl [[.sl (arows x)], [.sl (arows y)]])] [] [] [.v (.sl (arows (x ++ y)))] [] := by
  have lx := arows_len x
  have ly := arows_len y
  have e : (0 + ((arows x).length : Int)) + ((arows y).length : Int) = ((x.length + y.length : Nat) : Int) := by rw [lx, ly]; omega
  have o0 : inR .i64 (0 + ((arows x).length : Int)) := in64 (by omega) (by omega)
  have o1 : (decide ((0 + ((arows x).length : Int)) < 0)) = false := decide_eq_false (by omega)
  have o2 : inR .i64 ((0 + ((arows x).length : Int)) + ((arows y).length : Int)) := in64 (by omega) (by omega)
  have o3 : (decide (((0 + ((arows x).length : Int)) + ((arows y).length : Int)) < 0)) = false := decide_eq_false (by omega)
  have four : ∀ r ∈ arows x ++ arows y, r.length = 4 := by rw [← arows_app]; exact arows_four _
  rw [arows_app]
  by_cases hs : x.length + y.length = 0
  · have hp : prim 59 [.own 0 [], .v (.int .i64 ((0 + ((arows x).length : Int)) + ((arows y).length : Int)))] [.own 0 []] := ⟨rfl, _, by omega, by omega, rfl, .inr ⟨by omega, rfl⟩⟩
    exact EvF.soft (F58.p3 (arows x) (arows y) o0 o1 o2 o3 (by simp; omega) (by simpa using arows_four x) (by simp; omega) (by simpa using four) hp)
  · have hp : prim 59 [.own 0 [], .v (.int .i64 ((0 + ((arows x).length : Int)) + ((arows y).length : Int)))] [.vac 0 4] := ⟨rfl, _, by omega, by omega, rfl, .inl ⟨by omega, rfl⟩⟩
    by_cases hx0 : arows x = []
    · have hy0 : arows y ≠ [] := by
        intro h
        rw [hx0] at lx
        rw [h] at ly
        simp at lx ly
        omega
      have := EvF.soft (F58.p1 (arows x) (arows y) o0 o1 o2 o3 hx0 hy0 (by omega) (arows_four y) hp)
      rw [hx0] at this ⊢
      exact this
    · exact EvF.soft (F58.p2 (arows x) (arows y) o0 o1 o2 o3 hx0 (by omega) (arows_four x) (by rw [List.length_append]; omega) four hp)

/-! ### each with each -/

theorem prod_len (a b : List (List At)) : (prod a b).length = a.length * b.length := by
  unfold prod
  induction a with
  | nil => simp
  | cons x a ih => rw [List.flatMap_cons, List.length_append, ih, List.length_map, List.length_cons, Nat.add_mul, Nat.one_mul, Nat.add_comm]

theorem take_succ' {α : Type} {l : List α} {i : Nat} {a : α} (h : l[i]? = some a) : l.take (i + 1) = l.take i ++ [a] := by
  rw [List.take_add_one, h]
  rfl

def low (N : Nat) (L : List (List At)) : Prop := ∀ c ∈ L, c.length ≤ N

theorem low_get {N : Nat} {L : List (List At)} {i : Nat} {c : List At} (h : low N L) (hg : L[i]? = some c) : c.length ≤ N := h c (List.mem_of_getElem? hg)

/-- The rows so far: i whole ones, and k of the next. -/
theorem inner_loop (A B : List (List At)) (hA : low 50000 A) (hB : low 50000 B) (hl : A.length ≤ 300) (hlb : B.length ≤ 300) (i : Nat) (x : List At) (hx : x.length ≤ 50000) {r : List AV} {h : List (List AV)} : ∀ (n k : Nat) (out : List (List At)), k + n = B.length → out.length ≤ i * B.length + k → i < A.length →
    EvK Try.prog prim Try.f56 (loopAt Try.f56 0) (F56.h0 (crows A) (crows B) (i + 1) (crows (out ++ (B.drop k).map fun y => x ++ y))) r h →
    EvK Try.prog prim Try.f56 (loopAt Try.f56 1) (F56.h1 (crows A) (crows B) (crows out) k (arows x) i) r h
  | 0, k, out, hk, ho, hi, hc => by
    rw [List.drop_of_length_le (by omega), List.map_nil, List.append_nil] at hc
    exact F56.l1_5 (crows A) (crows B) (crows out) k (arows x) i (by rw [crows_len]; simp; omega) (in64 (by omega) (by omega)) hc
  | n + 1, k, out, hk, ho, hi, hc => by
    have hlt : k < B.length := by omega
    have hg := List.getElem?_eq_getElem hlt
    rw [List.drop_eq_getElem_cons hlt] at hc
    generalize B[k] = y at hg hc
    have hy := low_get hB hg
    have e : crows out ++ [[PV.sl (arows (x ++ y))]] = crows (out ++ [x ++ y]) := by rw [crows_app]; rfl
    have hmul : i * B.length ≤ 300 * 300 := Nat.mul_le_mul (by omega) hlb
    have ih := inner_loop A B hA hB hl hlb i x hx n (k + 1) (out ++ [x ++ y]) (by omega) (by simp; omega) hi (by
      rw [List.append_assoc]
      exact hc)
    refine F56.l1_4 (crows A) (crows B) (crows out) k (arows x) i (arows y) (arows (x ++ y)) (by rw [crows_len]; simp; omega) (by omega) (crows_get hg) (by rw [e, crows_len]; simp; omega) (by rw [e]; exact crows_one _) (in64 (by omega) (by omega)) (concat_ev x y (by omega) (by omega)) ?_
    rw [e]
    exact ih

theorem outer_loop (A B : List (List At)) (hA : low 50000 A) (hB : low 50000 B) (hl : A.length ≤ 300) (hlb : B.length ≤ 300) : ∀ (n i : Nat), i + n = A.length →
    EvK Try.prog prim Try.f56 (loopAt Try.f56 0) (F56.h0 (crows A) (crows B) i (crows (prod (A.take i) B))) [.own 0 (crows (prod A B)), .v (.bool true)] []
  | 0, i, h => by
    rw [List.take_of_length_le (by omega)]
    exact F56.l0_3 (crows A) (crows B) i (crows (prod A B)) (by rw [crows_len]; simp; omega)
  | n + 1, i, h => by
    have hlt : i < A.length := by omega
    have hg := List.getElem?_eq_getElem hlt
    generalize A[i] = x at hg
    have ih := outer_loop A B hA hB hl hlb n (i + 1) (by omega)
    have e : prod (A.take (i + 1)) B = prod (A.take i) B ++ (B.drop 0).map fun y => x ++ y := by
      rw [take_succ' hg]
      unfold prod
      rw [List.flatMap_append, List.drop_zero]
      simp
    rw [e] at ih
    refine F56.l0_2 (crows A) (crows B) i (crows (prod (A.take i) B)) (arows x) (by rw [crows_len]; simp; omega) (by omega) (crows_get hg) ?_
    have hmin : min i A.length = i := by omega
    exact inner_loop A B hA hB hl hlb i x (low_get hA hg) B.length 0 (prod (A.take i) B) (by omega) (by rw [prod_len, List.length_take, hmin]; omega) hlt ih

theorem product_ev (A B : List (List At)) (hA : low 50000 A) (hB : low 50000 B) (hl : A.length ≤ 300) (hlb : B.length ≤ 300) (h : A.length * B.length ≤ 256) :
    EvF Try.prog prim 56 [.v (.sl (crows A)), .v (.sl (crows B))] [] [] [.own 0 (crows (prod A B)), .v (.bool true)] [] := by
  have hm : ((crows A).length : Int) * ((crows B).length : Int) = ((A.length * B.length : Nat) : Int) := by rw [crows_len, crows_len]; exact (Int.natCast_mul ..).symm
  exact F56.p1 (crows A) (crows B) (by rw [hm]; exact in64 (by omega) (by omega)) (by rw [hm]; exact decide_eq_false (by omega)) (outer_loop A B hA hB hl hlb A.length 0 (by omega))

theorem product_no (A B : List (List At)) (hl : A.length ≤ 300) (hlb : B.length ≤ 300) (h : ¬ A.length * B.length ≤ 256) :
    EvF Try.prog prim 56 [.v (.sl (crows A)), .v (.sl (crows B))] [] [] [.v (.sl []), .v (.bool false)] [] := by
  have hm : ((crows A).length : Int) * ((crows B).length : Int) = ((A.length * B.length : Nat) : Int) := by rw [crows_len, crows_len]; exact (Int.natCast_mul ..).symm
  have hb : A.length * B.length ≤ 300 * 300 := Nat.mul_le_mul hl hlb
  exact F56.p0 (crows A) (crows B) (by rw [hm]; exact in64 (by omega) (by omega)) (by rw [hm]; exact decide_eq_true (by omega))

/-! ### what clauses a condition has -/

def stepC (k : Int) (acc x : List (List At)) : Option (List (List At)) :=
  if k = 3 then (if acc.length * x.length ≤ 256 then some (prod acc x) else none) else (if acc.length + x.length ≤ 256 then some (acc ++ x) else none)

mutual
def cls : Co → Option (List (List At))
  | .mk k a o m v l => if k = 5 then some [[⟨a, o, m, v⟩]] else clsN k l (if k = 1 then [[]] else if k = 3 then [[]] else [])
def clsN (k : Int) : List Co → List (List At) → Option (List (List At))
  | [], acc => some acc
  | c :: l, acc => match cls c with
    | none => none
    | some x => match stepC k acc x with
      | none => none
      | some y => clsN k l y
end

theorem low_mono {N M : Nat} {L : List (List At)} (h : low N L) (hm : N ≤ M) : low M L := fun c hc => Nat.le_trans (h c hc) hm

theorem step_bound {k : Int} {acc x y : List (List At)} {N M : Nat} (ha : acc.length ≤ 256) (hl : low N acc) (hx : low M x) (h : stepC k acc x = some y) : y.length ≤ 256 ∧ low (N + M) y := by
  unfold stepC at h
  split at h
  · split at h <;> (try (simp at h; done))
    rename_i hm
    obtain rfl := Option.some.inj h
    refine ⟨by rw [prod_len]; exact hm, fun c hc => ?_⟩
    obtain ⟨p, hp, hc⟩ := List.mem_flatMap.1 hc
    obtain ⟨q, hq, rfl⟩ := List.mem_map.1 hc
    have := hl p hp
    have := hx q hq
    rw [List.length_append]
    omega
  · split at h <;> (try (simp at h; done))
    rename_i hm
    obtain rfl := Option.some.inj h
    refine ⟨by rw [List.length_append]; exact hm, fun c hc => ?_⟩
    rcases List.mem_append.1 hc with hc | hc
    · have := hl c hc; omega
    · have := hx c hc; omega

mutual
theorem cls_bound : ∀ (c : Co) (L : List (List At)), cls c = some L → L.length ≤ 256 ∧ low (nodes c).toNat L
  | .mk k a o m v l, L, h => by
    unfold cls at h
    have hn := nodes_pos (.mk k a o m v l)
    split at h
    · obtain rfl := Option.some.inj h
      refine ⟨by simp, fun c hc => ?_⟩
      rw [List.mem_singleton] at hc
      subst hc
      simp only [List.length_singleton]
      omega
    · unfold nodes
      refine clsN_bound k l _ 1 L (by omega) ?_ ?_ h
      · split
        · simp
        split <;> simp
      · intro c hc
        split at hc
        · rw [List.mem_singleton] at hc; subst hc; simp
        split at hc
        · rw [List.mem_singleton] at hc; subst hc; simp
        · simp at hc
theorem clsN_bound (k : Int) : ∀ (l : List Co) (acc : List (List At)) (n : Int) (L : List (List At)), 0 ≤ n → acc.length ≤ 256 → low n.toNat acc → clsN k l acc = some L → L.length ≤ 256 ∧ low (nodesIn l n).toNat L
  | [], acc, n, L, hn, ha, hl, h => by
    unfold clsN at h
    obtain rfl := Option.some.inj h
    unfold nodesIn
    exact ⟨ha, hl⟩
  | c :: l, acc, n, L, hn, ha, hl, h => by
    unfold clsN at h
    split at h <;> (try (simp at h; done))
    rename_i x hx
    split at h <;> (try (simp at h; done))
    rename_i y hy
    have hb := cls_bound c x hx
    have hs := step_bound ha hl hb.2 hy
    have hp := nodes_pos c
    unfold nodesIn
    exact clsN_bound k l y (n + nodes c) L (by omega) hs.1 (low_mono hs.2 (by omega)) h
end

/-! ### the code's clauses -/

/-- What the code answers. -/
def Ans (f : FuncId) (args : List AV) (toks : List (Option Nat)) (q : Option (List (List At))) : Prop :=
  match q with
  | some y => EvF Try.prog prim f args toks [] [.own 0 (crows y), .v (.bool true)] []
  | none => ∃ z, EvF Try.prog prim f args toks [] [.v (.sl z), .v (.bool false)] []

theorem join_ev {k : Int} (acc x : List (List At)) (hA : low 50000 acc) (hB : low 50000 x) (ha : acc.length ≤ 256) (hx : x.length ≤ 256) : Ans 54 [.v (.int .i64 k), .own 0 (crows acc), .v (.sl (crows x))] [some (crows acc).length] (stepC k acc x) := by
  unfold stepC
  by_cases hk : k = 3
  · rw [if_pos hk]
    by_cases hm : acc.length * x.length ≤ 256
    · rw [if_pos hm]
      exact F54.p0 (crows acc) k (crows x) (crows (prod acc x)) (by simpa using hk) (product_ev acc x hA hB (by omega) (by omega) hm)
    · rw [if_neg hm]
      exact ⟨_, F54.p1 (crows acc) k (crows x) [] (by simpa using hk) (product_no acc x (by omega) (by omega) hm)⟩
  · rw [if_neg hk]
    have h2 := F54.p2 (crows acc) k (crows x) (by simpa using hk) (by rw [List.length_append, crows_len, crows_len]; omega) (by rw [← crows_app]; exact crows_one _)
    have e : (decide ((((crows acc ++ crows x).length : Nat) : Int) ≤ 256)) = decide (acc.length + x.length ≤ 256) := by
      rw [List.length_append, crows_len, crows_len]
      by_cases h : acc.length + x.length ≤ 256
      · rw [decide_eq_true h, decide_eq_true (by omega)]
      · rw [decide_eq_false h, decide_eq_false (by omega)]
    by_cases hm : acc.length + x.length ≤ 256
    · rw [if_pos hm]
      rw [decide_eq_true hm] at e
      rw [e, ← crows_app] at h2
      exact h2
    · rw [if_neg hm]
      rw [decide_eq_false hm] at e
      rw [e] at h2
      exact ⟨_, h2.soft⟩

theorem rt_kind {k a o m v : Int} {l : List Co} (h : right (.mk k a o m v l) = true) (hn : noNot (.mk k a o m v l) = true) : (k = 1 ∧ l = []) ∨ k = 3 ∨ k = 4 ∨ k = 5 := by
  cases rt_of h with
  | yes => exact .inl ⟨rfl, rfl⟩
  | not h => simp [noNot] at hn
  | all h => exact .inr (.inl rfl)
  | some h => exact .inr (.inr (.inl rfl))
  | atom h => exact .inr (.inr (.inr rfl))

theorem noNots_of {k a o m v : Int} {l : List Co} (hn : noNot (.mk k a o m v l) = true) : noNots l = true := by
  unfold noNot at hn
  cases h : noNots l with
  | true => rfl
  | false => rw [h] at hn; simp at hn

mutual
theorem of_ev : ∀ (c : Co), c.ok → right c = true → noNot c = true → nodes c ≤ 1000 → Ans 43 [.agg c.row] [] (cls c)
  | .mk k a o m v l, h, hr, hn, hs => by
    have hk := rt_kind hr hn
    have hrl := right_kids hr
    have hnl := noNots_of hn
    simp only [Co.ok] at h
    have hs' : nodesIn l 1 ≤ 1000 := hs
    have loop := fun (acc : List (List At)) (h1 : acc.length ≤ 256) (h2 : low 1 acc) => of_loop l k a o m v l 0 acc 1 (by simp) (by omega) h.2.2.2.2.2.1 h.2.2.2.2.2.2 hrl hnl (by omega) hs' h1 h2
    have l0 : low 1 [([] : List At)] := fun c hc => by rw [List.mem_singleton] at hc; subst hc; simp
    unfold cls
    by_cases h5 : k = 5
    · rw [if_pos h5]
      exact F43.p0 k a o m v (rows l) (by simpa using h5)
    rw [if_neg h5]
    have h5' : (k == 5) = false := by simpa using h5
    by_cases h1 : k = 1
    · rw [if_pos h1]
      have := loop [[]] (by simp) l0
      unfold Ans at *
      revert this
      cases clsN k l [[]] with
      | some y => exact fun this => F43.p1 k a o m v (rows l) h5' (by simpa using h1) this
      | none => exact fun ⟨z, this⟩ => ⟨z, F43.p1 k a o m v (rows l) h5' (by simpa using h1) this⟩
    rw [if_neg h1]
    have h1' : (k == 1) = false := by simpa using h1
    by_cases h3 : k = 3
    · rw [if_pos h3]
      have := loop [[]] (by simp) l0
      unfold Ans at *
      revert this
      cases clsN k l [[]] with
      | some y => exact fun this => F43.p2 k a o m v (rows l) h5' h1' (by simpa using h3) this
      | none => exact fun ⟨z, this⟩ => ⟨z, F43.p2 k a o m v (rows l) h5' h1' (by simpa using h3) this⟩
    · rw [if_neg h3]
      have := loop [] (by simp) (fun c hc => by simp at hc)
      unfold Ans at *
      revert this
      cases clsN k l [] with
      | some y => exact fun this => F43.p3 k a o m v (rows l) h5' h1' (by simpa using h3) this
      | none => exact fun ⟨z, this⟩ => ⟨z, F43.p3 k a o m v (rows l) h5' h1' (by simpa using h3) this⟩
theorem of_loop : ∀ (l : List Co) (k a o m v : Int) (L : List Co) (i : Nat) (acc : List (List At)) (n : Int), L.drop i = l → i ≤ L.length → L.length < 2 ^ 63 → oks l → rights l = true → noNots l = true → 0 ≤ n → nodesIn l n ≤ 1000 → acc.length ≤ 256 → low n.toNat acc →
    match clsN k l acc with
    | some y => EvK Try.prog prim Try.f43 (loopAt Try.f43 0) (F43.h0 k a o m v (rows L) (crows acc) i) [.own 0 (crows y), .v (.bool true)] []
    | none => ∃ z, EvK Try.prog prim Try.f43 (loopAt Try.f43 0) (F43.h0 k a o m v (rows L) (crows acc) i) [.v (.sl z), .v (.bool false)] []
  | [], k, a, o, m, v, L, i, acc, n, hl, hi, hL, hk, hr, hn, h0, hs, ha, hw => by
    have := drop_end hi hl
    unfold clsN
    exact F43.l0_7 k a o m v (rows L) (crows acc) i (by rw [rows_len]; simp; omega)
  | c :: l, k, a, o, m, v, L, i, acc, n, hl, hi, hL, hk, hr, hn, h0, hs, ha, hw => by
    obtain ⟨hc, hl', hlt⟩ := drop_get hl
    obtain ⟨hck, hlk⟩ := hk
    simp only [rights, Bool.and_eq_true] at hr
    simp only [noNots, Bool.and_eq_true] at hn
    have hs' : nodesIn l (n + nodes c) ≤ 1000 := hs
    have hp := nodes_pos c
    have hp2 := nodesIn_pos l (n + nodes c)
    have hev := of_ev c hck hr.1 hn.1 (by omega)
    have hget : (rows L)[Int.toNat (i : Int)]? = some c.row := by
      have : Int.toNat (i : Int) = i := by omega
      rw [this]
      exact rows_get hc
    have go : (decide ((i : Int) < ((rows L).length : Int))) = true := by rw [rows_len]; simp; omega
    have hii : inR .i64 ((i : Int) + 1) := in64 (by omega) (by omega)
    cases c with
    | mk k2 a2 o2 m2 v2 l2 =>
    unfold clsN
    cases hx : cls (.mk k2 a2 o2 m2 v2 l2) with
    | none =>
      rw [hx] at hev
      obtain ⟨z, hz⟩ := hev
      exact ⟨_, F43.l0_6 k a o m v (rows L) (crows acc) i k2 a2 o2 m2 v2 (rows l2) z go (by omega) hget hz⟩
    | some x =>
      rw [hx] at hev
      have hev : EvF Try.prog prim 43 [.agg (Co.mk k2 a2 o2 m2 v2 l2).row] [] [] [.v (.sl (crows x)), .v (.bool true)] [] := EvF.soft hev
      have hb := cls_bound _ x hx
      have hj := join_ev (k := k) acc x (low_mono hw (by omega)) (low_mono hb.2 (by omega)) ha hb.1
      simp only
      cases hy : stepC k acc x with
      | none =>
        rw [hy] at hj
        obtain ⟨z, hz⟩ := hj
        exact ⟨_, F43.l0_5 k a o m v (rows L) (crows acc) i k2 a2 o2 m2 v2 (rows l2) (crows x) z go (by omega) hget hev hz⟩
      | some y =>
        rw [hy] at hj
        have hsb := step_bound ha hw hb.2 hy
        have ih := of_loop l k a o m v L (i + 1) y (n + nodes (.mk k2 a2 o2 m2 v2 l2)) hl' (by omega) hL hlk hr.2 hn.2 (by omega) hs' hsb.1 (low_mono hsb.2 (by omega))
        simp only
        revert ih
        cases clsN k l y with
        | some w => exact fun ih => F43.l0_4 k a o m v (rows L) (crows acc) i k2 a2 o2 m2 v2 (rows l2) (crows x) (crows y) go (by omega) hget hii hev hj ih
        | none => exact fun ⟨z, ih⟩ => ⟨z, F43.l0_4 k a o m v (rows L) (crows acc) i k2 a2 o2 m2 v2 (rows l2) (crows x) (crows y) go (by omega) hget hii hev hj ih⟩
end

end Go.Ab.S1
