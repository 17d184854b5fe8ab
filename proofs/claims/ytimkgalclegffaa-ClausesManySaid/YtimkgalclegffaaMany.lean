/-
How many clauses there may be.
-/
import Derived.Test.YtimkgalclegffaaDnf
namespace Go.Ab.S1
open Go Go.Proofs Go.Ab

def leafI (i : Int) : Co := .mk 5 0 1 0 (IntKind.u64.wrap i) []
def leaves (n : Nat) : List Co := (List.range n).map fun (i : Nat) => leafI i
def orW (w : Nat) : Co := .mk 4 0 0 0 0 (leaves w)
def andW (n w : Nat) : Co := .mk 3 0 0 0 0 (List.replicate n (orW w))

theorem leaves_succ (n : Nat) : leaves (n + 1) = leaves n ++ [leafI n] := by simp [leaves, List.range_succ]
theorem leaves_len (n : Nat) : (leaves n).length = n := by simp [leaves]

theorem leaf_right (i : Int) : right (leafI i) = true := rfl
theorem rights_all : ∀ (l : List Co), (∀ c ∈ l, right c = true) → rights l = true
  | [], _ => rfl
  | c :: l, h => by simp [rights, h c (List.mem_cons_self ..), rights_all l fun d hd => h d (List.mem_cons_of_mem _ hd)]
theorem noNots_all : ∀ (l : List Co), (∀ c ∈ l, noNot c = true) → noNots l = true
  | [], _ => rfl
  | c :: l, h => by simp [noNots, h c (List.mem_cons_self ..), noNots_all l fun d hd => h d (List.mem_cons_of_mem _ hd)]

theorem leaves_each {P : Co → Prop} (h : ∀ i, P (leafI i)) (n : Nat) : ∀ c ∈ leaves n, P c := by
  intro c hc
  obtain ⟨i, _, rfl⟩ := List.mem_map.1 hc
  exact h i

theorem or_right (w : Nat) : right (orW w) = true := by
  unfold orW
  rw [right_some]
  exact rights_all _ (leaves_each leaf_right w)
theorem or_noNot (w : Nat) : noNot (orW w) = true := by
  have : noNots (leaves w) = true := noNots_all _ (leaves_each (fun _ => rfl) w)
  simp [orW, noNot, this]
theorem and_right (n w : Nat) : right (andW n w) = true := by
  unfold andW
  rw [right_all]
  exact rights_all _ fun c hc => by rw [(List.mem_replicate.1 hc).2]; exact or_right w
theorem and_noNot (n w : Nat) : noNot (andW n w) = true := by
  have : noNots (List.replicate n (orW w)) = true := noNots_all _ fun c hc => by rw [(List.mem_replicate.1 hc).2]; exact or_noNot w
  simp [andW, noNot, this]

theorem wrapUU (i : Int) : IntKind.u64.wrap i = i % 18446744073709551616 := by simp [IntKind.wrap, IntKind.signed, IntKind.bits]

theorem leaf_okI (i : Int) : (leafI i).ok := by
  have := wrapUU i
  exact leaf_ok (by omega) (by omega) (by omega) (by omega) (by omega) (by simp) trivial
theorem or_ok (w : Nat) (hw : w ≤ 20) : (orW w).ok := leaf_ok (by omega) (by omega) (by omega) (by omega) (by omega) (by rw [leaves_len]; omega) (oks_all _ (leaves_each leaf_okI w))
theorem and_ok (n w : Nat) (hn : n ≤ 10) (hw : w ≤ 20) : (andW n w).ok := leaf_ok (by omega) (by omega) (by omega) (by omega) (by omega) (by simp; omega) (oks_all _ fun c hc => by rw [(List.mem_replicate.1 hc).2]; exact or_ok w hw)

theorem nodesIn_each {l : List Co} {k : Int} (h : ∀ c ∈ l, nodes c = k) : ∀ (n : Int), nodesIn l n = n + l.length * k := by
  induction l with
  | nil => intro n; simp [nodesIn]
  | cons c l ih =>
    intro n
    unfold nodesIn
    rw [ih (fun d hd => h d (List.mem_cons_of_mem _ hd)), h c (List.mem_cons_self ..), List.length_cons]
    have : ((l.length + 1 : Nat) : Int) * k = l.length * k + k := by rw [Int.natCast_add, Int.add_mul]; omega
    omega

theorem or_nodes (w : Nat) : nodes (orW w) = 1 + w := by
  show nodesIn (leaves w) 1 = _
  rw [nodesIn_each (k := 1) (leaves_each (fun i => rfl) w), leaves_len, Int.mul_one]
theorem and_nodes (n w : Nat) (hn : n ≤ 10) (hw : w ≤ 20) : nodes (andW n w) ≤ 1000 := by
  show nodesIn (List.replicate n (orW w)) 1 ≤ _
  rw [nodesIn_each (k := 1 + w) (fun c hc => by rw [(List.mem_replicate.1 hc).2]; exact or_nodes w), List.length_replicate]
  have : (n : Int) * (1 + w) ≤ 10 * 21 := Int.mul_le_mul (by omega) (by omega) (by omega) (by omega)
  omega

/-! ### what clauses these have -/

def ones (l : List At) : List (List At) := l.map fun t => [t]
def atI (i : Int) : At := ⟨0, 1, 0, IntKind.u64.wrap i⟩

theorem ors_cls : ∀ (l : List Int) (acc : List (List At)), acc.length + l.length ≤ 256 → clsN 4 (l.map leafI) acc = some (acc ++ ones (l.map atI))
  | [], acc, h => by simp [clsN, ones]
  | i :: l, acc, h => by
    rw [List.length_cons] at h
    rw [List.map_cons]
    unfold clsN
    have e : cls (leafI i) = some [[atI i]] := rfl
    rw [e]
    simp only [stepC]
    rw [if_neg (by decide), if_pos (by simp; omega)]
    simp only
    rw [ors_cls l (acc ++ [[atI i]]) (by simp; omega)]
    simp [ones]

theorem or_cls (w : Nat) (hw : w ≤ 20) : ∃ L, cls (orW w) = some L ∧ L.length = w ∧ ∀ c ∈ L, c.length = 1 := by
  have e : cls (orW w) = clsN 4 (leaves w) [] := rfl
  have e2 : leaves w = ((List.range w).map fun (i : Nat) => (i : Int)).map leafI := by simp [leaves]
  refine ⟨_, by rw [e, e2, ors_cls _ [] (by simp; omega)], by simp [ones], fun c hc => ?_⟩
  rw [List.nil_append] at hc
  obtain ⟨t, _, rfl⟩ := List.mem_map.1 hc
  rfl

def wF (w : Nat) (x : Int) : Int := if x ≤ 256 then x * w else x
def wN (w : Nat) : Nat → Int → Int
  | 0, x => x
  | n + 1, x => wN w n (wF w x)

theorem wN_big (w : Nat) : ∀ (n : Nat) (x : Int), x > 256 → wN w n x = x
  | 0, x, h => rfl
  | n + 1, x, h => by
    have : wF w x = x := by unfold wF; rw [if_neg (by omega)]
    unfold wN
    rw [this]
    exact wN_big w n x h

theorem ands_cls (w : Nat) (hw : w ≤ 20) (hw1 : 1 ≤ w) : ∀ (n : Nat) (acc : List (List At)) (j : Nat), 1 ≤ acc.length → acc.length ≤ 256 → (∀ c ∈ acc, c.length = j) →
    match clsN 3 (List.replicate n (orW w)) acc with
    | some L => (L.length : Int) = wN w n acc.length ∧ L.length ≤ 256 ∧ 1 ≤ L.length ∧ ∀ c ∈ L, c.length = j + n
    | none => wN w n acc.length > 256
  | 0, acc, j, h1, h2, hj => by
    unfold clsN
    exact ⟨rfl, h2, h1, hj⟩
  | n + 1, acc, j, h1, h2, hj => by
    rw [List.replicate_succ]
    unfold clsN
    obtain ⟨X, hX, hXl, hX1⟩ := or_cls w hw
    rw [hX]
    simp only [stepC]
    rw [if_pos trivial]
    have ew : wF w acc.length = ((acc.length * X.length : Nat) : Int) := by
      unfold wF
      rw [if_pos (by omega), hXl]
      exact (Int.natCast_mul ..).symm
    unfold wN
    rw [ew]
    by_cases hm : acc.length * X.length ≤ 256
    · rw [if_pos hm]
      simp only
      have hpl := prod_len acc X
      have ih := ands_cls w hw hw1 n (prod acc X) (j + 1) (by rw [hpl, hXl]; exact Nat.mul_le_mul h1 hw1) (by rw [hpl]; exact hm) (fun c hc => by
        obtain ⟨p, hp, hc⟩ := List.mem_flatMap.1 hc
        obtain ⟨q, hq, rfl⟩ := List.mem_map.1 hc
        rw [List.length_append, hj p hp, hX1 q hq])
      rw [hpl] at ih
      revert ih
      cases clsN 3 (List.replicate n (orW w)) (prod acc X) with
      | none => exact fun ih => ih
      | some L => exact fun ⟨a, b, c, d⟩ => ⟨a, b, c, fun x hx => by rw [d x hx]; omega⟩
    · rw [if_neg hm]
      simp only
      rw [wN_big w n _ (by omega)]
      omega

/-! ### the law -/

theorem leaf_row (i : Nat) : (leafI i).row = [.int .i64 5, .int .i64 0, .int .i64 1, .int .u64 0, .int .u64 (IntKind.u64.wrap i), .sl []] := rfl

theorem wN_succ (w : Nat) : ∀ (n : Nat) (x : Int), wN w (n + 1) x = wF w (wN w n x)
  | 0, x => rfl
  | n + 1, x => wN_succ w n (wF w x)

theorem wN_range (w : Nat) (hw : w ≤ 20) : ∀ (n : Nat), 0 ≤ wN w n 1 ∧ wN w n 1 ≤ 5120
  | 0 => ⟨by show (0 : Int) ≤ 1; decide, by show (1 : Int) ≤ 5120; decide⟩
  | n + 1 => by
    have ih := wN_range w hw n
    rw [wN_succ]
    unfold wF
    split
    · rename_i h
      have : wN w n 1 * w ≤ 256 * 20 := Int.mul_le_mul h (by omega) (by omega) (by omega)
      exact ⟨Int.mul_nonneg ih.1 (by omega), by omega⟩
    · exact ih

theorem many_end (n w : Nat) (hn : n ≤ 10) (hw : w ≤ 20) (hw1 : 1 ≤ w) : EvK Try.prog prim Try.f11 (loopAt Try.f11 1) (F11.h1 n w (rows (leaves w)) (wN w n 1) n (rows (List.replicate n (orW w)))) [.v (.bool true)] [] := by
  have h1 := code_ev (andW n w) (and_ok n w hn hw) (and_nodes n w hn hw)
  rw [push_of (and_right n w), down_same _ (and_right n w) (and_noNot n w)] at h1
  have e : cls (andW n w) = clsN 3 (List.replicate n (orW w)) [[]] := rfl
  have hc := ands_cls w hw hw1 n [[]] 0 (by simp) (by simp) (fun c hc => by rw [List.mem_singleton] at hc; subst hc; rfl)
  rw [e] at h1
  have go : (decide ((n : Int) < (n : Int))) = false := by simp
  revert h1 hc
  cases clsN 3 (List.replicate n (orW w)) [[]] with
  | none =>
    intro h1 hc
    exact F11.l1_6 n w (rows (leaves w)) (wN w n 1) n (rows (List.replicate n (orW w))) [] 9 9 go (decide_eq_true hc) h1 (F32.p0 9)
  | some L =>
    rintro h1 ⟨a, b, c, d⟩
    have a' : (L.length : Int) = wN w n 1 := a
    have hg := List.getElem?_eq_getElem (l := L) (i := 0) (by omega)
    have hd := d _ (List.getElem_mem (l := L) (n := 0) (by omega))
    generalize L[0] = x at hg hd
    have := F11.l1_7 n w (rows (leaves w)) (wN w n 1) n (rows (List.replicate n (orW w))) (crows L) 0 0 (arows x) go (decide_eq_false (by omega)) (fun _ => crows_get (i := 0) hg) h1 (F32.p0 0)
    have ee : (bif (bif ((0 : Int) == 0) then (((crows L).length : Int) == wN w n 1) else false) then (((arows x).length : Int) == (n : Int)) else false) = true := by
      rw [crows_len, arows_len, a', hd]
      simp
    rw [ee] at this
    exact this

theorem many_ands (n w : Nat) (hn : n ≤ 10) (hw : w ≤ 20) (hw1 : 1 ≤ w) : ∀ (k i : Nat), i + k = n → EvK Try.prog prim Try.f11 (loopAt Try.f11 1) (F11.h1 n w (rows (leaves w)) (wN w i 1) i (rows (List.replicate i (orW w)))) [.v (.bool true)] []
  | 0, i, h => by
    have : i = n := by omega
    subst this
    exact many_end i w hn hw hw1
  | k + 1, i, h => by
    have ih := many_ands n w hn hw hw1 k (i + 1) (by omega)
    have hr := wN_range w hw i
    have go : (decide ((i : Int) < (n : Int))) = true := decide_eq_true (by omega)
    have e : rows (List.replicate i (orW w)) ++ [[PV.int .i64 4, .int .i64 0, .int .i64 0, .int .u64 0, .int .u64 0, .sl (rows (leaves w))]] = rows (List.replicate (i + 1) (orW w)) := by
      rw [List.replicate_succ', rows_app]
      rfl
    have hl : (rows (List.replicate (i + 1) (orW w))).length * 64 ≤ 2 ^ 47 := by rw [rows_len, List.length_replicate]; omega
    have hs := wN_succ w i 1
    unfold wF at hs
    by_cases hb : wN w i 1 ≤ 256
    · rw [if_pos hb] at hs
      rw [hs] at ih
      have hm : wN w i 1 * w ≤ 256 * 20 := Int.mul_le_mul hb (by omega) (by omega) (by omega)
      have hm0 : 0 ≤ wN w i 1 * w := Int.mul_nonneg hr.1 (by omega)
      refine F11.l1_4 n w (rows (leaves w)) (wN w i 1) i (rows (List.replicate i (orW w))) go (by rw [e]; exact hl) (by rw [e]; exact rows_six) (decide_eq_true hb) (in64 (by omega) (by omega)) (in64 (by omega) (by omega)) ?_
      rw [e]
      exact ih
    · rw [if_neg hb] at hs
      rw [hs] at ih
      refine F11.l1_5 n w (rows (leaves w)) (wN w i 1) i (rows (List.replicate i (orW w))) go (by rw [e]; exact hl) (by rw [e]; exact rows_six) (decide_eq_false hb) (in64 (by omega) (by omega)) ?_
      rw [e]
      exact ih

theorem many_ors (n w : Nat) (hn : n ≤ 10) (hw : w ≤ 20) (hw1 : 1 ≤ w) : ∀ (k i : Nat), i + k = w → EvK Try.prog prim Try.f11 (loopAt Try.f11 0) (F11.h0 n w i (rows (leaves i))) [.v (.bool true)] []
  | 0, i, h => by
    have : i = w := by omega
    subst this
    exact F11.l0_3 n i i (rows (leaves i)) (by simp) (many_ands n i hn hw hw1 n 0 (by omega))
  | k + 1, i, h => by
    have ih := many_ors n w hn hw hw1 k (i + 1) (by omega)
    have e : rows (leaves i) ++ [[PV.int .i64 5, .int .i64 0, .int .i64 1, .int .u64 0, .int .u64 (IntKind.u64.wrap i), .sl []]] = rows (leaves (i + 1)) := by
      rw [leaves_succ, rows_app]
      rfl
    refine F11.l0_2 n w i (rows (leaves i)) (decide_eq_true (by omega)) (by rw [e, rows_len, leaves_len]; omega) (by rw [e]; exact rows_six) (in64 (by omega) (by omega)) ?_
    rw [e]
    exact ih

theorem clausesMany (n w : Int) : EvF Try.prog prim 11 [.v (.int .i64 n), .v (.int .i64 w)] [] [] [.v (.bool true)] [] := by
  by_cases h : n < 1 ∨ n > 10 ∨ w < 1 ∨ w > 20
  · exact F11.p0 n w true (by rcases h with h | h | h | h <;> simp [h]) alive19
  obtain ⟨n', rfl⟩ := Int.eq_ofNat_of_zero_le (show 0 ≤ n by omega)
  obtain ⟨w', rfl⟩ := Int.eq_ofNat_of_zero_le (show 0 ≤ w by omega)
  have g : (bif (bif (bif (bif (!true) then true else (decide ((n' : Int) < 1))) then true else (decide ((n' : Int) > 10))) then true else (decide ((w' : Int) < 1))) then true else (decide ((w' : Int) > 20))) = false := by
    have h1 : decide ((n' : Int) < 1) = false := decide_eq_false (by omega)
    have h2 : decide ((n' : Int) > 10) = false := decide_eq_false (by omega)
    have h3 : decide ((w' : Int) < 1) = false := decide_eq_false (by omega)
    have h4 : decide ((w' : Int) > 20) = false := decide_eq_false (by omega)
    rw [h1, h2, h3, h4]
    rfl
  exact F11.p1 n' w' true g alive19 (many_ors n' w' (by omega) (by omega) (by omega) w' 0 (by omega))

end Go.Ab.S1
