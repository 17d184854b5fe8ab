/-
What the machine reckons; which way it jumps; what its cells keep.
-/
import Derived.Test.YtgjceiomfccbbaaSteps
namespace Go.Ab.S3
open Go Go.Proofs Go.Ab

/-! ### what the machine reckons -/

theorem and31 {b : Int} (hb : inR .u32 b) : IntKind.u32.wrap ((BitVec.ofInt 32 b &&& BitVec.ofInt 32 31).toNat : Int) = Int.tmod b 32 := by
  have h := ofW hb
  obtain ⟨n, rfl⟩ := Int.eq_ofNat_of_zero_le h.1
  have e1 : (BitVec.ofInt 32 (n : Int)).toNat = n := by
    rw [BitVec.toNat_ofInt]
    omega
  have e2 : (BitVec.ofInt 32 31).toNat = 31 := by decide
  have e3 : n &&& 31 = n % 32 := Nat.and_two_pow_sub_one_eq_mod n 5
  rw [BitVec.toNat_and, e1, e2, e3, wrapW, Int.tmod_eq_emod_of_nonneg h.1]
  omega

theorem fin8 {a b w V : Int} (h : EvF Try.prog prim 8 [.v (.int .i64 w), .v (.int .u32 a), .v (.int .u32 b)] [] [] [.v (.bool (bif (bif (bif (bif (bif true then (V == V) else false) then ((3 : Int) == 3) else false) then true else false) then (V == V) else false) then ((5 : Int) == 5) else false))] []) :
    EvF Try.prog prim 8 [.v (.int .i64 w), .v (.int .u32 a), .v (.int .u32 b)] [] [] [.v (.bool true)] [] := by
  have e : (bif (bif (bif (bif (bif true then (V == V) else false) then ((3 : Int) == 3) else false) then true else false) then (V == V) else false) then ((5 : Int) == 5) else false) = true := by simp
  rw [e] at h
  exact h

theorem reck_ok {a b c : Int} (hc : alus c) (ha : inR .u32 a) (hb : inR .u32 b) : ∀ q ∈ [(⟨0, 0, 0, a⟩ : In), ⟨c, 0, 0, b⟩, ⟨22, 0, 0, 0⟩], q.ok := by
  intro q hq
  have hcr : inR .i64 c := in64 (by unfold alus at hc; omega) (by unfold alus at hc; omega)
  simp only [List.mem_cons, List.not_mem_nil, or_false] at hq
  rcases hq with rfl | rfl | rfl
  · exact ok_in z64 z64 z64 ha
  · exact ok_in hcr z64 z64 hb
  · exact ok_in (in64 (by decide) (by decide)) z64 z64 zW

theorem reckx_ok {a b c : Int} (hc : alus c) (ha : inR .u32 a) (hb : inR .u32 b) : ∀ q ∈ [(⟨0, 0, 0, b⟩ : In), ⟨7, 0, 0, 0⟩, ⟨0, 0, 0, a⟩, ⟨IntKind.i64.wrap (c + 8), 0, 0, 0⟩, ⟨22, 0, 0, 0⟩], q.ok := by
  intro q hq
  have hcr : inR .i64 (IntKind.i64.wrap (c + 8)) := by
    rw [(alu_8 hc).2.2]
    exact in64 (by unfold alus at hc; omega) (by unfold alus at hc; omega)
  simp only [List.mem_cons, List.not_mem_nil, or_false] at hq
  rcases hq with rfl | rfl | rfl | rfl | rfl
  · exact ok_in z64 z64 z64 hb
  · exact ok_in (in64 (by decide) (by decide)) z64 z64 zW
  · exact ok_in z64 z64 z64 ha
  · exact ok_in hcr z64 z64 zW
  · exact ok_in (in64 (by decide) (by decide)) z64 z64 zW

theorem machineReckons (w a b : Int) (ha : inR .u32 a) (hb : inR .u32 b) : EvF Try.prog prim 8 [.v (.int .i64 w), .v (.int .u32 a), .v (.int .u32 b)] [] [] [.v (.bool true)] [] := by
  by_cases h : w < 0 ∨ w ≥ 9
  · exact F8.p0 w a b true (by rcases h with h | h <;> simp [h]) alive3
  have g : (bif (bif (!true) then true else (decide (w < 0))) then true else (decide (w ≥ 9))) = false := by
    have h1 : ¬ w < 0 := by omega
    have h2 : ¬ w ≥ 9 := by omega
    simp [h1, h2]
  have h0 : 0 ≤ w := by omega
  have hk := fun {c : Int} (hc : alus c) (hm : mathB c b = true) => (reck_k (a := a) hc hm ▸ run_ev _ (reck_ok hc ha hb) noDa noDa_ok : EvF Try.prog prim 25 _ [] [] (resR _) [])
  have hx := fun {c : Int} (hc : alus c) (hm : mathB c b = true) (hz : c = 52 → b ≠ 0) => (reck_x (a := a) hc hm hz ▸ run_ev _ (reckx_ok hc ha hb) noDa noDa_ok : EvF Try.prog prim 25 _ [] [] (resR _) [])
  have hw : w = 0 ∨ w = 1 ∨ w = 2 ∨ w = 3 ∨ w = 4 ∨ w = 5 ∨ w = 6 ∨ w = 7 ∨ w = 8 := by omega
  rcases hw with rfl | rfl | rfl | rfl | rfl | rfl | rfl | rfl | rfl
  · exact fin8 (F8.p2 0 a b true 4 _ 3 true _ 5 true g h0 rfl rfl rfl alive3 (hk (c := 4) (by simp [alus]) rfl) (hx (c := 4) (by simp [alus]) rfl (by omega)))
  · exact fin8 (F8.p4 1 a b true 20 _ 3 true _ 5 true g h0 rfl rfl rfl rfl alive3 (hk (c := 20) (by simp [alus]) rfl) (hx (c := 20) (by simp [alus]) rfl (by omega)))
  · exact fin8 (F8.p6 2 a b true 36 _ 3 true _ 5 true g h0 rfl rfl rfl rfl rfl alive3 (hk (c := 36) (by simp [alus]) rfl) (hx (c := 36) (by simp [alus]) rfl (by omega)))
  · by_cases hz : b = 0
    · subst hz
      have h1 := run_ev _ (reck_ok (c := 52) (by simp [alus]) ha hb) noDa noDa_ok
      have h2 := run_ev _ (reckx_ok (c := 52) (by simp [alus]) ha hb) noDa noDa_ok
      rw [div_k] at h1
      rw [div_x] at h2
      exact F8.p9 3 a 0 true 52 0 1 false 0 4 true g h0 rfl rfl rfl rfl rfl rfl rfl alive3 h1 h2
    · have hm : mathB 52 b = true := by simp [mathB, hz]
      have e : mathV 52 a b = IntKind.u32.wrap (Int.tdiv a b) := by simp [mathV, hz]
      have h1 := hk (c := 52) (by simp [alus]) hm
      have h2 := hx (c := 52) (by simp [alus]) hm (fun _ => hz)
      rw [e] at h1 h2
      exact fin8 (F8.p8 3 a b true 52 _ 3 true _ 5 true g h0 rfl rfl rfl rfl rfl (by simpa using hz) hz (by simpa using hz) alive3 h1 h2)
  · exact fin8 (F8.p11 4 a b true 68 _ 3 true _ 5 true g h0 rfl rfl rfl rfl rfl rfl alive3 (hk (c := 68) (by simp [alus]) rfl) (hx (c := 68) (by simp [alus]) rfl (by omega)))
  · exact fin8 (F8.p12 5 a b true 84 _ 3 true _ 5 true g h0 rfl rfl rfl rfl rfl rfl rfl alive3 (hk (c := 84) (by simp [alus]) rfl) (hx (c := 84) (by simp [alus]) rfl (by omega)))
  · exact fin8 (F8.p13 6 a b true 164 _ 3 true _ 5 true g h0 rfl rfl rfl rfl rfl rfl rfl rfl alive3 (hk (c := 164) (by simp [alus]) rfl) (hx (c := 164) (by simp [alus]) rfl (by omega)))
  · have e : mathV 100 a b = IntKind.u32.wrap (a * 2 ^ (min (Int.toNat (IntKind.u32.wrap ((BitVec.ofInt 32 b &&& BitVec.ofInt 32 31).toNat : Int))) (IntKind.bits .u32))) := by rw [and31 hb]; rfl
    have h1 := hk (c := 100) (by simp [alus]) rfl
    have h2 := hx (c := 100) (by simp [alus]) rfl (by omega)
    rw [e] at h1 h2
    exact fin8 (F8.p14 7 a b true 100 _ 3 true _ 5 true g h0 rfl rfl rfl rfl rfl rfl rfl rfl rfl (by rw [wrapW]; omega) alive3 h1 h2)
  · have e : mathV 116 a b = Int.fdiv a (2 ^ (min (Int.toNat (IntKind.u32.wrap ((BitVec.ofInt 32 b &&& BitVec.ofInt 32 31).toNat : Int))) (IntKind.bits .u32))) := by rw [and31 hb]; rfl
    have h1 := hk (c := 116) (by simp [alus]) rfl
    have h2 := hx (c := 116) (by simp [alus]) rfl (by omega)
    rw [e] at h1 h2
    exact fin8 (F8.p15 8 a b true 116 _ 3 true _ 5 true g h0 rfl rfl rfl rfl rfl rfl rfl rfl rfl rfl (by rw [wrapW]; omega) alive3 h1 h2)

/-! ### which way a jump goes -/

def rets (n : Nat) : List In := (List.range n).map fun (i : Nat) => (⟨6, 0, 0, (i : Int)⟩ : In)

theorem rets_succ (n : Nat) : rets (n + 1) = rets n ++ [⟨6, 0, 0, (n : Int)⟩] := by simp [rets, List.range_succ]
theorem rets_get {n i : Nat} (h : i < n) : (rets n)[i]? = some ⟨6, 0, 0, (i : Int)⟩ := by simp [rets, h]
theorem rets_ok (n : Nat) (hn : n ≤ 21) : ∀ q ∈ rets n, q.ok := by
  intro q hq
  obtain ⟨i, hi, rfl⟩ := List.mem_map.1 hq
  have := List.mem_range.1 hi
  exact ok_in (in64 (by decide) (by decide)) z64 z64 (inW (by omega) (by omega))

def jmps (c : Int) : Prop := c = 21 ∨ c = 37 ∨ c = 53 ∨ c = 69

theorem jmp_facts {c : Int} (h : jmps c) : mathB (IntKind.i64.wrap (c - 8)) 1 = false ∧ (∀ k, mathB c k = false) ∧ tellsB (IntKind.i64.wrap (c - 8)) = false ∧ tellsB c = true ∧ IntKind.i64.wrap (IntKind.i64.wrap (c + 8) - 8) = c ∧ IntKind.i64.wrap (c + 8) = c + 8 ∧ (∀ k, mathB (c + 8) k = false) := by
  rcases h with rfl | rfl | rfl | rfl
  · exact ⟨rfl, fun _ => rfl, rfl, rfl, rfl, rfl, fun _ => rfl⟩
  · exact ⟨rfl, fun _ => rfl, rfl, rfl, rfl, rfl, fun _ => rfl⟩
  · exact ⟨rfl, fun _ => rfl, rfl, rfl, rfl, rfl, fun _ => rfl⟩
  · exact ⟨rfl, fun _ => rfl, rfl, rfl, rfl, rfl, fun _ => rfl⟩

theorem land {j : Int} (h0 : 0 ≤ j) (h1 : j ≤ 20) : IntKind.i64.wrap (IntKind.i64.wrap (2 + 1) + j) = (3 + j.toNat : Nat) := by
  have : IntKind.i64.wrap (2 + 1) = 3 := rfl
  rw [this, wrap64]
  omega

theorem jump_end (q0 q1 q2 : In) (j a x : Int) (c : Nat → Int) (k n : Nat) (h0 : 0 ≤ j) (h1 : j ≤ 20) (d : Da) :
    runF ([q0, q1, q2] ++ rets 21) d (k + 1) n ⟨a, x, c, IntKind.i64.wrap (IntKind.i64.wrap (2 + 1) + j)⟩ = (j, (n : Int) + 1, true) := by
  rw [land h0 h1]
  refine Eq.trans (run_end (3 + j.toNat) rfl (q := ⟨6, 0, 0, (j.toNat : Int)⟩) ?_ rfl) ?_
  · rw [List.getElem?_append_right (by simp)]
    have : 3 + j.toNat - [q0, q1, q2].length = j.toNat := by simp
    rw [this]
    exact rets_get (by omega)
  · rw [ev6 rfl]
    show (((j.toNat : Nat) : Int), _, _) = _
    rw [show ((j.toNat : Nat) : Int) = j by omega]

theorem jump_k {a b c jt jf : Int} (hc : jmps c) (h0 : 0 ≤ jt) (h1 : jt ≤ 20) (h2 : 0 ≤ jf) (h3 : jf ≤ 20) : run ([⟨1, 0, 0, b⟩, ⟨0, 0, 0, a⟩, ⟨c, jt, jf, b⟩] ++ rets 21) noDa = ((if tellsV c a b then jt else jf), 4, true) := by
  obtain ⟨f1, f2, f3, f4, f5, f6, f7⟩ := jmp_facts hc
  have n : ¬ c = 6 ∧ ¬ c = 22 ∧ ¬ c = 60 := by unfold jmps at hc; omega
  rw [run_start]
  refine Eq.trans (run_go (k := 4095) 0 rfl rfl rfl (st1 ..)) ?_
  refine Eq.trans (run_go (k := 4094) 1 rfl rfl rfl (st0 ..)) ?_
  refine Eq.trans (run_go (k := 4093) (s := ⟨a, b, c0, 2⟩) 2 rfl rfl (en0 n.1 n.2.1 n.2.2) (step_jump f1 (f2 b) f3 f4)) ?_
  cases tellsV c a b
  · rw [if_neg (by simp)]
    exact jump_end _ _ _ jf a b c0 4092 _ h2 h3 _
  · rw [if_pos rfl]
    exact jump_end _ _ _ jt a b c0 4092 _ h0 h1 _

theorem jump_x {a b c jt jf : Int} (hc : jmps c) (h0 : 0 ≤ jt) (h1 : jt ≤ 20) (h2 : 0 ≤ jf) (h3 : jf ≤ 20) : run ([⟨1, 0, 0, b⟩, ⟨0, 0, 0, a⟩, ⟨IntKind.i64.wrap (c + 8), jt, jf, 0⟩] ++ rets 21) noDa = ((if tellsV c a b then jt else jf), 4, true) := by
  obtain ⟨f1, f2, f3, f4, f5, f6, f7⟩ := jmp_facts hc
  have n : ¬ c + 8 = 6 ∧ ¬ c + 8 = 22 ∧ ¬ c + 8 = 60 := by unfold jmps at hc; omega
  rw [run_start]
  refine Eq.trans (run_go (k := 4095) 0 rfl rfl rfl (st1 ..)) ?_
  refine Eq.trans (run_go (k := 4094) 1 rfl rfl rfl (st0 ..)) ?_
  have hs : stepF ⟨a, b, c0, 2⟩ ⟨IntKind.i64.wrap (c + 8), jt, jf, 0⟩ noDa = (true, ⟨a, b, c0, IntKind.i64.wrap (IntKind.i64.wrap (2 + 1) + (if tellsV (IntKind.i64.wrap (IntKind.i64.wrap (c + 8) - 8)) a b then jt else jf))⟩) :=
    step_jumpx (by show mathB (IntKind.i64.wrap (IntKind.i64.wrap (c + 8) - 8)) 1 = false; rw [f5]; exact f2 1) (by show mathB (IntKind.i64.wrap (c + 8)) 0 = false; rw [f6]; exact f7 0) (by show tellsB (IntKind.i64.wrap (IntKind.i64.wrap (c + 8) - 8)) = true; rw [f5]; exact f4)
  rw [f5] at hs
  refine Eq.trans (run_go (k := 4093) (s := ⟨a, b, c0, 2⟩) 2 rfl rfl (en0 (by show ¬ IntKind.i64.wrap (c + 8) = 6; rw [f6]; exact n.1) (by show ¬ IntKind.i64.wrap (c + 8) = 22; rw [f6]; exact n.2.1) (by show ¬ IntKind.i64.wrap (c + 8) = 60; rw [f6]; exact n.2.2)) hs) ?_
  cases tellsV c a b
  · rw [if_neg (by simp)]
    exact jump_end _ _ _ jf a b c0 4092 _ h2 h3 _
  · rw [if_pos rfl]
    exact jump_end _ _ _ jt a b c0 4092 _ h0 h1 _

theorem rets_row (b : List In) (n : Nat) (hn : n ≤ 20) : (b ++ rets n).map In.row ++ ([[.int .i64 6, .int .i64 0, .int .i64 0, .int .u32 (IntKind.u32.wrap (n : Int))]] : List (List PV)) = (b ++ rets (n + 1)).map In.row := by
  have e : IntKind.u32.wrap (n : Int) = n := by rw [wrapW]; omega
  rw [e, rets_succ, ← List.append_assoc, List.map_append (l₁ := b ++ rets n)]
  rfl

theorem jump_loop (want : Int) (p q : List In) (hp : p.length = 3) (hq : q.length = 3) (hpo : ∀ x ∈ p, x.ok) (hqo : ∀ x ∈ q, x.ok) (hw : 0 ≤ want ∧ want ≤ 20) (rp : run (p ++ rets 21) noDa = (want, 4, true)) (rq : run (q ++ rets 21) noDa = (want, 4, true)) :
    ∀ (k n : Nat), n + k = 21 → EvK Try.prog prim Try.f9 (loopAt Try.f9 0) (F9.h0 want ((p ++ rets n).map In.row) ((q ++ rets n).map In.row) n) [.v (.bool true)] []
  | 0, n, h => by
    obtain rfl : n = 21 := by omega
    have okk : ∀ (p : List In), (∀ x ∈ p, x.ok) → ∀ x ∈ p ++ rets 21, x.ok := fun p hp x hx => by
      rcases List.mem_append.1 hx with h | h
      · exact hp x h
      · exact rets_ok 21 (by decide) x h
    have h1 := run_ev _ (okk p hpo) noDa noDa_ok
    have h2 := run_ev _ (okk q hqo) noDa noDa_ok
    rw [rp] at h1
    rw [rq] at h2
    have := F9.l0_4 want ((p ++ rets 21).map In.row) ((q ++ rets 21).map In.row) 21 want 4 true want 4 true (by rfl) h1 h2
    have e : (bif (bif (bif (bif (bif true then true else false) then (want == (IntKind.u32.wrap want)) else false) then (want == want) else false) then ((4 : Int) == 4) else false) then ((4 : Int) == 4) else false) = true := by
      have : IntKind.u32.wrap want = want := by rw [wrapW]; omega
      rw [this]
      simp
    rw [e] at this
    exact this
  | k + 1, n, h => by
    have e1 : IntKind.i64.wrap ((n : Int) + 1) = ((n + 1 : Nat) : Int) := by rw [wrap64]; omega
    have ih := jump_loop want p q hp hq hpo hqo hw rp rq k (n + 1) (by omega)
    have l1 : ∀ (b : List In), b.length = 3 → ((b ++ rets n).map In.row ++ ([[.int .i64 6, .int .i64 0, .int .i64 0, .int .u32 (IntKind.u32.wrap (n : Int))]] : List (List PV))).length * 32 ≤ 2 ^ 47 := fun b hb => by simp [rets, hb]; omega
    have l2 : ∀ (b : List In), ∀ r ∈ ((b ++ rets n).map In.row ++ ([[.int .i64 6, .int .i64 0, .int .i64 0, .int .u32 (IntKind.u32.wrap (n : Int))]] : List (List PV))), r.length = 4 := fun b r hr => by
      rcases List.mem_append.1 hr with h | h
      · exact rows_four _ r h
      · rw [List.mem_singleton.1 h]; rfl
    refine F9.l0_3 want ((p ++ rets n).map In.row) ((q ++ rets n).map In.row) n (by simp; omega) (l1 p hp) (l2 p) (l1 q hq) (l2 q) ?_
    rw [rets_row p n (by omega), rets_row q n (by omega), e1]
    exact ih

theorem jump_bases {a b c jt jf : Int} (hc : jmps c) (ha : inR .u32 a) (hb : inR .u32 b) (hjt : inR .i64 jt) (hjf : inR .i64 jf) :
    (∀ x ∈ [(⟨1, 0, 0, b⟩ : In), ⟨0, 0, 0, a⟩, ⟨c, jt, jf, b⟩], x.ok) ∧ (∀ x ∈ [(⟨1, 0, 0, b⟩ : In), ⟨0, 0, 0, a⟩, ⟨IntKind.i64.wrap (c + 8), jt, jf, 0⟩], x.ok) := by
  have hcr : inR .i64 c := in64 (by unfold jmps at hc; omega) (by unfold jmps at hc; omega)
  have hcr8 : inR .i64 (IntKind.i64.wrap (c + 8)) := by
    rw [(jmp_facts hc).2.2.2.2.2.1]
    exact in64 (by unfold jmps at hc; omega) (by unfold jmps at hc; omega)
  constructor
  · intro q hq
    simp only [List.mem_cons, List.not_mem_nil, or_false] at hq
    rcases hq with rfl | rfl | rfl
    · exact ok_in (in64 (by decide) (by decide)) z64 z64 hb
    · exact ok_in z64 z64 z64 ha
    · exact ok_in hcr hjt hjf hb
  · intro q hq
    simp only [List.mem_cons, List.not_mem_nil, or_false] at hq
    rcases hq with rfl | rfl | rfl
    · exact ok_in (in64 (by decide) (by decide)) z64 z64 hb
    · exact ok_in z64 z64 z64 ha
    · exact ok_in hcr8 hjt hjf zW

theorem machineJumps (w a b jt jf : Int) (ha : inR .u32 a) (hb : inR .u32 b) : EvF Try.prog prim 9 [.v (.int .i64 w), .v (.int .u32 a), .v (.int .u32 b), .v (.int .i64 jt), .v (.int .i64 jf)] [] [] [.v (.bool true)] [] := by
  by_cases h : w < 0 ∨ w > 3 ∨ jt < 0 ∨ jt > 20 ∨ jf < 0 ∨ jf > 20
  · exact F9.p0 w a b jt jf true (by rcases h with h | h | h | h | h | h <;> simp [h]) alive3
  have g : (bif (bif (bif (bif (bif (bif (!true) then true else (decide (w < 0))) then true else (decide (w > 3))) then true else (decide (jt < 0))) then true else (decide (jt > 20))) then true else (decide (jf < 0))) then true else (decide (jf > 20))) = false := by
    have h1 : ¬ w < 0 := by omega
    have h2 : ¬ w > 3 := by omega
    have h3 : ¬ jt < 0 := by omega
    have h4 : ¬ jt > 20 := by omega
    have h5 : ¬ jf < 0 := by omega
    have h6 : ¬ jf > 20 := by omega
    simp [h1, h2, h3, h4, h5, h6]
  have h0 : 0 ≤ w := by omega
  have key : ∀ (c : Int), jmps c →
      ([[.bool (a == b)], [.bool (decide (a > b))], [.bool (decide (a ≥ b))], [.bool ((IntKind.u32.wrap ((BitVec.ofInt 32 a &&& BitVec.ofInt 32 b).toNat : Int)) != 0)]] : List (List PV))[Int.toNat w]? = some [.bool (tellsV c a b)] →
      ([[.int .i64 21], [.int .i64 37], [.int .i64 53], [.int .i64 69]] : List (List PV))[Int.toNat w]? = some [.int .i64 c] →
      EvF Try.prog prim 9 [.v (.int .i64 w), .v (.int .u32 a), .v (.int .u32 b), .v (.int .i64 jt), .v (.int .i64 jf)] [] [] [.v (.bool true)] [] := by
    intro c hc e1 e2
    have hj := jump_bases (a := a) (b := b) (jt := jt) (jf := jf) hc ha hb (in64 (by omega) (by omega)) (in64 (by omega) (by omega))
    have rk := jump_k (a := a) (b := b) (jt := jt) (jf := jf) hc (by omega) (by omega) (by omega) (by omega)
    have rx := jump_x (a := a) (b := b) (jt := jt) (jf := jf) hc (by omega) (by omega) (by omega) (by omega)
    cases hv : tellsV c a b with
    | true =>
      rw [hv, if_pos rfl] at rk rx
      exact F9.p1 w a b jt jf true _ c g h0 e1 hv e2 alive3 (jump_loop jt _ _ rfl rfl hj.1 hj.2 ⟨by omega, by omega⟩ rk rx 21 0 rfl)
    | false =>
      rw [hv, if_neg (by simp)] at rk rx
      exact F9.p2 w a b jt jf true _ c g h0 e1 hv e2 alive3 (jump_loop jf _ _ rfl rfl hj.1 hj.2 ⟨by omega, by omega⟩ rk rx 21 0 rfl)
  have hw : w = 0 ∨ w = 1 ∨ w = 2 ∨ w = 3 := by omega
  rcases hw with rfl | rfl | rfl | rfl
  · exact key 21 (by simp [jmps]) rfl rfl
  · exact key 37 (by simp [jmps]) rfl rfl
  · exact key 53 (by simp [jmps]) rfl rfl
  · exact key 69 (by simp [jmps]) rfl rfl

end Go.Ab.S3
