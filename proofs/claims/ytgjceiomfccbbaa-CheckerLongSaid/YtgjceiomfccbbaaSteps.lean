/-
Runs of given filters, step by step.
-/
import Derived.Test.YtgjceiomfccbbaaRefRun
import Derived.Test.YtgjceiomfccbbaaRD
namespace Go.Ab.S3
open Go Go.Proofs Go.Ab

theorem run_go {l : List In} {d : Da} {k n : Nat} {s t : Ms} {q : In} (i : Nat) (hp : s.pc = i) (hq : l[i]? = some q) (he : endsB s q = false) (hs : stepF s q d = (true, t)) : runF l d (k + 1) n s = runF l d k (n + 1) t := by
  have hlt : i < l.length := (List.getElem?_eq_some_iff.1 hq).1
  conv => lhs; unfold runF
  rw [hp, if_neg (by omega)]
  have : ((i : Int)).toNat = i := by omega
  rw [this, hq]
  show (if endsB s q = true then _ else if (stepF s q d).1 = true then runF l d k (n + 1) (stepF s q d).2 else _) = _
  rw [he, if_neg (by simp), hs, if_pos rfl]

theorem run_end {l : List In} {d : Da} {k n : Nat} {s : Ms} {q : In} (i : Nat) (hp : s.pc = i) (hq : l[i]? = some q) (he : endsB s q = true) : runF l d (k + 1) n s = (endsV s q, (n : Int) + 1, true) := by
  have hlt : i < l.length := (List.getElem?_eq_some_iff.1 hq).1
  conv => lhs; unfold runF
  rw [hp, if_neg (by omega)]
  have : ((i : Int)).toNat = i := by omega
  rw [this, hq]
  show (if endsB s q = true then _ else if (stepF s q d).1 = true then runF l d k (n + 1) (stepF s q d).2 else _) = _
  rw [he, if_pos rfl]

theorem run_bad {l : List In} {d : Da} {k n : Nat} {s : Ms} {q : In} (i : Nat) (hp : s.pc = i) (hq : l[i]? = some q) (he : endsB s q = false) (hs : (stepF s q d).1 = false) : runF l d (k + 1) n s = (0, (n : Int), false) := by
  have hlt : i < l.length := (List.getElem?_eq_some_iff.1 hq).1
  conv => lhs; unfold runF
  rw [hp, if_neg (by omega)]
  have : ((i : Int)).toNat = i := by omega
  rw [this, hq]
  show (if endsB s q = true then _ else if (stepF s q d).1 = true then runF l d k (n + 1) (stepF s q d).2 else _) = _
  rw [he, if_neg (by simp), hs, if_neg (by simp)]

def wp (pc : Int) : Int := IntKind.i64.wrap (pc + 1)

theorem st0 (a x pc k : Int) (c : Nat → Int) (d : Da) : stepF ⟨a, x, c, pc⟩ ⟨0, 0, 0, k⟩ d = (true, ⟨k, x, c, wp pc⟩) := by rw [step_other (by rfl) (by rfl) (by rfl) (by rfl) (show ¬ (0 : Int) = 5 by decide)]; rfl
theorem st1 (a x pc k : Int) (c : Nat → Int) (d : Da) : stepF ⟨a, x, c, pc⟩ ⟨1, 0, 0, k⟩ d = (true, ⟨a, k, c, wp pc⟩) := by rw [step_other (by rfl) (by rfl) (by rfl) (by rfl) (show ¬ (1 : Int) = 5 by decide)]; rfl
theorem st7 (a x pc k : Int) (c : Nat → Int) (d : Da) : stepF ⟨a, x, c, pc⟩ ⟨7, 0, 0, k⟩ d = (true, ⟨a, a, c, wp pc⟩) := by rw [step_other (by rfl) (by rfl) (by rfl) (by rfl) (show ¬ (7 : Int) = 5 by decide)]; rfl
theorem st135 (a x pc k : Int) (c : Nat → Int) (d : Da) : stepF ⟨a, x, c, pc⟩ ⟨135, 0, 0, k⟩ d = (true, ⟨x, x, c, wp pc⟩) := by rw [step_other (by rfl) (by rfl) (by rfl) (by rfl) (show ¬ (135 : Int) = 5 by decide)]; rfl
theorem st132 (a x pc k : Int) (c : Nat → Int) (d : Da) : stepF ⟨a, x, c, pc⟩ ⟨132, 0, 0, k⟩ d = (true, ⟨IntKind.u32.wrap (0 - a), x, c, wp pc⟩) := by rw [step_other (by rfl) (by rfl) (by rfl) (by rfl) (show ¬ (132 : Int) = 5 by decide)]; rfl
theorem st32 (a x pc k : Int) (c : Nat → Int) (d : Da) : stepF ⟨a, x, c, pc⟩ ⟨32, 0, 0, k⟩ d = if Da.hasWord k then (true, ⟨d.word k, x, c, wp pc⟩) else (false, ⟨a, x, c, wp pc⟩) := by rw [step_other (by rfl) (by rfl) (by rfl) (by rfl) (show ¬ (32 : Int) = 5 by decide)]; rfl
theorem st2 (a x pc k : Int) (c : Nat → Int) (d : Da) (h : ¬ k ≥ 16) : stepF ⟨a, x, c, pc⟩ ⟨2, 0, 0, k⟩ d = (true, ⟨a, x, upd c k.toNat a, wp pc⟩) := by
  rw [step_other (by rfl) (by rfl) (by rfl) (by rfl) (show ¬ (2 : Int) = 5 by decide)]
  have e : loadF ⟨a, x, c, wp pc⟩ ⟨2, 0, 0, k⟩ d = if k ≥ 16 then (false, ⟨a, x, c, wp pc⟩) else (true, ⟨a, x, upd c k.toNat a, wp pc⟩) := rfl
  rw [if_neg h] at e
  exact e
theorem st3 (a x pc k : Int) (c : Nat → Int) (d : Da) (h : ¬ k ≥ 16) : stepF ⟨a, x, c, pc⟩ ⟨3, 0, 0, k⟩ d = (true, ⟨a, x, upd c k.toNat x, wp pc⟩) := by
  rw [step_other (by rfl) (by rfl) (by rfl) (by rfl) (show ¬ (3 : Int) = 5 by decide)]
  have e : loadF ⟨a, x, c, wp pc⟩ ⟨3, 0, 0, k⟩ d = if k ≥ 16 then (false, ⟨a, x, c, wp pc⟩) else (true, ⟨a, x, upd c k.toNat x, wp pc⟩) := rfl
  rw [if_neg h] at e
  exact e
theorem st96 (a x pc k : Int) (c : Nat → Int) (d : Da) (h : ¬ k ≥ 16) : stepF ⟨a, x, c, pc⟩ ⟨96, 0, 0, k⟩ d = (true, ⟨c k.toNat, x, c, wp pc⟩) := by
  rw [step_other (by rfl) (by rfl) (by rfl) (by rfl) (show ¬ (96 : Int) = 5 by decide)]
  have e : loadF ⟨a, x, c, wp pc⟩ ⟨96, 0, 0, k⟩ d = if k ≥ 16 then (false, ⟨a, x, c, wp pc⟩) else (true, ⟨c k.toNat, x, c, wp pc⟩) := rfl
  rw [if_neg h] at e
  exact e
theorem st97 (a x pc k : Int) (c : Nat → Int) (d : Da) (h : ¬ k ≥ 16) : stepF ⟨a, x, c, pc⟩ ⟨97, 0, 0, k⟩ d = (true, ⟨a, c k.toNat, c, wp pc⟩) := by
  rw [step_other (by rfl) (by rfl) (by rfl) (by rfl) (show ¬ (97 : Int) = 5 by decide)]
  have e : loadF ⟨a, x, c, wp pc⟩ ⟨97, 0, 0, k⟩ d = if k ≥ 16 then (false, ⟨a, x, c, wp pc⟩) else (true, ⟨a, c k.toNat, c, wp pc⟩) := rfl
  rw [if_neg h] at e
  exact e

theorem en0 {a x pc : Int} {c : Nat → Int} {q : In} (h6 : ¬ q.code = 6) (h22 : ¬ q.code = 22) (h60 : ¬ q.code = 60) : endsB ⟨a, x, c, pc⟩ q = false := by simp [endsB, h6, h22, h60]
theorem en6 {s : Ms} {q : In} (h6 : q.code = 6) : endsB s q = true := by simp [endsB, h6]
theorem en22 {s : Ms} {q : In} (h22 : q.code = 22) : endsB s q = true := by simp [endsB, h22]
theorem ev6 {s : Ms} {q : In} (h6 : q.code = 6) : endsV s q = q.k := by simp [endsV, h6]
theorem ev22 {s : Ms} {q : In} (h22 : q.code = 22) : endsV s q = s.a := by simp [endsV, h22]

def c0 : Nat → Int := fun _ => 0
theorem run_start (l : List In) (d : Da) : run l d = runF l d 4096 0 ⟨0, 0, c0, 0⟩ := rfl
theorem wp_of {p : Int} (n : Nat) (h : p = n) (hn : n < 5000) : wp p = (n + 1 : Nat) := by rw [h]; unfold wp; rw [wrap64]; omega

/-! ### the laws' live run -/

def seven : In := ⟨6, 0, 0, 7⟩
theorem ok_in {c j f k : Int} (h1 : inR .i64 c) (h2 : inR .i64 j) (h3 : inR .i64 f) (h4 : inR .u32 k) : (In.mk c j f k).ok := ⟨h1, h2, h3, h4⟩
theorem noDa_ok : noDa.ok := by
  have z : inR .u64 0 := inU (by decide) (by decide)
  exact ⟨inW (by decide) (by decide), inW (by decide) (by decide), z, z, z, z, z, z, z⟩
theorem z64 : inR .i64 0 := in64 (by decide) (by decide)
theorem zW : inR .u32 0 := inW (by decide) (by decide)

theorem alive3 : EvF Try.prog prim 24 [] [] [] [.v (.bool true)] [] := by
  have h := run_ev [⟨6, 0, 0, 7⟩] (by intro q hq; rw [List.mem_singleton] at hq; subst hq; exact ok_in (in64 (by decide) (by decide)) z64 z64 (inW (by decide) (by decide))) noDa noDa_ok
  have e : run [⟨6, 0, 0, 7⟩] noDa = (7, 1, true) := by
    rw [run_start]
    refine Eq.trans (run_end (k := 4095) 0 rfl rfl (en6 rfl)) ?_
    rw [ev6 rfl]
    rfl
  rw [e] at h
  exact F24.p0 _ _ _ h

/-! ### with what a filter ends -/

theorem rows_four (l : List In) : ∀ r ∈ l.map In.row, r.length = 4 := by
  intro r hr
  obtain ⟨q, _, rfl⟩ := List.mem_map.1 hr
  rfl

theorem machineRuns (l : List In) (hl : ∀ q ∈ l, q.ok) (d : Da) (hd : d.ok) : EvF Try.prog prim 7 [.v (.sl (l.map In.row)), .agg d.row] [] [] [.v (.bool true)] [] := by
  by_cases h : l.length > 300
  · exact F7.p0 (l.map In.row) d.nr d.arch d.ip d.a0 d.a1 d.a2 d.a3 d.a4 d.a5 true (by rw [List.length_map]; simp; omega) alive3
  · have h1 := run_ev l hl d hd
    have h2 := ref_ev l (by omega) hl d hd
    generalize run l d = r at h1 h2
    obtain ⟨v, n, b⟩ := r
    have := F7.p1 (l.map In.row) d.nr d.arch d.ip d.a0 d.a1 d.a2 d.a3 d.a4 d.a5 true v n b v n b (by rw [List.length_map]; simp; omega) (by rw [List.length_map]; omega) (rows_four l) alive3 h1 h2
    have e : (bif (bif (v == v) then (n == n) else false) then (b == b) else false) = true := by simp
    rw [e] at this
    exact this

/-! ### what the machine reckons -/

theorem alu_no8 {c : Int} (h : c = 4 ∨ c = 20 ∨ c = 36 ∨ c = 52 ∨ c = 68 ∨ c = 84 ∨ c = 164 ∨ c = 100 ∨ c = 116) : mathB (IntKind.i64.wrap (c - 8)) 1 = false := by
  rcases h with rfl | rfl | rfl | rfl | rfl | rfl | rfl | rfl | rfl <;> rfl

theorem alu_8 {c : Int} (h : c = 4 ∨ c = 20 ∨ c = 36 ∨ c = 52 ∨ c = 68 ∨ c = 84 ∨ c = 164 ∨ c = 100 ∨ c = 116) : IntKind.i64.wrap (IntKind.i64.wrap (c + 8) - 8) = c ∧ mathB c 1 = true ∧ IntKind.i64.wrap (c + 8) = c + 8 := by
  rcases h with rfl | rfl | rfl | rfl | rfl | rfl | rfl | rfl | rfl <;> decide +kernel

def alus (c : Int) : Prop := c = 4 ∨ c = 20 ∨ c = 36 ∨ c = 52 ∨ c = 68 ∨ c = 84 ∨ c = 164 ∨ c = 100 ∨ c = 116

theorem reck_k {a b c : Int} (hc : alus c) (hb : mathB c b = true) : run [⟨0, 0, 0, a⟩, ⟨c, 0, 0, b⟩, ⟨22, 0, 0, 0⟩] noDa = (mathV c a b, 3, true) := by
  have n : ¬ c = 6 ∧ ¬ c = 22 ∧ ¬ c = 60 := by unfold alus at hc; omega
  rw [run_start]
  refine Eq.trans (run_go (k := 4095) 0 rfl rfl (by rfl) (st0 ..)) ?_
  refine Eq.trans (run_go (k := 4094) 1 (wp_of 0 rfl (by decide)) rfl (en0 n.1 n.2.1 n.2.2) (step_num (alu_no8 hc) hb)) ?_
  refine Eq.trans (run_end (k := 4093) 2 (wp_of 1 (wp_of 0 rfl (by decide)) (by decide)) rfl (en22 rfl)) ?_
  rw [ev22 rfl]
  rfl

theorem reck_x {a b c : Int} (hc : alus c) (hb : mathB c b = true) (h0 : c = 52 → b ≠ 0) : run [⟨0, 0, 0, b⟩, ⟨7, 0, 0, 0⟩, ⟨0, 0, 0, a⟩, ⟨IntKind.i64.wrap (c + 8), 0, 0, 0⟩, ⟨22, 0, 0, 0⟩] noDa = (mathV c a b, 5, true) := by
  have e8 := alu_8 hc
  have n : ¬ c + 8 = 6 ∧ ¬ c + 8 = 22 := by unfold alus at hc; omega
  have w1 := wp_of 0 (p := 0) rfl (by decide)
  have w2 := wp_of 1 w1 (by decide)
  have w3 := wp_of 2 w2 (by decide)
  rw [run_start]
  refine Eq.trans (run_go (k := 4095) 0 rfl rfl (by rfl) (st0 ..)) ?_
  refine Eq.trans (run_go (k := 4094) 1 w1 rfl (by rfl) (st7 ..)) ?_
  refine Eq.trans (run_go (k := 4093) 2 w2 rfl (by rfl) (st0 ..)) ?_
  refine Eq.trans (run_go (k := 4092) 3 w3 rfl (by
      rw [e8.2.2]
      unfold endsB
      rw [if_neg n.1, if_neg n.2]
      show (bif (c + 8 == 60) then (b == 0) else false) = false
      by_cases h : c = 52
      · have := h0 h; simp [this]
      · have : ¬ c + 8 = 60 := by omega
        simp [this]) (step_x (by show mathB (IntKind.i64.wrap (IntKind.i64.wrap (c + 8) - 8)) 1 = true; rw [e8.1]; exact e8.2.1) (by show mathB (IntKind.i64.wrap (IntKind.i64.wrap (c + 8) - 8)) b = true; rw [e8.1]; exact hb))) ?_
  refine Eq.trans (run_end (k := 4091) 4 (wp_of 3 w3 (by decide)) rfl (en22 rfl)) ?_
  rw [ev22 rfl]
  show (mathV (IntKind.i64.wrap (IntKind.i64.wrap (c + 8) - 8)) a b, _, _) = _
  rw [e8.1]
  rfl

theorem div_k (a : Int) : run [⟨0, 0, 0, a⟩, ⟨52, 0, 0, 0⟩, ⟨22, 0, 0, 0⟩] noDa = (0, 1, false) := by
  rw [run_start]
  refine Eq.trans (run_go (k := 4095) 0 rfl rfl (by rfl) (st0 ..)) ?_
  refine Eq.trans (run_bad (k := 4094) 1 (wp_of 0 rfl (by decide)) rfl (by rfl) (by rw [step_other (by rfl) (by rfl) (by rfl) (by rfl) (show ¬ (52 : Int) = 5 by decide)]; rfl)) ?_
  rfl

theorem div_x (a : Int) : run [⟨0, 0, 0, 0⟩, ⟨7, 0, 0, 0⟩, ⟨0, 0, 0, a⟩, ⟨IntKind.i64.wrap (52 + 8), 0, 0, 0⟩, ⟨22, 0, 0, 0⟩] noDa = (0, 4, true) := by
  have w1 := wp_of 0 (p := 0) rfl (by decide)
  have w2 := wp_of 1 w1 (by decide)
  have w3 := wp_of 2 w2 (by decide)
  rw [run_start]
  refine Eq.trans (run_go (k := 4095) 0 rfl rfl (by rfl) (st0 ..)) ?_
  refine Eq.trans (run_go (k := 4094) 1 w1 rfl (by rfl) (st7 ..)) ?_
  refine Eq.trans (run_go (k := 4093) 2 w2 rfl (by rfl) (st0 ..)) ?_
  refine Eq.trans (run_end (k := 4092) 3 w3 rfl (by rfl)) ?_
  rfl

/-! ### the words of the data -/

theorem load_run (d : Da) (k : Int) : run [⟨32, 0, 0, k⟩, ⟨22, 0, 0, 0⟩] d = if Da.hasWord k then (d.word k, 2, true) else (0, 0, false) := by
  have e := st32 0 0 0 k c0 d
  cases h : Da.hasWord k with
  | true =>
    rw [h, if_pos rfl] at e
    rw [run_start]
    rw [if_pos rfl]
    refine Eq.trans (run_go (k := 4095) 0 rfl rfl (by rfl) e) ?_
    refine Eq.trans (run_end (k := 4094) 1 (wp_of 0 rfl (by decide)) rfl (en22 rfl)) ?_
    rw [ev22 rfl]
    rfl
  | false =>
    rw [h, if_neg (by simp)] at e
    rw [run_start]
    rw [if_neg (by simp)]
    refine Eq.trans (run_bad (k := 4095) 0 rfl rfl (by rfl) (by rw [e])) ?_
    rfl

def goesBack (j : Int) : List In := [⟨132, 0, 0, 0⟩, ⟨132, 0, 0, 0⟩, ⟨21, j, j, 0⟩, ⟨22, 0, 0, 0⟩]

theorem back_run (d : Da) (j : Int) (hj : j = -1 ∨ j = -2 ∨ j = -3) : ∀ (k n : Nat) (x pc : Int), n + k = 4096 → pc = 0 ∨ pc = 1 ∨ pc = 2 → runF (goesBack j) d k n ⟨0, x, c0, pc⟩ = (0, 4096, false)
  | 0, n, x, pc, h, hp => by rfl
  | k + 1, n, x, pc, h, hp => by
    have neg : IntKind.u32.wrap (0 - 0) = 0 := by decide +kernel
    rcases hp with rfl | rfl | rfl
    · refine Eq.trans (run_go 0 rfl rfl (by rfl) (st132 ..)) ?_
      rw [neg]
      exact back_run d j hj k (n + 1) x _ (by omega) (by right; left; rfl)
    · refine Eq.trans (run_go 1 rfl rfl (by rfl) (st132 ..)) ?_
      rw [neg]
      exact back_run d j hj k (n + 1) x _ (by omega) (by right; right; rfl)
    · have e : stepF ⟨0, x, c0, 2⟩ ⟨21, j, j, 0⟩ d = (true, ⟨0, x, c0, IntKind.i64.wrap (IntKind.i64.wrap (2 + 1) + j)⟩) := by
        rw [step_jump (by rfl) (by rfl) (by rfl) (by rfl), ite_self]
      refine Eq.trans (run_go 2 rfl rfl (by rfl) e) ?_
      refine back_run d j hj k (n + 1) x _ (by omega) ?_
      rcases hj with rfl | rfl | rfl
      · right; right; rfl
      · right; left; rfl
      · left; rfl

theorem machineLoads (d : Da) (hd : d.ok) (k back : Int) (hk : inR .u32 k) (hb : inR .i64 back) : EvF Try.prog prim 11 [.agg d.row, .v (.int .u32 k), .v (.int .i64 back)] [] [] [.v (.bool true)] [] := by
  by_cases h : back < 1 ∨ back > 3
  · exact F11.p0 d.nr d.arch d.ip d.a0 d.a1 d.a2 d.a3 d.a4 d.a5 k back true (by rcases h with h | h <;> simp [h]) alive3
  have hb' : back = 1 ∨ back = 2 ∨ back = 3 := by omega
  have ok : ∀ q : In, (q = ⟨32, 0, 0, k⟩ ∨ q = ⟨22, 0, 0, 0⟩) → q.ok := by
    rintro q (rfl | rfl)
    · exact ok_in (in64 (by decide) (by decide)) z64 z64 hk
    · exact ok_in (in64 (by decide) (by decide)) z64 z64 zW
  have h1 := run_ev [⟨32, 0, 0, k⟩, ⟨22, 0, 0, 0⟩] (by intro q hq; exact ok q (by simpa using hq)) d hd
  rw [load_run] at h1
  have h2 := rword_ev d hd hk
  have hj : IntKind.i64.wrap (0 - back) = -1 ∨ IntKind.i64.wrap (0 - back) = -2 ∨ IntKind.i64.wrap (0 - back) = -3 := by
    rcases hb' with rfl | rfl | rfl
    · left; rfl
    · right; left; rfl
    · right; right; rfl
  have h3 := run_ev (goesBack (IntKind.i64.wrap (0 - back))) (by
    intro q hq
    have hjr : inR .i64 (IntKind.i64.wrap (0 - back)) := in64 (by omega) (by omega)
    simp only [goesBack, List.mem_cons, List.not_mem_nil, or_false] at hq
    rcases hq with rfl | rfl | rfl | rfl
    · exact ok_in (in64 (by decide) (by decide)) z64 z64 zW
    · exact ok_in (in64 (by decide) (by decide)) z64 z64 zW
    · exact ok_in (in64 (by decide) (by decide)) hjr hjr zW
    · exact ok_in (in64 (by decide) (by decide)) z64 z64 zW) d hd
  have e3 : run (goesBack (IntKind.i64.wrap (0 - back))) d = (0, 4096, false) := back_run d _ hj 4096 0 0 0 (by omega) (.inl rfl)
  rw [e3] at h3
  have g : (bif (bif (!true) then true else (decide (back < 1))) then true else (decide (back > 3))) = false := by
    rcases hb' with rfl | rfl | rfl <;> rfl
  have ew : Da.hasWord k = false → d.word k = 0 := fun h => by simp [Da.word, h]
  cases hw : Da.hasWord k with
  | true =>
    rw [hw, if_pos rfl] at h1
    rw [hw] at h2
    exact F11.p2 d.nr d.arch d.ip d.a0 d.a1 d.a2 d.a3 d.a4 d.a5 k back true (d.word k) 2 true (d.word k) true 0 4096 false g (by simp) alive3 h1 h2 h3
  | false =>
    rw [hw, if_neg (by simp)] at h1
    rw [hw, ew hw] at h2
    exact F11.p2 d.nr d.arch d.ip d.a0 d.a1 d.a2 d.a3 d.a4 d.a5 k back true 0 0 false 0 false 0 4096 false g (by simp) alive3 h1 h2 h3

end Go.Ab.S3
