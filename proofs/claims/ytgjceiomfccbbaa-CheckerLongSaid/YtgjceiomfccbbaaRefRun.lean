/-
The document's run comes to what the machine's run comes to.
-/
import Derived.Test.YtgjceiomfccbbaaSame
namespace Go.Ab.S3
open Go Go.Proofs Go.Ab

def outP (n : Nat) (z : Int) : Prop := z < 0 ∨ z ≥ (n : Int)
def rel (n : Nat) (pc g : Int) : Prop := g = pc ∨ (outP n pc ∧ outP n g)

theorem jump_rel {n : Nat} (hn : (n : Int) < 4611686018427387904) {pc j : Int} (h0 : 0 ≤ pc) (h1 : pc < n) (hj : inR .i64 j) :
    let w := IntKind.i64.wrap (IntKind.i64.wrap (pc + 1) + j)
    ((bif (bif (decide (j < 0)) then (decide (((pc + 1) + j) < 0)) else false) then true else (decide (j > (n : Int)))) = true → rel n w n) ∧
    ((bif (bif (decide (j < 0)) then (decide (((pc + 1) + j) < 0)) else false) then true else (decide (j > (n : Int)))) = false → inR .i64 ((pc + 1) + j) ∧ rel n w ((pc + 1) + j)) := by
  have hb := ofI hj
  have e1 : IntKind.i64.wrap (pc + 1) = pc + 1 := by rw [wrap64]; omega
  intro w
  have ew : w = (pc + 1 + j + 9223372036854775808) % 18446744073709551616 - 9223372036854775808 := by show IntKind.i64.wrap (IntKind.i64.wrap (pc + 1) + j) = _; rw [e1, wrap64]
  clear_value w
  constructor
  · intro h
    right
    refine ⟨?_, Or.inr (by omega)⟩
    unfold outP
    have : (j < 0 ∧ pc + 1 + j < 0) ∨ j > (n : Int) := by
      by_cases a : j < 0 <;> by_cases b : pc + 1 + j < 0 <;> by_cases c : j > (n : Int) <;> simp [a, b, c] at h <;> omega
    omega
  · intro h
    have : ¬ (j < 0 ∧ pc + 1 + j < 0) ∧ ¬ j > (n : Int) := by
      by_cases a : j < 0 <;> by_cases b : pc + 1 + j < 0 <;> by_cases c : j > (n : Int) <;> simp [a, b, c] at h <;> omega
    refine ⟨in64 (by omega) (by omega), Or.inl (by omega)⟩

theorem far_rel {n : Nat} (hn : (n : Int) < 4611686018427387904) {pc k : Int} (h0 : 0 ≤ pc) (h1 : pc < n) (hk : inR .u32 k) :
    let w := IntKind.i64.wrap (IntKind.i64.wrap (pc + 1) + IntKind.i64.wrap k)
    ((decide ((IntKind.u64.wrap k) > (IntKind.u64.wrap (n : Int)))) = true → rel n w n) ∧
    ((decide ((IntKind.u64.wrap k) > (IntKind.u64.wrap (n : Int)))) = false → inR .i64 ((pc + 1) + IntKind.i64.wrap k) ∧ rel n w ((pc + 1) + IntKind.i64.wrap k)) := by
  have hb := ofW hk
  have e1 : IntKind.i64.wrap (pc + 1) = pc + 1 := by rw [wrap64]; omega
  have e2 : IntKind.i64.wrap k = k := by rw [wrap64]; omega
  have e3 : IntKind.u64.wrap k = k := by rw [wrapU]; omega
  have e4 : IntKind.u64.wrap (n : Int) = n := by rw [wrapU]; omega
  intro w
  have ew : w = (pc + 1 + k + 9223372036854775808) % 18446744073709551616 - 9223372036854775808 := by show IntKind.i64.wrap (IntKind.i64.wrap (pc + 1) + IntKind.i64.wrap k) = _; rw [e1, e2, wrap64]
  clear_value w
  rw [e2, e3, e4]
  constructor
  · intro h
    right
    refine ⟨?_, Or.inr (by omega)⟩
    unfold outP
    have := of_decide_eq_true h
    omega
  · intro h
    have := of_decide_eq_false h
    refine ⟨in64 (by omega) (by omega), Or.inl (by omega)⟩

theorem ref_loop (l : List In) (hn : (l.length : Int) < 4611686018427387904) (hl : ∀ q ∈ l, q.ok) (d : Da) (hd : d.ok) : ∀ (k n : Nat) (s : Ms) (g : Int), n + k = 4096 → s.ok → rel l.length s.pc g →
    EvK Try.prog prim Try.f26 (loopAt Try.f26 0) (F26.h0 (l.map In.row) d.nr d.arch d.ip d.a0 d.a1 d.a2 d.a3 d.a4 d.a5 g n s.a s.x (s.c 0) (s.c 1) (s.c 2) (s.c 3) (s.c 4) (s.c 5) (s.c 6) (s.c 7) (s.c 8) (s.c 9) (s.c 10) (s.c 11) (s.c 12) (s.c 13) (s.c 14) (s.c 15)) (resR (runF l d k n s)) []
  | 0, n, s, g, hk, hs, hr => by
    exact F26.l0_13 (l.map In.row) d.nr d.arch d.ip d.a0 d.a1 d.a2 d.a3 d.a4 d.a5 g n s.a s.x (s.c 0) (s.c 1) (s.c 2) (s.c 3) (s.c 4) (s.c 5) (s.c 6) (s.c 7) (s.c 8) (s.c 9) (s.c 10) (s.c 11) (s.c 12) (s.c 13) (s.c 14) (s.c 15) (by simp; omega)
  | k + 1, n, s, g, hk, hs, hr => by
    have hn' : (decide ((n : Int) < 4096)) = true := by simp; omega
    have hn1 : inR .i64 ((n : Int) + 1) := in64 (by omega) (by omega)
    have ho := out_of g (l.map In.row).length
    rw [List.length_map] at ho
    unfold runF
    by_cases hout : s.pc < 0 ∨ s.pc ≥ (l.length : Int)
    · rw [if_pos hout]
      have hg : g < 0 ∨ g ≥ (l.length : Int) := by
        rcases hr with h | ⟨_, h⟩
        · rw [h]; exact hout
        · exact h
      exact F26.l0_1 (l.map In.row) d.nr d.arch d.ip d.a0 d.a1 d.a2 d.a3 d.a4 d.a5 g n s.a s.x (s.c 0) (s.c 1) (s.c 2) (s.c 3) (s.c 4) (s.c 5) (s.c 6) (s.c 7) (s.c 8) (s.c 9) (s.c 10) (s.c 11) (s.c 12) (s.c 13) (s.c 14) (s.c 15) hn' (by rw [List.length_map, ho]; simpa using hg)
    · rw [if_neg hout]
      have hg : g = s.pc := by
        rcases hr with h | ⟨h, _⟩
        · exact h
        · exact absurd h hout
      subst hg
      have hin : (bif (decide (s.pc < 0)) then true else (decide (s.pc ≥ ((l.map In.row).length : Int)))) = false := by rw [List.length_map, ho]; simpa using hout
      have h0 : 0 ≤ s.pc := by omega
      have hpl : s.pc < l.length := by omega
      have hlt : s.pc.toNat < l.length := by omega
      have hg1 : inR .i64 (s.pc + 1) := in64 (by omega) (by omega)
      have hq := List.getElem?_eq_getElem hlt
      have hqo : (l[s.pc.toNat]).ok := hl _ (List.getElem_mem _)
      rw [hq]
      generalize l[s.pc.toNat] = q at hq hqo
      have hg := rows_get hq
      show EvK Try.prog prim Try.f26 (loopAt Try.f26 0) _ (resR (if endsB s q = true then (endsV s q, (n : Int) + 1, true) else if (stepF s q d).1 = true then runF l d k (n + 1) (stepF s q d).2 else (0, (n : Int), false))) []
      by_cases h6 : q.code = 6
      · have e : (if endsB s q = true then (endsV s q, (n : Int) + 1, true) else if (stepF s q d).1 = true then runF l d k (n + 1) (stepF s q d).2 else (0, (n : Int), false)) = (q.k, (n : Int) + 1, true) := by simp [endsB, endsV, h6]
        rw [e]
        exact F26.l0_2 (l.map In.row) d.nr d.arch d.ip d.a0 d.a1 d.a2 d.a3 d.a4 d.a5 s.pc n s.a s.x (s.c 0) (s.c 1) (s.c 2) (s.c 3) (s.c 4) (s.c 5) (s.c 6) (s.c 7) (s.c 8) (s.c 9) (s.c 10) (s.c 11) (s.c 12) (s.c 13) (s.c 14) (s.c 15) q.code q.jt q.jf q.k hn' hin h0 hg hg1 (eq_of h6) hn1
      by_cases h22 : q.code = 22
      · have e : (if endsB s q = true then (endsV s q, (n : Int) + 1, true) else if (stepF s q d).1 = true then runF l d k (n + 1) (stepF s q d).2 else (0, (n : Int), false)) = (s.a, (n : Int) + 1, true) := by simp [endsB, endsV, h22]
        rw [e]
        exact F26.l0_3 (l.map In.row) d.nr d.arch d.ip d.a0 d.a1 d.a2 d.a3 d.a4 d.a5 s.pc n s.a s.x (s.c 0) (s.c 1) (s.c 2) (s.c 3) (s.c 4) (s.c 5) (s.c 6) (s.c 7) (s.c 8) (s.c 9) (s.c 10) (s.c 11) (s.c 12) (s.c 13) (s.c 14) (s.c 15) q.code q.jt q.jf q.k hn' hin h0 hg hg1 (ne_of h6) (eq_of h22) hn1
      have lm : (l.map In.row).length = l.length := List.length_map ..
      by_cases h5 : q.code = 5
      · have e : (if endsB s q = true then (endsV s q, (n : Int) + 1, true) else if (stepF s q d).1 = true then runF l d k (n + 1) (stepF s q d).2 else (0, (n : Int), false)) = runF l d k (n + 1) { s with pc := IntKind.i64.wrap (IntKind.i64.wrap (s.pc + 1) + IntKind.i64.wrap q.k) } := by
          rw [ja_step h5]
          simp [endsB, h5]
        rw [e]
        obtain ⟨f1, f2⟩ := far_rel hn h0 hpl hqo.2.2.2
        cases hf : decide ((IntKind.u64.wrap q.k) > (IntKind.u64.wrap (l.length : Int))) with
        | true =>
          refine F26.l0_4 (l.map In.row) d.nr d.arch d.ip d.a0 d.a1 d.a2 d.a3 d.a4 d.a5 s.pc n s.a s.x (s.c 0) (s.c 1) (s.c 2) (s.c 3) (s.c 4) (s.c 5) (s.c 6) (s.c 7) (s.c 8) (s.c 9) (s.c 10) (s.c 11) (s.c 12) (s.c 13) (s.c 14) (s.c 15) q.code q.jt q.jf q.k hn' hin h0 hg hg1 (ne_of h6) (ne_of h22) (eq_of h5) (by rw [lm]; exact hf) hn1 ?_
          rw [lm]
          exact ref_loop l hn hl d hd k (n + 1) ⟨s.a, s.x, s.c, _⟩ l.length (by omega) (by exact hs) (f1 hf)
        | false =>
          obtain ⟨f3, f4⟩ := f2 hf
          exact F26.l0_5 (l.map In.row) d.nr d.arch d.ip d.a0 d.a1 d.a2 d.a3 d.a4 d.a5 s.pc n s.a s.x (s.c 0) (s.c 1) (s.c 2) (s.c 3) (s.c 4) (s.c 5) (s.c 6) (s.c 7) (s.c 8) (s.c 9) (s.c 10) (s.c 11) (s.c 12) (s.c 13) (s.c 14) (s.c 15) q.code q.jt q.jf q.k hn' hin h0 hg hg1 (ne_of h6) (ne_of h22) (eq_of h5) (by rw [lm]; exact hf) f3 hn1
            (ref_loop l hn hl d hd k (n + 1) ⟨s.a, s.x, s.c, _⟩ _ (by omega) (by exact hs) f4)
      have hj := isjump_ev q.code
      cases hb : jumpB q.code with
      | true =>
        rw [hb] at hj
        have nj : endsB s q = false := by
          have : ¬ q.code = 60 := by intro h; rw [h] at hb; revert hb; decide
          simp [endsB, h6, h22, this]
        have e : (if endsB s q = true then (endsV s q, (n : Int) + 1, true) else if (stepF s q d).1 = true then runF l d k (n + 1) (stepF s q d).2 else (0, (n : Int), false)) = runF l d k (n + 1) { s with pc := IntKind.i64.wrap (IntKind.i64.wrap (s.pc + 1) + (if jumpV q.code s.a (withF s q.code q.k) then q.jt else q.jf)) } := by
          rw [jump_step hb, nj]
          simp
        rw [e]
        have hw := with_ev s q.code q.k ([] ++ [d.cells, s.rbox, q.box]) 1 rfl
        have hju := jumps_ev q.code s.a (withF s q.code q.k)
        cases hv : jumpV q.code s.a (withF s q.code q.k) with
        | true =>
          rw [hv] at hju
          rw [if_pos rfl]
          obtain ⟨f1, f2⟩ := jump_rel hn h0 hpl hqo.2.1
          cases hf : (bif (bif (decide (q.jt < 0)) then (decide (((s.pc + 1) + q.jt) < 0)) else false) then true else (decide (q.jt > (l.length : Int)))) with
          | true =>
            refine F26.l0_6 (l.map In.row) d.nr d.arch d.ip d.a0 d.a1 d.a2 d.a3 d.a4 d.a5 s.pc n s.a s.x (s.c 0) (s.c 1) (s.c 2) (s.c 3) (s.c 4) (s.c 5) (s.c 6) (s.c 7) (s.c 8) (s.c 9) (s.c 10) (s.c 11) (s.c 12) (s.c 13) (s.c 14) (s.c 15) q.code q.jt q.jf q.k true _ true hn' hin h0 hg hg1 (ne_of h6) (ne_of h22) (ne_of h5) rfl rfl (fun h => ?_) (by rw [lm]; exact hf) hn1 hj hw hju ?_
            · have := of_decide_eq_true h
              have := ofI hqo.2.1
              exact in64 (by omega) (by omega)
            · rw [lm]
              exact ref_loop l hn hl d hd k (n + 1) ⟨s.a, s.x, s.c, _⟩ l.length (by omega) (by exact hs) (f1 hf)
          | false =>
            obtain ⟨f3, f4⟩ := f2 hf
            exact F26.l0_7 (l.map In.row) d.nr d.arch d.ip d.a0 d.a1 d.a2 d.a3 d.a4 d.a5 s.pc n s.a s.x (s.c 0) (s.c 1) (s.c 2) (s.c 3) (s.c 4) (s.c 5) (s.c 6) (s.c 7) (s.c 8) (s.c 9) (s.c 10) (s.c 11) (s.c 12) (s.c 13) (s.c 14) (s.c 15) q.code q.jt q.jf q.k true _ true hn' hin h0 hg hg1 (ne_of h6) (ne_of h22) (ne_of h5) rfl rfl (fun _ => f3) (by rw [lm]; exact hf) f3 hn1 hj hw hju
              (ref_loop l hn hl d hd k (n + 1) ⟨s.a, s.x, s.c, _⟩ _ (by omega) (by exact hs) f4)
        | false =>
          rw [hv] at hju
          rw [if_neg (by simp)]
          obtain ⟨f1, f2⟩ := jump_rel hn h0 hpl hqo.2.2.1
          cases hf : (bif (bif (decide (q.jf < 0)) then (decide (((s.pc + 1) + q.jf) < 0)) else false) then true else (decide (q.jf > (l.length : Int)))) with
          | true =>
            refine F26.l0_8 (l.map In.row) d.nr d.arch d.ip d.a0 d.a1 d.a2 d.a3 d.a4 d.a5 s.pc n s.a s.x (s.c 0) (s.c 1) (s.c 2) (s.c 3) (s.c 4) (s.c 5) (s.c 6) (s.c 7) (s.c 8) (s.c 9) (s.c 10) (s.c 11) (s.c 12) (s.c 13) (s.c 14) (s.c 15) q.code q.jt q.jf q.k true _ false hn' hin h0 hg hg1 (ne_of h6) (ne_of h22) (ne_of h5) rfl rfl (fun h => ?_) (by rw [lm]; exact hf) hn1 hj hw hju ?_
            · have := of_decide_eq_true h
              have := ofI hqo.2.2.1
              exact in64 (by omega) (by omega)
            · rw [lm]
              exact ref_loop l hn hl d hd k (n + 1) ⟨s.a, s.x, s.c, _⟩ l.length (by omega) (by exact hs) (f1 hf)
          | false =>
            obtain ⟨f3, f4⟩ := f2 hf
            exact F26.l0_9 (l.map In.row) d.nr d.arch d.ip d.a0 d.a1 d.a2 d.a3 d.a4 d.a5 s.pc n s.a s.x (s.c 0) (s.c 1) (s.c 2) (s.c 3) (s.c 4) (s.c 5) (s.c 6) (s.c 7) (s.c 8) (s.c 9) (s.c 10) (s.c 11) (s.c 12) (s.c 13) (s.c 14) (s.c 15) q.code q.jt q.jf q.k true _ false hn' hin h0 hg hg1 (ne_of h6) (ne_of h22) (ne_of h5) rfl rfl (fun _ => f3) (by rw [lm]; exact hf) f3 hn1 hj hw hju
              (ref_loop l hn hl d hd k (n + 1) ⟨s.a, s.x, s.c, _⟩ _ (by omega) (by exact hs) f4)
      | false =>
        rw [hb] at hj
        have hp := plain_ev s hs.1 d hd q.code q.k hqo.2.2.2 ([] ++ [d.cells, s.rbox, q.box]) 1 rfl
        have hok := step_ok hs hqo d
        rcases ref_step (s := s) (d := d) hqo h6 h22 h5 hb with ⟨r1, r2, r3⟩ | ⟨r1, r2, r3, r4⟩
        · rw [r3] at hp
          rw [r1, r2, if_pos rfl]
          generalize refF s q.code q.k d = t at hp
          obtain ⟨tb, te, t⟩ := t
          exact F26.l0_10 (l.map In.row) d.nr d.arch d.ip d.a0 d.a1 d.a2 d.a3 d.a4 d.a5 s.pc n s.a s.x (s.c 0) (s.c 1) (s.c 2) (s.c 3) (s.c 4) (s.c 5) (s.c 6) (s.c 7) (s.c 8) (s.c 9) (s.c 10) (s.c 11) (s.c 12) (s.c 13) (s.c 14) (s.c 15) q.code q.jt q.jf q.k false _ true t.a t.x (t.c 0) (t.c 1) (t.c 2) (t.c 3) (t.c 4) (t.c 5) (t.c 6) (t.c 7) (t.c 8) (t.c 9) (t.c 10) (t.c 11) (t.c 12) (t.c 13) (t.c 14) (t.c 15) hn' hin h0 hg hg1 (ne_of h6) (ne_of h22) (ne_of h5) rfl rfl hn1 hj hp
        · rw [r2, r3] at hp
          rw [r1, if_neg (by simp)]
          clear r2 r3
          generalize stepF s q d = u at hp r4 hok
          obtain ⟨ub, u⟩ := u
          generalize refF s q.code q.k d = t at hp r4
          obtain ⟨tb, te, t⟩ := t
          cases ub with
          | false =>
            rw [if_neg (by simp)]
            exact F26.l0_11 (l.map In.row) d.nr d.arch d.ip d.a0 d.a1 d.a2 d.a3 d.a4 d.a5 s.pc n s.a s.x (s.c 0) (s.c 1) (s.c 2) (s.c 3) (s.c 4) (s.c 5) (s.c 6) (s.c 7) (s.c 8) (s.c 9) (s.c 10) (s.c 11) (s.c 12) (s.c 13) (s.c 14) (s.c 15) q.code q.jt q.jf q.k false false false t.a t.x (t.c 0) (t.c 1) (t.c 2) (t.c 3) (t.c 4) (t.c 5) (t.c 6) (t.c 7) (t.c 8) (t.c 9) (t.c 10) (t.c 11) (t.c 12) (t.c 13) (t.c 14) (t.c 15) hn' hin h0 hg hg1 (ne_of h6) (ne_of h22) (ne_of h5) rfl rfl rfl hj hp
          | true =>
            rw [if_pos rfl]
            have e : u = { t with pc := IntKind.i64.wrap (s.pc + 1) } := r4 rfl
            subst e
            exact F26.l0_12 (l.map In.row) d.nr d.arch d.ip d.a0 d.a1 d.a2 d.a3 d.a4 d.a5 s.pc n s.a s.x (s.c 0) (s.c 1) (s.c 2) (s.c 3) (s.c 4) (s.c 5) (s.c 6) (s.c 7) (s.c 8) (s.c 9) (s.c 10) (s.c 11) (s.c 12) (s.c 13) (s.c 14) (s.c 15) q.code q.jt q.jf q.k false true false t.a t.x (t.c 0) (t.c 1) (t.c 2) (t.c 3) (t.c 4) (t.c 5) (t.c 6) (t.c 7) (t.c 8) (t.c 9) (t.c 10) (t.c 11) (t.c 12) (t.c 13) (t.c 14) (t.c 15) hn' hin h0 hg hg1 (ne_of h6) (ne_of h22) (ne_of h5) rfl rfl rfl hn1 hj hp
              (ref_loop l hn hl d hd k (n + 1) { t with pc := IntKind.i64.wrap (s.pc + 1) } _ (by omega) hok (Or.inl (by show s.pc + 1 = IntKind.i64.wrap (s.pc + 1); rw [wrap64]; omega)))

theorem ref_ev (l : List In) (hn : (l.length : Int) < 4611686018427387904) (hl : ∀ q ∈ l, q.ok) (d : Da) (hd : d.ok) : EvF Try.prog prim 26 [.v (.sl (l.map In.row)), .agg d.row] [] [] (resR (run l d)) [] :=
  F26.p0 (l.map In.row) d.nr d.arch d.ip d.a0 d.a1 d.a2 d.a3 d.a4 d.a5 (ref_loop l hn hl d hd 4096 0 start 0 (by omega) start_ok (Or.inl rfl))

end Go.Ab.S3
