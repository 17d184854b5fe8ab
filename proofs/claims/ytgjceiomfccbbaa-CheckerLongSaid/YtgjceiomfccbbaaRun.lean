/-
Runs: the machine's and the document's come to the same.
-/
import Derived.Test.YtgjceiomfccbbaaRef
namespace Go.Ab.S3
open Go Go.Proofs Go.Ab

theorem wrap64 (n : Int) : IntKind.i64.wrap n = (n + 9223372036854775808) % 18446744073709551616 - 9223372036854775808 := by
  have e2 : IntKind.i64.wrap n = if (true && decide (n % 18446744073709551616 ≥ 9223372036854775808)) = true then n % 18446744073709551616 - 18446744073709551616 else n % 18446744073709551616 := rfl
  rw [e2]
  by_cases h : n % 18446744073709551616 ≥ 9223372036854775808
  · rw [if_pos (by simpa using h)]; omega
  · rw [if_neg (by simpa using h)]; omega

theorem ofI {n : Int} (h : inR .i64 n) : -9223372036854775808 ≤ n ∧ n ≤ 9223372036854775807 := ⟨by simpa [IntKind.min, IntKind.signed, IntKind.bits] using h.1, by simpa [IntKind.max, IntKind.signed, IntKind.bits] using h.2⟩

theorem w8 {c v : Int} (hc : inR .i64 c) (h0 : 0 ≤ v) (h1 : v ≤ 1000) : (IntKind.i64.wrap (c - 8) = v) = (c = v + 8) := by
  have := ofI hc
  rw [wrap64]
  apply propext
  constructor <;> intro h <;> omega

/-! ### ranges -/

theorem wrapW_in (n : Int) : inR .u32 (IntKind.u32.wrap n) := by rw [wrapW]; exact inW (by omega) (by omega)

theorem math_in {a : Int} (ha : inR .u32 a) (c k : Int) : inR .u32 (mathV c a k) := by
  have h0 := ofW ha
  unfold mathV
  repeat' split
  all_goals first | exact wrapW_in _ | exact inW (by decide) (by decide) | skip
  rw [Int.fdiv_eq_ediv_of_nonneg _ (Int.le_of_lt (Int.pow_pos (by decide)))]
  exact inW (Int.ediv_nonneg h0.1 (Int.le_of_lt (Int.pow_pos (by decide)))) (Int.le_trans (Int.ediv_le_self _ h0.1) h0.2)

theorem word_in (d : Da) (off : Int) : inR .u32 (d.word off) := by
  unfold Da.word
  split
  · have := cut_bound d.bytes d.bytes_isB off.toNat 4
    exact inW this.1 (by omega)
  · exact inW (by decide) (by decide)

theorem upd_in {c : Nat → Int} {v : Int} (hc : ∀ k, inR .u32 (c k)) (hv : inR .u32 v) (k : Nat) : ∀ j, inR .u32 (upd c k v j) := by
  intro j
  unfold upd
  split
  · exact hv
  · exact hc j

theorem cell_ok {s : Ms} (h : s.ok) (q : In) : (cellF s q).2.ok := by
  obtain ⟨hx, ha, hc⟩ := h
  unfold cellF
  repeat' split
  · exact ⟨hx, ha, hc⟩
  · exact ⟨hx, hc _, hc⟩
  · exact ⟨hc _, ha, hc⟩
  · exact ⟨hx, ha, upd_in hc ha _⟩
  · exact ⟨hx, ha, upd_in hc hx _⟩

theorem load_ok {s : Ms} (h : s.ok) {q : In} (hq : q.ok) (d : Da) : (loadF s q d).2.ok := by
  have h' := h
  obtain ⟨hx, ha, hc⟩ := h
  unfold loadF
  repeat' split
  · exact cell_ok h' q
  · exact ⟨hx, hq.2.2.2, hc⟩
  · exact ⟨hq.2.2.2, ha, hc⟩
  · exact ⟨hx, inW (n := 64) (by decide) (by decide), hc⟩
  · exact ⟨inW (n := 64) (by decide) (by decide), ha, hc⟩
  · exact ⟨ha, ha, hc⟩
  · exact ⟨hx, hx, hc⟩
  · exact ⟨hx, wrapW_in _, hc⟩
  · exact ⟨hx, word_in d _, hc⟩
  · exact h'
  · exact h'

theorem next_ok {s : Ms} (h : s.ok) {q : In} (hq : q.ok) (d : Da) (c k : Int) : (nextF s q d c k).2.ok := by
  unfold nextF
  repeat' split
  · exact h
  · exact h
  · exact h
  · exact load_ok h hq d

theorem step_ok {s : Ms} (h : s.ok) {q : In} (hq : q.ok) (d : Da) : (stepF s q d).2.ok := by
  have h1 : ({ s with pc := IntKind.i64.wrap (s.pc + 1) } : Ms).ok := h
  have one : ∀ c k, (oneF { s with pc := IntKind.i64.wrap (s.pc + 1) } q d c k).2.ok := by
    intro c k
    unfold oneF
    repeat' split
    · exact ⟨h.1, math_in h.2.1 _ _, h.2.2⟩
    · exact next_ok h1 hq d _ _
    · exact next_ok h1 hq d _ _
  unfold stepF
  split
  · exact one _ _
  · exact one _ _

/-! ### the machine's run -/

def Da.cells (d : Da) : List AV := [.v (.int .u32 d.nr), .v (.int .u32 d.arch), .v (.int .u64 d.ip), .v (.int .u64 d.a0), .v (.int .u64 d.a1), .v (.int .u64 d.a2), .v (.int .u64 d.a3), .v (.int .u64 d.a4), .v (.int .u64 d.a5)]

def resR (r : Int × Int × Bool) : List AV := [.v (.int .u32 r.1), .v (.int .i64 r.2.1), .v (.bool r.2.2)]

theorem rows_get {l : List In} {i : Nat} {q : In} (h : l[i]? = some q) : (l.map In.row)[i]? = some q.row := by rw [List.getElem?_map, h]; rfl

theorem out_of (pc : Int) (n : Nat) : (bif (decide (pc < 0)) then true else (decide (pc ≥ (n : Int)))) = decide (pc < 0 ∨ pc ≥ (n : Int)) := by
  by_cases h1 : pc < 0 <;> by_cases h2 : pc ≥ (n : Int) <;> simp [h1, h2]

theorem run_loop (l : List In) (hl : ∀ q ∈ l, q.ok) (d : Da) (hd : d.ok) : ∀ (k n : Nat) (s : Ms), n + k = 4096 → s.ok →
    EvK Try.prog prim Try.f25 (loopAt Try.f25 0) (F25.h0 (l.map In.row) d.nr d.arch d.ip d.a0 d.a1 d.a2 d.a3 d.a4 d.a5 n s.a s.x (s.c 0) (s.c 1) (s.c 2) (s.c 3) (s.c 4) (s.c 5) (s.c 6) (s.c 7) (s.c 8) (s.c 9) (s.c 10) (s.c 11) (s.c 12) (s.c 13) (s.c 14) (s.c 15) s.pc) (resR (runF l d k n s)) []
  | 0, n, s, hk, hs => by
    exact F25.l0_5 (l.map In.row) d.nr d.arch d.ip d.a0 d.a1 d.a2 d.a3 d.a4 d.a5 n s.a s.x (s.c 0) (s.c 1) (s.c 2) (s.c 3) (s.c 4) (s.c 5) (s.c 6) (s.c 7) (s.c 8) (s.c 9) (s.c 10) (s.c 11) (s.c 12) (s.c 13) (s.c 14) (s.c 15) s.pc (by simp; omega)
  | k + 1, n, s, hk, hs => by
    have hn : (decide ((n : Int) < 4096)) = true := by simp; omega
    have ho := out_of s.pc (l.map In.row).length
    rw [List.length_map] at ho
    unfold runF
    by_cases hout : s.pc < 0 ∨ s.pc ≥ (l.length : Int)
    · rw [if_pos hout]
      exact F25.l0_1 (l.map In.row) d.nr d.arch d.ip d.a0 d.a1 d.a2 d.a3 d.a4 d.a5 n s.a s.x (s.c 0) (s.c 1) (s.c 2) (s.c 3) (s.c 4) (s.c 5) (s.c 6) (s.c 7) (s.c 8) (s.c 9) (s.c 10) (s.c 11) (s.c 12) (s.c 13) (s.c 14) (s.c 15) s.pc hn (by rw [List.length_map, ho]; simpa using hout)
    · rw [if_neg hout]
      have hin : (bif (decide (s.pc < 0)) then true else (decide (s.pc ≥ ((l.map In.row).length : Int)))) = false := by rw [List.length_map, ho]; simpa using hout
      have h0 : 0 ≤ s.pc := by omega
      have hlt : s.pc.toNat < l.length := by omega
      have hq := List.getElem?_eq_getElem hlt
      have hqo : (l[s.pc.toNat]).ok := hl _ (List.getElem_mem _)
      rw [hq]
      generalize l[s.pc.toNat] = q at hq hqo
      have hg := rows_get hq
      have he := ends_ev s d q ([] ++ [d.cells, s.box d, q.box]) 1 rfl
      show EvK Try.prog prim Try.f25 (loopAt Try.f25 0) _ (resR (if endsB s q = true then (endsV s q, (n : Int) + 1, true) else if (stepF s q d).1 = true then runF l d k (n + 1) (stepF s q d).2 else (0, (n : Int), false))) []
      cases hb : endsB s q with
      | true =>
        rw [hb] at he
        rw [if_pos rfl]
        exact F25.l0_2 (l.map In.row) d.nr d.arch d.ip d.a0 d.a1 d.a2 d.a3 d.a4 d.a5 n s.a s.x (s.c 0) (s.c 1) (s.c 2) (s.c 3) (s.c 4) (s.c 5) (s.c 6) (s.c 7) (s.c 8) (s.c 9) (s.c 10) (s.c 11) (s.c 12) (s.c 13) (s.c 14) (s.c 15) s.pc q.code q.jt q.jf q.k _ true hn hin h0 hg rfl (in64 (by omega) (by omega)) he
      | false =>
        rw [hb] at he
        rw [if_neg (by simp)]
        have hst := step_ev s hs.1 d hd q hqo ([] ++ [d.cells, s.box d, q.box]) 1 rfl
        have hok := step_ok hs hqo d
        generalize (stepF s q d) = t at hst hok
        obtain ⟨tb, t⟩ := t
        cases tb with
        | false =>
          rw [if_neg (by simp)]
          exact F25.l0_3 (l.map In.row) d.nr d.arch d.ip d.a0 d.a1 d.a2 d.a3 d.a4 d.a5 n s.a s.x (s.c 0) (s.c 1) (s.c 2) (s.c 3) (s.c 4) (s.c 5) (s.c 6) (s.c 7) (s.c 8) (s.c 9) (s.c 10) (s.c 11) (s.c 12) (s.c 13) (s.c 14) (s.c 15) s.pc q.code q.jt q.jf q.k _ false false t.a t.x (t.c 0) (t.c 1) (t.c 2) (t.c 3) (t.c 4) (t.c 5) (t.c 6) (t.c 7) (t.c 8) (t.c 9) (t.c 10) (t.c 11) (t.c 12) (t.c 13) (t.c 14) (t.c 15) t.pc hn hin h0 hg rfl rfl he hst
        | true =>
          rw [if_pos rfl]
          exact F25.l0_4 (l.map In.row) d.nr d.arch d.ip d.a0 d.a1 d.a2 d.a3 d.a4 d.a5 n s.a s.x (s.c 0) (s.c 1) (s.c 2) (s.c 3) (s.c 4) (s.c 5) (s.c 6) (s.c 7) (s.c 8) (s.c 9) (s.c 10) (s.c 11) (s.c 12) (s.c 13) (s.c 14) (s.c 15) s.pc q.code q.jt q.jf q.k _ false true t.a t.x (t.c 0) (t.c 1) (t.c 2) (t.c 3) (t.c 4) (t.c 5) (t.c 6) (t.c 7) (t.c 8) (t.c 9) (t.c 10) (t.c 11) (t.c 12) (t.c 13) (t.c 14) (t.c 15) t.pc hn hin h0 hg rfl rfl (in64 (by omega) (by omega)) he hst (run_loop l hl d hd k (n + 1) t (by omega) hok)

def start : Ms := ⟨0, 0, fun _ => 0, 0⟩
theorem start_ok : start.ok := ⟨inW (n := 0) (by decide) (by decide), inW (n := 0) (by decide) (by decide), fun _ => inW (n := 0) (by decide) (by decide)⟩
def run (l : List In) (d : Da) : Int × Int × Bool := runF l d 4096 0 start

theorem run_ev (l : List In) (hl : ∀ q ∈ l, q.ok) (d : Da) (hd : d.ok) : EvF Try.prog prim 25 [.v (.sl (l.map In.row)), .agg d.row] [] [] (resR (run l d)) [] :=
  F25.p0 (l.map In.row) d.nr d.arch d.ip d.a0 d.a1 d.a2 d.a3 d.a4 d.a5 (run_loop l hl d hd 4096 0 start (by omega) start_ok)

end Go.Ab.S3
