/-
The document's runs come to what the machine's come to.
-/
import Derived.Test.YtgjceiomfccbbaaRun
namespace Go.Ab.S3
open Go Go.Proofs Go.Ab

/-- What a step is told by. -/
theorem step_plain {s : Ms} {q : In} {d : Da} (h1 : mathB (IntKind.i64.wrap (q.code - 8)) 1 = false) (h2 : mathB q.code q.k = false) (h3 : tellsB (IntKind.i64.wrap (q.code - 8)) = false) (h4 : tellsB q.code = false) :
    stepF s q d = if q.code = 5 then (true, { s with pc := IntKind.i64.wrap (IntKind.i64.wrap (s.pc + 1) + IntKind.i64.wrap q.k) }) else loadF { s with pc := IntKind.i64.wrap (s.pc + 1) } q d := by
  unfold stepF
  rw [h1, if_neg (by simp)]
  unfold oneF
  rw [h2, if_neg (by simp), h3, if_neg (by simp)]
  unfold nextF
  rw [h4, if_neg (by simp)]

theorem step_other {s : Ms} {q : In} {d : Da} (h1 : mathB (IntKind.i64.wrap (q.code - 8)) 1 = false) (h2 : mathB q.code q.k = false) (h3 : tellsB (IntKind.i64.wrap (q.code - 8)) = false) (h4 : tellsB q.code = false) (h5 : ¬ q.code = 5) :
    stepF s q d = loadF { s with pc := IntKind.i64.wrap (s.pc + 1) } q d := by
  rw [step_plain h1 h2 h3 h4, if_neg h5]

theorem step_num {s : Ms} {q : In} {d : Da} (h1 : mathB (IntKind.i64.wrap (q.code - 8)) 1 = false) (h2 : mathB q.code q.k = true) :
    stepF s q d = (true, { s with pc := IntKind.i64.wrap (s.pc + 1), a := mathV q.code s.a q.k }) := by
  unfold stepF
  rw [h1, if_neg (by simp)]
  unfold oneF
  rw [h2, if_pos rfl]

theorem step_x {s : Ms} {q : In} {d : Da} (h1 : mathB (IntKind.i64.wrap (q.code - 8)) 1 = true) (h2 : mathB (IntKind.i64.wrap (q.code - 8)) s.x = true) :
    stepF s q d = (true, { s with pc := IntKind.i64.wrap (s.pc + 1), a := mathV (IntKind.i64.wrap (q.code - 8)) s.a s.x }) := by
  unfold stepF
  rw [h1, if_pos rfl]
  unfold oneF
  rw [h2, if_pos rfl]

theorem step_jump {s : Ms} {q : In} {d : Da} (h1 : mathB (IntKind.i64.wrap (q.code - 8)) 1 = false) (h2 : mathB q.code q.k = false) (h3 : tellsB (IntKind.i64.wrap (q.code - 8)) = false) (h4 : tellsB q.code = true) :
    stepF s q d = (true, { s with pc := IntKind.i64.wrap (IntKind.i64.wrap (s.pc + 1) + (if tellsV q.code s.a q.k then q.jt else q.jf)) }) := by
  unfold stepF
  rw [h1, if_neg (by simp)]
  unfold oneF
  rw [h2, if_neg (by simp), h3, if_neg (by simp)]
  unfold nextF
  rw [h4, if_pos rfl]
  split <;> rfl

theorem step_jumpx {s : Ms} {q : In} {d : Da} (h1 : mathB (IntKind.i64.wrap (q.code - 8)) 1 = false) (h2 : mathB q.code q.k = false) (h3 : tellsB (IntKind.i64.wrap (q.code - 8)) = true) :
    stepF s q d = (true, { s with pc := IntKind.i64.wrap (IntKind.i64.wrap (s.pc + 1) + (if tellsV (IntKind.i64.wrap (q.code - 8)) s.a s.x then q.jt else q.jf)) }) := by
  unfold stepF
  rw [h1, if_neg (by simp)]
  unfold oneF
  rw [h2, if_neg (by simp), h3, if_pos rfl]
  unfold nextF
  rw [h3, if_pos rfl]
  split <;> rfl

theorem with_k {s : Ms} {c k : Int} (h : bit8 c = false) : withF s c k = k := by simp [withF, h]
theorem with_x {s : Ms} {c k : Int} (h : bit8 c = true) : withF s c k = s.x := by simp [withF, h]
theorem ref_num {s : Ms} {c k : Int} {d : Da} (h : aluB c = true) (h8 : bit8 c = false) (h1 : (c == 52) = false) (h2 : (c == 60) = false) : refF s c k d = (true, false, { s with a := aluV c s.a k }) := by
  unfold refF
  rw [h, if_pos rfl]
  unfold reckF
  rw [with_k h8, h1, h2, if_neg (by simp)]
theorem ref_x {s : Ms} {c k : Int} {d : Da} (h : aluB c = true) (h8 : bit8 c = true) (h1 : (c == 52) = false) (h2 : (c == 60) = false) : refF s c k d = (true, false, { s with a := aluV c s.a s.x }) := by
  unfold refF
  rw [h, if_pos rfl]
  unfold reckF
  rw [with_x h8, h1, h2, if_neg (by simp)]

/-- A jump with a condition. -/
theorem jump_step {s : Ms} {q : In} {d : Da} (h : jumpB q.code = true) : stepF s q d = (true, { s with pc := IntKind.i64.wrap (IntKind.i64.wrap (s.pc + 1) + (if jumpV q.code s.a (withF s q.code q.k) then q.jt else q.jf)) }) := by
  obtain ⟨c, jt, jf, k⟩ := q
  have hc : c = 21 ∨ c = 29 ∨ c = 37 ∨ c = 45 ∨ c = 53 ∨ c = 61 ∨ c = 69 ∨ c = 77 := by
    unfold jumpB at h
    repeat' split at h
    all_goals simp_all
  rcases hc with rfl | rfl | rfl | rfl | rfl | rfl | rfl | rfl
  · rw [step_jump (by rfl) (by rfl) (by rfl) (by rfl)]
    show _ = (true, ({ s with pc := IntKind.i64.wrap (IntKind.i64.wrap (s.pc + 1) + (if jumpV 21 s.a (withF s 21 k) then jt else jf)) } : Ms))
    rw [with_k (by decide +kernel)]
    rfl
  · rw [step_jumpx (by rfl) (by rfl) (by rfl)]
    show _ = (true, ({ s with pc := IntKind.i64.wrap (IntKind.i64.wrap (s.pc + 1) + (if jumpV 29 s.a (withF s 29 k) then jt else jf)) } : Ms))
    rw [with_x (by decide +kernel)]
    rfl
  · rw [step_jump (by rfl) (by rfl) (by rfl) (by rfl)]
    show _ = (true, ({ s with pc := IntKind.i64.wrap (IntKind.i64.wrap (s.pc + 1) + (if jumpV 37 s.a (withF s 37 k) then jt else jf)) } : Ms))
    rw [with_k (by decide +kernel)]
    rfl
  · rw [step_jumpx (by rfl) (by rfl) (by rfl)]
    show _ = (true, ({ s with pc := IntKind.i64.wrap (IntKind.i64.wrap (s.pc + 1) + (if jumpV 45 s.a (withF s 45 k) then jt else jf)) } : Ms))
    rw [with_x (by decide +kernel)]
    rfl
  · rw [step_jump (by rfl) (by rfl) (by rfl) (by rfl)]
    show _ = (true, ({ s with pc := IntKind.i64.wrap (IntKind.i64.wrap (s.pc + 1) + (if jumpV 53 s.a (withF s 53 k) then jt else jf)) } : Ms))
    rw [with_k (by decide +kernel)]
    rfl
  · rw [step_jumpx (by rfl) (by rfl) (by rfl)]
    show _ = (true, ({ s with pc := IntKind.i64.wrap (IntKind.i64.wrap (s.pc + 1) + (if jumpV 61 s.a (withF s 61 k) then jt else jf)) } : Ms))
    rw [with_x (by decide +kernel)]
    rfl
  · rw [step_jump (by rfl) (by rfl) (by rfl) (by rfl)]
    show _ = (true, ({ s with pc := IntKind.i64.wrap (IntKind.i64.wrap (s.pc + 1) + (if jumpV 69 s.a (withF s 69 k) then jt else jf)) } : Ms))
    rw [with_k (by decide +kernel)]
    rfl
  · rw [step_jumpx (by rfl) (by rfl) (by rfl)]
    show _ = (true, ({ s with pc := IntKind.i64.wrap (IntKind.i64.wrap (s.pc + 1) + (if jumpV 77 s.a (withF s 77 k) then jt else jf)) } : Ms))
    rw [with_x (by decide +kernel)]
    rfl

theorem ja_step {s : Ms} {q : In} {d : Da} (h : q.code = 5) : stepF s q d = (true, { s with pc := IntKind.i64.wrap (IntKind.i64.wrap (s.pc + 1) + IntKind.i64.wrap q.k) }) := by
  obtain ⟨c, jt, jf, k⟩ := q
  simp only at h
  subst h
  rw [step_plain (by rfl) (by rfl) (by rfl) (by rfl), if_pos rfl]

/-- What the document's machine says of all other instructions. -/
theorem ref_step {s : Ms} {q : In} {d : Da} (hq : q.ok) (h6 : ¬ q.code = 6) (h22 : ¬ q.code = 22) (h5 : ¬ q.code = 5) (hj : jumpB q.code = false) :
    (endsB s q = true ∧ endsV s q = 0 ∧ (refF s q.code q.k d).2.1 = true) ∨
    (endsB s q = false ∧ (refF s q.code q.k d).2.1 = false ∧ (refF s q.code q.k d).1 = (stepF s q d).1 ∧ ((stepF s q d).1 = true → (stepF s q d).2 = { (refF s q.code q.k d).2.2 with pc := IntKind.i64.wrap (s.pc + 1) })) := by
  have ev : endsV s q = 0 := by simp [endsV, h6, h22]
  have eb : endsB s q = (bif (q.code == 60) then (s.x == 0) else false) := by simp [endsB, h6, h22]
  rw [ev, eb]
  clear ev eb
  obtain ⟨c, jt, jf, k⟩ := q
  simp only at h6 h22 h5 hj ⊢
  have hc := hq.1
  simp only at hc
  by_cases a4 : c = 4
  · subst a4
    right
    rw [step_num (by rfl) (by rfl), ref_num (by rfl) (by decide +kernel) (by rfl) (by rfl)]
    exact ⟨rfl, rfl, rfl, fun _ => rfl⟩
  by_cases b4 : c = 12
  · subst b4
    right
    rw [step_x (by rfl) (by rfl), ref_x (by rfl) (by decide +kernel) (by rfl) (by rfl)]
    exact ⟨rfl, rfl, rfl, fun _ => rfl⟩
  by_cases a20 : c = 20
  · subst a20
    right
    rw [step_num (by rfl) (by rfl), ref_num (by rfl) (by decide +kernel) (by rfl) (by rfl)]
    exact ⟨rfl, rfl, rfl, fun _ => rfl⟩
  by_cases b20 : c = 28
  · subst b20
    right
    rw [step_x (by rfl) (by rfl), ref_x (by rfl) (by decide +kernel) (by rfl) (by rfl)]
    exact ⟨rfl, rfl, rfl, fun _ => rfl⟩
  by_cases a36 : c = 36
  · subst a36
    right
    rw [step_num (by rfl) (by rfl), ref_num (by rfl) (by decide +kernel) (by rfl) (by rfl)]
    exact ⟨rfl, rfl, rfl, fun _ => rfl⟩
  by_cases b36 : c = 44
  · subst b36
    right
    rw [step_x (by rfl) (by rfl), ref_x (by rfl) (by decide +kernel) (by rfl) (by rfl)]
    exact ⟨rfl, rfl, rfl, fun _ => rfl⟩
  by_cases a52 : c = 52
  · subst a52
    right
    by_cases hz : k = 0
    · subst hz
      rw [step_other (by rfl) (by rfl) (by rfl) (by rfl) (show ¬ (52 : Int) = 5 by decide)]
      exact ⟨rfl, rfl, rfl, fun h => by cases h⟩
    · have hm : mathB 52 k = true := by simp [mathB, hz]
      rw [step_num (by rfl) hm]
      have e : refF s 52 k d = (true, false, { s with a := IntKind.u32.wrap (Int.tdiv s.a k) }) := by
        have e1 : refF s 52 k d = reckF s 52 k := rfl
        have e2 : withF s 52 k = k := with_k (by decide +kernel)
        rw [e1]
        unfold reckF
        rw [e2, if_neg (by simp [hz])]
        rfl
      rw [e]
      have e3 : mathV 52 s.a k = IntKind.u32.wrap (Int.tdiv s.a k) := by simp [mathV, hz]
      exact ⟨rfl, rfl, rfl, fun _ => by show ({ a := mathV 52 s.a k, x := s.x, c := s.c, pc := _ } : Ms) = _; rw [e3]⟩
  by_cases b52 : c = 60
  · subst b52
    by_cases hz : s.x = 0
    · left
      have e1 : refF s 60 k d = reckF s 60 k := rfl
      have e2 : withF s 60 k = s.x := with_x (by decide +kernel)
      rw [e1]
      unfold reckF
      rw [e2, hz]
      exact ⟨rfl, trivial, rfl⟩
    · right
      have hm : mathB (IntKind.i64.wrap (60 - 8)) s.x = true := by
        have : IntKind.i64.wrap (60 - 8) = 52 := rfl
        rw [this]
        simp [mathB, hz]
      rw [step_x (by rfl) hm]
      have e : refF s 60 k d = (true, false, { s with a := IntKind.u32.wrap (Int.tdiv s.a s.x) }) := by
        have e1 : refF s 60 k d = reckF s 60 k := rfl
        have e2 : withF s 60 k = s.x := with_x (by decide +kernel)
        rw [e1]
        unfold reckF
        rw [e2, if_neg (by simp [hz])]
        rfl
      rw [e]
      have e3 : mathV (IntKind.i64.wrap (60 - 8)) s.a s.x = IntKind.u32.wrap (Int.tdiv s.a s.x) := by
        have : IntKind.i64.wrap (60 - 8) = 52 := rfl
        rw [this]
        simp [mathV, hz]
      exact ⟨by simp [hz], rfl, rfl, fun _ => by show ({ a := mathV (IntKind.i64.wrap (60 - 8)) s.a s.x, x := s.x, c := s.c, pc := _ } : Ms) = _; rw [e3]⟩
  by_cases a68 : c = 68
  · subst a68
    right
    rw [step_num (by rfl) (by rfl), ref_num (by rfl) (by decide +kernel) (by rfl) (by rfl)]
    exact ⟨rfl, rfl, rfl, fun _ => rfl⟩
  by_cases b68 : c = 76
  · subst b68
    right
    rw [step_x (by rfl) (by rfl), ref_x (by rfl) (by decide +kernel) (by rfl) (by rfl)]
    exact ⟨rfl, rfl, rfl, fun _ => rfl⟩
  by_cases a84 : c = 84
  · subst a84
    right
    rw [step_num (by rfl) (by rfl), ref_num (by rfl) (by decide +kernel) (by rfl) (by rfl)]
    exact ⟨rfl, rfl, rfl, fun _ => rfl⟩
  by_cases b84 : c = 92
  · subst b84
    right
    rw [step_x (by rfl) (by rfl), ref_x (by rfl) (by decide +kernel) (by rfl) (by rfl)]
    exact ⟨rfl, rfl, rfl, fun _ => rfl⟩
  by_cases a164 : c = 164
  · subst a164
    right
    rw [step_num (by rfl) (by rfl), ref_num (by rfl) (by decide +kernel) (by rfl) (by rfl)]
    exact ⟨rfl, rfl, rfl, fun _ => rfl⟩
  by_cases b164 : c = 172
  · subst b164
    right
    rw [step_x (by rfl) (by rfl), ref_x (by rfl) (by decide +kernel) (by rfl) (by rfl)]
    exact ⟨rfl, rfl, rfl, fun _ => rfl⟩
  by_cases a100 : c = 100
  · subst a100
    right
    rw [step_num (by rfl) (by rfl), ref_num (by rfl) (by decide +kernel) (by rfl) (by rfl)]
    exact ⟨rfl, rfl, rfl, fun _ => rfl⟩
  by_cases b100 : c = 108
  · subst b100
    right
    rw [step_x (by rfl) (by rfl), ref_x (by rfl) (by decide +kernel) (by rfl) (by rfl)]
    exact ⟨rfl, rfl, rfl, fun _ => rfl⟩
  by_cases a116 : c = 116
  · subst a116
    right
    rw [step_num (by rfl) (by rfl), ref_num (by rfl) (by decide +kernel) (by rfl) (by rfl)]
    exact ⟨rfl, rfl, rfl, fun _ => rfl⟩
  by_cases b116 : c = 124
  · subst b116
    right
    rw [step_x (by rfl) (by rfl), ref_x (by rfl) (by decide +kernel) (by rfl) (by rfl)]
    exact ⟨rfl, rfl, rfl, fun _ => rfl⟩
  by_cases c0 : c = 0
  · subst c0
    right
    rw [step_other (by rfl) (by rfl) (by rfl) (by rfl) (show ¬ (0 : Int) = 5 by decide)]
    exact ⟨rfl, rfl, rfl, fun _ => rfl⟩
  by_cases c1 : c = 1
  · subst c1
    right
    rw [step_other (by rfl) (by rfl) (by rfl) (by rfl) (show ¬ (1 : Int) = 5 by decide)]
    exact ⟨rfl, rfl, rfl, fun _ => rfl⟩
  by_cases c128 : c = 128
  · subst c128
    right
    rw [step_other (by rfl) (by rfl) (by rfl) (by rfl) (show ¬ (128 : Int) = 5 by decide)]
    exact ⟨rfl, rfl, rfl, fun _ => rfl⟩
  by_cases c129 : c = 129
  · subst c129
    right
    rw [step_other (by rfl) (by rfl) (by rfl) (by rfl) (show ¬ (129 : Int) = 5 by decide)]
    exact ⟨rfl, rfl, rfl, fun _ => rfl⟩
  by_cases c132 : c = 132
  · subst c132
    right
    rw [step_other (by rfl) (by rfl) (by rfl) (by rfl) (show ¬ (132 : Int) = 5 by decide)]
    exact ⟨rfl, rfl, rfl, fun _ => rfl⟩
  by_cases c7 : c = 7
  · subst c7
    right
    rw [step_other (by rfl) (by rfl) (by rfl) (by rfl) (show ¬ (7 : Int) = 5 by decide)]
    exact ⟨rfl, rfl, rfl, fun _ => rfl⟩
  by_cases c135 : c = 135
  · subst c135
    right
    rw [step_other (by rfl) (by rfl) (by rfl) (by rfl) (show ¬ (135 : Int) = 5 by decide)]
    exact ⟨rfl, rfl, rfl, fun _ => rfl⟩
  by_cases c32 : c = 32
  · subst c32
    right
    rw [step_other (by rfl) (by rfl) (by rfl) (by rfl) (show ¬ (32 : Int) = 5 by decide)]
    have e : loadF { s with pc := IntKind.i64.wrap (s.pc + 1) } ⟨32, jt, jf, k⟩ d = if Da.hasWord k then (true, { s with pc := IntKind.i64.wrap (s.pc + 1), a := d.word k }) else (false, { s with pc := IntKind.i64.wrap (s.pc + 1) }) := rfl
    have e2 : refF s 32 k d = (Da.hasWord k, false, { s with a := d.word k }) := rfl
    rw [e, e2]
    cases Da.hasWord k
    · exact ⟨rfl, rfl, rfl, fun h => by cases h⟩
    · exact ⟨rfl, rfl, rfl, fun _ => rfl⟩
  by_cases c2 : c = 2
  · subst c2
    right
    rw [step_other (by rfl) (by rfl) (by rfl) (by rfl) (show ¬ (2 : Int) = 5 by decide)]
    have e : loadF { s with pc := IntKind.i64.wrap (s.pc + 1) } ⟨2, jt, jf, k⟩ d = if k ≥ 16 then (false, { s with pc := IntKind.i64.wrap (s.pc + 1) }) else (true, { s with pc := IntKind.i64.wrap (s.pc + 1), c := upd s.c k.toNat s.a }) := rfl
    have e2 : refF s 2 k d = if k ≥ 16 then (false, false, s) else (true, false, { s with c := upd s.c k.toNat s.a }) := rfl
    rw [e, e2]
    by_cases h16 : k ≥ 16
    · rw [if_pos h16, if_pos h16]; exact ⟨rfl, rfl, rfl, fun h => by cases h⟩
    · rw [if_neg h16, if_neg h16]; exact ⟨rfl, rfl, rfl, fun _ => rfl⟩
  by_cases c3 : c = 3
  · subst c3
    right
    rw [step_other (by rfl) (by rfl) (by rfl) (by rfl) (show ¬ (3 : Int) = 5 by decide)]
    have e : loadF { s with pc := IntKind.i64.wrap (s.pc + 1) } ⟨3, jt, jf, k⟩ d = if k ≥ 16 then (false, { s with pc := IntKind.i64.wrap (s.pc + 1) }) else (true, { s with pc := IntKind.i64.wrap (s.pc + 1), c := upd s.c k.toNat s.x }) := rfl
    have e2 : refF s 3 k d = if k ≥ 16 then (false, false, s) else (true, false, { s with c := upd s.c k.toNat s.x }) := rfl
    rw [e, e2]
    by_cases h16 : k ≥ 16
    · rw [if_pos h16, if_pos h16]; exact ⟨rfl, rfl, rfl, fun h => by cases h⟩
    · rw [if_neg h16, if_neg h16]; exact ⟨rfl, rfl, rfl, fun _ => rfl⟩
  by_cases c96 : c = 96
  · subst c96
    right
    rw [step_other (by rfl) (by rfl) (by rfl) (by rfl) (show ¬ (96 : Int) = 5 by decide)]
    have e : loadF { s with pc := IntKind.i64.wrap (s.pc + 1) } ⟨96, jt, jf, k⟩ d = if k ≥ 16 then (false, { s with pc := IntKind.i64.wrap (s.pc + 1) }) else (true, { s with pc := IntKind.i64.wrap (s.pc + 1), a := s.c k.toNat }) := rfl
    have e2 : refF s 96 k d = if k ≥ 16 then (false, false, s) else (true, false, { s with a := s.c k.toNat }) := rfl
    rw [e, e2]
    by_cases h16 : k ≥ 16
    · rw [if_pos h16, if_pos h16]; exact ⟨rfl, rfl, rfl, fun h => by cases h⟩
    · rw [if_neg h16, if_neg h16]; exact ⟨rfl, rfl, rfl, fun _ => rfl⟩
  by_cases c97 : c = 97
  · subst c97
    right
    rw [step_other (by rfl) (by rfl) (by rfl) (by rfl) (show ¬ (97 : Int) = 5 by decide)]
    have e : loadF { s with pc := IntKind.i64.wrap (s.pc + 1) } ⟨97, jt, jf, k⟩ d = if k ≥ 16 then (false, { s with pc := IntKind.i64.wrap (s.pc + 1) }) else (true, { s with pc := IntKind.i64.wrap (s.pc + 1), x := s.c k.toNat }) := rfl
    have e2 : refF s 97 k d = if k ≥ 16 then (false, false, s) else (true, false, { s with x := s.c k.toNat }) := rfl
    rw [e, e2]
    by_cases h16 : k ≥ 16
    · rw [if_pos h16, if_pos h16]; exact ⟨rfl, rfl, rfl, fun h => by cases h⟩
    · rw [if_neg h16, if_neg h16]; exact ⟨rfl, rfl, rfl, fun _ => rfl⟩
  right
  have jn : ¬ c = 21 ∧ ¬ c = 29 ∧ ¬ c = 37 ∧ ¬ c = 45 ∧ ¬ c = 53 ∧ ¬ c = 61 ∧ ¬ c = 69 ∧ ¬ c = 77 := by
    refine ⟨?_, ?_, ?_, ?_, ?_, ?_, ?_, ?_⟩ <;> (rintro rfl; simp [jumpB] at hj)
  obtain ⟨j0, j1, j2, j3, j4, j5, j6, j7⟩ := jn
  have m1 : mathB (IntKind.i64.wrap (c - 8)) 1 = false := by
    have w := fun v h0 h1 => w8 (v := v) hc h0 h1
    unfold mathB
    rw [if_neg (by rw [w 4 (by decide) (by decide)]; omega), if_neg (by rw [w 20 (by decide) (by decide)]; omega), if_neg (by rw [w 36 (by decide) (by decide)]; omega), if_neg (by rw [w 52 (by decide) (by decide)]; omega), if_neg (by rw [w 68 (by decide) (by decide)]; omega),
      if_neg (by rw [w 84 (by decide) (by decide)]; omega), if_neg (by rw [w 164 (by decide) (by decide)]; omega), if_neg (by rw [w 100 (by decide) (by decide)]; omega), if_neg (by rw [w 116 (by decide) (by decide)]; omega)]
  have m2 : mathB c k = false := by simp [mathB, a4, a20, a36, a52, a68, a84, a164, a100, a116]
  have m3 : tellsB (IntKind.i64.wrap (c - 8)) = false := by
    have w := fun v h0 h1 => w8 (v := v) hc h0 h1
    unfold tellsB
    rw [if_neg (by rw [w 21 (by decide) (by decide)]; omega), if_neg (by rw [w 37 (by decide) (by decide)]; omega), if_neg (by rw [w 53 (by decide) (by decide)]; omega), if_neg (by rw [w 69 (by decide) (by decide)]; omega)]
  have m4 : tellsB c = false := by simp [tellsB, j0, j2, j4, j6]
  rw [step_plain m1 m2 m3 m4, if_neg h5]
  have e1 : loadF { s with pc := IntKind.i64.wrap (s.pc + 1) } ⟨c, jt, jf, k⟩ d = (false, { s with pc := IntKind.i64.wrap (s.pc + 1) }) := by simp [loadF, isCell, c0, c1, c128, c129, c132, c7, c135, c32, c2, c3, c96, c97]
  have e2 : refF s c k d = (false, false, s) := by simp [refF, aluB, a4, b4, a20, b20, a36, b36, a52, b52, a68, b68, a84, b84, a164, b164, a100, b100, a116, b116, c0, c1, c128, c129, c132, c7, c135, c32, c2, c3, c96, c97]
  rw [e1, e2]
  exact ⟨by simp [b52], rfl, rfl, fun h => by cases h⟩

end Go.Ab.S3
