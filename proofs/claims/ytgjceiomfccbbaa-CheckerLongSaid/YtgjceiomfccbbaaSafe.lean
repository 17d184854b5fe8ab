/-
What is let in never faults; how long a filter may be.
-/
import Derived.Test.YtgjceiomfccbbaaCheckLaw
import Derived.Test.YtgjceiomfccbbaaSteps
namespace Go.Ab.S3
open Go Go.Proofs Go.Ab

theorem code_cases {c : Int} (h : nameB c = true) : c = 0 ∨ c = 1 ∨ c = 2 ∨ c = 3 ∨ c = 4 ∨ c = 5 ∨ c = 6 ∨ c = 7 ∨ c = 12 ∨ c = 20 ∨ c = 21 ∨ c = 22 ∨ c = 28 ∨ c = 29 ∨ c = 32 ∨ c = 36 ∨ c = 37 ∨ c = 44 ∨ c = 45 ∨ c = 52 ∨ c = 53 ∨ c = 60 ∨ c = 61 ∨ c = 68 ∨ c = 69 ∨ c = 76 ∨ c = 77 ∨ c = 84 ∨ c = 92 ∨ c = 96 ∨ c = 97 ∨ c = 100 ∨ c = 108 ∨ c = 116 ∨ c = 124 ∨ c = 128 ∨ c = 129 ∨ c = 132 ∨ c = 135 ∨ c = 164 ∨ c = 172 := by
  unfold nameB at h
  rw [List.any_eq_true] at h
  obtain ⟨p, hp, hc⟩ := h
  have hc : p.1 = c := by simpa using hc
  have hm : c ∈ kn.map (·.1) := List.mem_map.2 ⟨p, hp, hc⟩
  simpa [kn] using hm

theorem jumpB_C {c : Int} (h : jumpB c = false) : jumpC c = false := by
  unfold jumpB at h
  unfold jumpC
  by_cases h0 : c = 21 <;> by_cases h1 : c = 29 <;> by_cases h2 : c = 37 <;> by_cases h3 : c = 45 <;> by_cases h4 : c = 53 <;> by_cases h5 : c = 61 <;> by_cases h6 : c = 69 <;> by_cases h7 : c = 77 <;> simp [h0, h1, h2, h3, h4, h5, h6, h7] at h ⊢

/-- What is let in, and neither ends nor jumps, does not fault. -/
theorem plain_ok {s : Ms} {q : In} {d : Da} (hk : inR .u32 q.k) (hn : nameB q.code = true) (hm : mayB q = true) (h6 : ¬ q.code = 6) (h22 : ¬ q.code = 22) (h5 : ¬ q.code = 5) (hj : jumpB q.code = false) (he : endsB s q = false) : (refF s q.code q.k d).1 = true := by
  have hk0 := ofW hk
  obtain ⟨c, jt, jf, k⟩ := q
  simp only at hk hn hm h6 h22 h5 hj hk0 ⊢
  rcases code_cases hn with rfl | rfl | rfl | rfl | rfl | rfl | rfl | rfl | rfl | rfl | rfl | rfl | rfl | rfl | rfl | rfl | rfl | rfl | rfl | rfl | rfl | rfl | rfl | rfl | rfl | rfl | rfl | rfl | rfl | rfl | rfl | rfl | rfl | rfl | rfl | rfl | rfl | rfl | rfl | rfl | rfl
  · rfl
  · rfl
  · have e2 : refF s 2 k d = if k ≥ 16 then (false, false, s) else (true, false, { s with c := upd s.c k.toNat s.a }) := rfl
    have h : decide (k < 16) = true := hm
    have := of_decide_eq_true h
    rw [e2, if_neg (by omega)]
  · have e2 : refF s 3 k d = if k ≥ 16 then (false, false, s) else (true, false, { s with c := upd s.c k.toNat s.x }) := rfl
    have h : decide (k < 16) = true := hm
    have := of_decide_eq_true h
    rw [e2, if_neg (by omega)]
  · rfl
  · exact absurd rfl h5
  · exact absurd rfl h6
  · rfl
  · rfl
  · rfl
  · exact absurd hj (by decide)
  · exact absurd rfl h22
  · rfl
  · exact absurd hj (by decide)
  · have e2 : refF s 32 k d = (Da.hasWord k, false, { s with a := d.word k }) := rfl
    rw [e2]
    have h : (bif ((Int.tmod k 4) == 0) then (decide (k ≤ 60)) else false) = true := hm
    rw [Int.tmod_eq_emod_of_nonneg hk0.1] at h
    show Da.hasWord k = true
    unfold Da.hasWord
    by_cases a : k % 4 = 0 <;> by_cases b : k ≤ 60 <;> simp [a, b] at h ⊢
  · rfl
  · exact absurd hj (by decide)
  · rfl
  · exact absurd hj (by decide)
  · have hz : k ≠ 0 := by
      have : (k != 0) = true := hm
      simpa using this
    have e1 : refF s 52 k d = reckF s 52 k := rfl
    have e2 : withF s 52 k = k := with_k (by decide +kernel)
    rw [e1]
    unfold reckF
    rw [e2, if_neg (by simp [hz])]
  · exact absurd hj (by decide)
  · have hz : s.x ≠ 0 := by
      have : (s.x == 0) = false := he
      simpa using this
    have e1 : refF s 60 k d = reckF s 60 k := rfl
    have e2 : withF s 60 k = s.x := with_x (by decide +kernel)
    rw [e1]
    unfold reckF
    rw [e2, if_neg (by simp [hz])]
  · exact absurd hj (by decide)
  · rfl
  · exact absurd hj (by decide)
  · rfl
  · exact absurd hj (by decide)
  · rfl
  · rfl
  · have e2 : refF s 96 k d = if k ≥ 16 then (false, false, s) else (true, false, { s with a := s.c k.toNat }) := rfl
    have h : decide (k < 16) = true := hm
    have := of_decide_eq_true h
    rw [e2, if_neg (by omega)]
  · have e2 : refF s 97 k d = if k ≥ 16 then (false, false, s) else (true, false, { s with x := s.c k.toNat }) := rfl
    have h : decide (k < 16) = true := hm
    have := of_decide_eq_true h
    rw [e2, if_neg (by omega)]
  · rfl
  · rfl
  · rfl
  · rfl
  · rfl
  · rfl
  · rfl
  · rfl
  · rfl
  · rfl

/-- A step of what is let in. -/
theorem safe_step {len i : Nat} {s : Ms} {q : In} {d : Da} (hq : q.ok) (hi : i < 1000000) (hp : s.pc = i) (hr : rightF len i q = true) (he : endsB s q = false) : ∃ t, stepF s q d = (true, t) ∧ t.pc ∈ nextI q i := by
  obtain ⟨r1, r2, r3, r4, r5⟩ := right_of hr
  have hb := rightX_of r2
  have hk := ofW hq.2.2.2
  have wk : IntKind.i64.wrap q.k = q.k := by rw [wrap64]; omega
  have w1 : IntKind.i64.wrap (s.pc + 1) = (i : Int) + 1 := by rw [hp, wrap64]; omega
  have h6 : ¬ q.code = 6 := by intro h; simp [endsB, h] at he
  have h22 : ¬ q.code = 22 := by intro h; simp [endsB, h] at he
  have hne : endsC q.code = false := by simp [endsC, h6, h22]
  unfold nextI
  rw [hne, if_neg (by simp)]
  by_cases h5 : q.code = 5
  · rw [if_pos h5, ja_step h5]
    refine ⟨_, rfl, ?_⟩
    rw [List.mem_singleton]
    show IntKind.i64.wrap (IntKind.i64.wrap (s.pc + 1) + IntKind.i64.wrap q.k) = (i : Int) + 1 + IntKind.i64.wrap q.k
    rw [w1, wk, wrap64]
    omega
  rw [if_neg h5]
  cases hj : jumpB q.code with
  | true =>
    rw [jump_step hj]
    refine ⟨_, rfl, ?_⟩
    have hc : jumpC q.code = true := by
      cases h : jumpC q.code with
      | true => rfl
      | false =>
        unfold jumpB at hj
        unfold jumpC at h
        by_cases h0 : q.code = 21 <;> by_cases h1 : q.code = 29 <;> by_cases h2 : q.code = 37 <;> by_cases h3 : q.code = 45 <;> by_cases h4 : q.code = 53 <;> by_cases h5 : q.code = 61 <;> by_cases h6 : q.code = 69 <;> by_cases h7 : q.code = 77 <;> simp [h0, h1, h2, h3, h4, h5, h6, h7] at h hj
    rw [hc, if_pos rfl]
    show IntKind.i64.wrap (IntKind.i64.wrap (s.pc + 1) + (if jumpV q.code s.a (withF s q.code q.k) then q.jt else q.jf)) ∈ _
    rw [w1]
    cases jumpV q.code s.a (withF s q.code q.k) with
    | true =>
      rw [if_pos rfl]
      have : IntKind.i64.wrap ((i : Int) + 1 + q.jt) = (i : Int) + 1 + q.jt := by rw [wrap64]; omega
      rw [this]
      exact List.mem_cons_self ..
    | false =>
      rw [if_neg (by simp)]
      have : IntKind.i64.wrap ((i : Int) + 1 + q.jf) = (i : Int) + 1 + q.jf := by rw [wrap64]; omega
      rw [this]
      exact List.mem_cons_of_mem _ (List.mem_cons_self ..)
  | false =>
    rw [jumpB_C hj, if_neg (by simp)]
    have hf := plain_ok (d := d) hq.2.2.2 r1 r3 h6 h22 h5 hj he
    rcases ref_step (s := s) (d := d) hq h6 h22 h5 hj with ⟨e1, _, _⟩ | ⟨_, _, e3, e4⟩
    · rw [he] at e1; simp at e1
    · rw [hf] at e3
      refine ⟨(stepF s q d).2, Prod.ext e3.symm rfl, ?_⟩
      rw [e4 e3.symm]
      show IntKind.i64.wrap (s.pc + 1) ∈ _
      rw [w1]
      exact List.mem_cons_self ..

theorem safe_run (l : List In) (hl : l.length < 1000000) (hlo : ∀ q ∈ l, q.ok) (d : Da) (hall : ∀ (j : Nat) q, l[j]? = some q → rightF l.length j q = true) : ∀ (m k n i : Nat) (s : Ms), s.pc = i → i < l.length → l.length ≤ i + m → m ≤ k →
    ∃ v x, runF l d k n s = (v, x, true) ∧ (n : Int) + 1 ≤ x ∧ x ≤ (n : Int) + (l.length - i : Nat)
  | 0, k, n, i, s, hp, hi, hm, hk => by omega
  | m + 1, 0, n, i, s, hp, hi, hm, hk => by omega
  | m + 1, k + 1, n, i, s, hp, hi, hm, hk => by
    have hg := List.getElem?_eq_getElem hi
    have hq := hlo _ (List.getElem_mem hi)
    generalize l[i] = q at hg hq
    cases he : endsB s q with
    | true => exact ⟨_, _, run_end i hp hg he, by omega, by omega⟩
    | false =>
      have hr := hall i q hg
      obtain ⟨t, ht, hmem⟩ := safe_step (d := d) hq (by omega) hp hr he
      obtain ⟨_, r2, _, _, r5⟩ := right_of hr
      have h1 := next_nn hq r2 _ hmem
      have h2 := r5 _ hmem
      obtain ⟨v, x, e, b1, b2⟩ := safe_run l hl hlo d hall m k (n + 1) t.pc.toNat t (by omega) (by omega) (by omega) (by omega)
      refine ⟨v, x, (run_go i hp hg he ht).trans e, by omega, by omega⟩

theorem checkerSafe (l : List In) (hlo : ∀ q ∈ l, q.ok) (d : Da) (hd : d.ok) : EvF Try.prog prim 12 [.v (.sl (l.map In.row)), .agg d.row] [] [] [.v (.bool true)] [] := by
  have lm : (l.map In.row).length = l.length := List.length_map ..
  by_cases h : l.length > 300
  · refine F12.p0 (l.map In.row) d.nr d.arch d.ip d.a0 d.a1 d.a2 d.a3 d.a4 d.a5 true ?_ alive4
    rw [lm]
    have : (l.length : Int) > 300 := by omega
    simp [this]
  have g : (bif (!true) then true else (decide (((l.map In.row).length : Int) > 300))) = false := by
    rw [lm]
    have : ¬ (l.length : Int) > 300 := by omega
    simp [this]
  have hc := check_ev l (by omega) hlo
  cases hb : (checkF l).2 with
  | false =>
    rw [hb] at hc
    exact F12.p1 (l.map In.row) d.nr d.arch d.ip d.a0 d.a1 d.a2 d.a3 d.a4 d.a5 true _ false g rfl alive4 hc
  | true =>
    rw [hb] at hc
    obtain ⟨h0, h1, _, _, hall⟩ := checkF_ok hb
    obtain ⟨v, x, e, b1, b2⟩ := safe_run l (by omega) hlo d hall 4096 4096 0 0 start rfl h0 (by omega) (by omega)
    have r1 := run_ev l hlo d hd
    have r2 := ref_ev l (by omega) hlo d hd
    have e' : run l d = (v, x, true) := e
    rw [e'] at r1 r2
    have := F12.p2 (l.map In.row) d.nr d.arch d.ip d.a0 d.a1 d.a2 d.a3 d.a4 d.a5 true _ true v x true v x true g rfl alive4 hc r1 r2
    have ee : (bif (bif (bif (bif (bif true then true else false) then (decide (x ≤ ((l.map In.row).length : Int))) else false) then (decide (x ≥ 1)) else false) then (v == v) else false) then (x == x) else false) = true := by
      rw [lm]
      have a1 : x ≤ (l.length : Int) := by omega
      have a2 : x ≥ 1 := by omega
      simp [a1, a2]
    rw [ee] at this
    exact this

/-! ### how long -/

def neg : In := ⟨132, 0, 0, 0⟩
def reta : In := ⟨22, 0, 0, 0⟩
def negs (n : Nat) : List In := List.replicate n neg ++ [reta]

theorem negs_len (n : Nat) : (negs n).length = n + 1 := by simp [negs]
theorem negs_get {n i : Nat} (h : i < n) : (negs n)[i]? = some neg := by
  unfold negs
  rw [List.getElem?_append_left (by simpa using h), List.getElem?_replicate, if_pos h]
theorem negs_last (n : Nat) : (negs n)[n]? = some reta := by
  unfold negs
  rw [List.getElem?_append_right (by simp)]
  simp

theorem negs_ok (n : Nat) : ∀ q ∈ negs n, q.ok := by
  intro q hq
  unfold negs at hq
  rcases List.mem_append.1 hq with h | h
  · rw [(List.mem_replicate.1 h).2]
    exact okB_ok (by decide +kernel)
  · rw [List.mem_singleton.1 h]
    exact okB_ok (by decide +kernel)

theorem neg_right {n i : Nat} (h : i < n) (st : List Int) : refused (n + 1) i neg st = false := by
  have n0 : nextI neg i = [(i : Int) + 1] := rfl
  have hR : rightF (n + 1) i neg = true := by
    unfold rightF
    rw [n0]
    have a1 : nameB neg.code = true := by decide +kernel
    have a2 : rightX neg = true := by decide +kernel
    have a3 : mayB neg = true := by decide +kernel
    have a4 : decide (i + 1 = n + 1) = false := decide_eq_false (by omega)
    have a5 : decide ((i : Int) + 1 < ((n + 1 : Nat) : Int)) = true := decide_eq_true (by omega)
    rw [a1, a2, a3, a4, List.all_cons, a5]
    rfl
  unfold refused
  rw [hR]
  rfl

theorem reta_right (n : Nat) (st : List Int) : refused (n + 1) n reta st = false := by
  have n0 : nextI reta n = [] := rfl
  have hR : rightF (n + 1) n reta = true := by
    unfold rightF
    rw [n0]
    have a1 : nameB reta.code = true := by decide +kernel
    have a2 : rightX reta = true := by decide +kernel
    have a3 : mayB reta = true := by decide +kernel
    have a4 : endsC reta.code = true := rfl
    rw [a1, a2, a3, a4]
    simp
  unfold refused
  rw [hR]
  rfl

theorem negs_ck (n : Nat) : ∀ (k i : Nat) (st : List Int), i + k = n → ckF (negs n) (k + 1) i st = -1
  | 0, i, st, h => by
    have : i = n := by omega
    subst this
    show (match (negs i)[i]? with | none => -1 | some q => if refused (negs i).length i q st then (i : Int) else ckF (negs i) 0 (i + 1) ((nextI q i).foldl (upd1 q i) st)) = _
    rw [negs_last, negs_len]
    show (if refused (i + 1) i reta st then (i : Int) else _) = _
    rw [reta_right, if_neg (by simp)]
    rfl
  | k + 1, i, st, h => by
    show (match (negs n)[i]? with | none => -1 | some q => if refused (negs n).length i q st then (i : Int) else ckF (negs n) (k + 1) (i + 1) ((nextI q i).foldl (upd1 q i) st)) = _
    rw [negs_get (by omega), negs_len]
    show (if refused (n + 1) i neg st then (i : Int) else ckF (negs n) (k + 1) (i + 1) _) = _
    rw [neg_right (by omega), if_neg (by simp)]
    exact negs_ck n k (i + 1) _ (by omega)

theorem negs_check (n : Nat) : checkF (negs n) = if n + 1 ≤ 4096 then (-1, true) else (0, false) := by
  unfold checkF longB
  rw [negs_len]
  by_cases h : n + 1 ≤ 4096
  · rw [if_pos h]
    have : decide (n + 1 = 0 ∨ n + 1 > 4096) = false := decide_eq_false (by omega)
    have hc : ck (negs n) = -1 := by
      unfold ck
      rw [negs_len]
      exact negs_ck n n 0 _ (by omega)
    rw [this, if_neg (by simp), hc]
    rfl
  · rw [if_neg h]
    have : decide (n + 1 = 0 ∨ n + 1 > 4096) = true := decide_eq_true (by omega)
    rw [this, if_pos rfl]

theorem negs_run (n : Nat) (hn : n < 5000) : ∀ (k i : Nat) (a : Int), i + k = 4096 → i ≤ n → ∃ v x b, runF (negs n) noDa k i ⟨a, 0, c0, i⟩ = (v, x, b) ∧ b = decide (n + 1 ≤ 4096) ∧ (b = true → x = n + 1)
  | 0, i, a, h, hi => ⟨0, 4096, false, rfl, (decide_eq_false (by omega)).symm, fun h => by simp at h⟩
  | k + 1, i, a, h, hi => by
    rcases Nat.lt_or_ge i n with h1 | h1
    · have hst : stepF ⟨a, 0, c0, i⟩ neg noDa = (true, ⟨IntKind.u32.wrap (0 - a), 0, c0, ((i + 1 : Nat) : Int)⟩) := by
        have := st132 a 0 i 0 c0 noDa
        rw [wp_of i rfl (by omega)] at this
        exact this
      obtain ⟨v, x, b, e, e2, e3⟩ := negs_run n hn k (i + 1) (IntKind.u32.wrap (0 - a)) (by omega) h1
      exact ⟨v, x, b, (run_go i rfl (negs_get h1) rfl hst).trans e, e2, e3⟩
    · have : i = n := by omega
      subst this
      exact ⟨_, _, true, run_end i rfl (negs_last i) rfl, (decide_eq_true (by omega)).symm, fun _ => rfl⟩

/-! ### instructions in a box -/

theorem put_front (r : List AV) : ∀ (a l : List AV) (off : Nat), putAt (a ++ l) (a.length + off) r = a ++ putAt l off r := by
  induction r with
  | nil => intro a l off; rfl
  | cons x r ih =>
    intro a l off
    show putAt ((a ++ l).set (a.length + off) x) (a.length + off + 1) r = a ++ putAt (l.set off x) (off + 1) r
    rw [List.set_append_right _ _ (by omega), Nat.add_sub_cancel_left, Nat.add_assoc]
    exact ih a (l.set off x) (off + 1)

theorem put_here : ∀ (r a l : List AV), a.length = r.length → putAt (a ++ l) 0 r = r ++ l
  | [], a, l, h => by
    have : a = [] := by simpa using h
    subst this
    rfl
  | x :: r, [], l, h => by simp at h
  | x :: r, y :: a, l, h => by
    show putAt (x :: (a ++ l)) 1 r = x :: (r ++ l)
    have := put_front r [x] (a ++ l) 0
    rw [List.length_singleton, Nat.add_zero] at this
    rw [show x :: (a ++ l) = [x] ++ (a ++ l) from rfl, this, put_here r a l (by simpa using h)]
    rfl

theorem put_row (r : List PV) : ∀ (rows : List (List PV)) (i : Nat), (∀ x ∈ rows, x.length = r.length) → i < rows.length → putAt (rows.flatten.map AV.v) (i * r.length) (r.map AV.v) = (rows.set i r).flatten.map AV.v
  | [], i, h, hi => by simp at hi
  | x :: rows, 0, h, hi => by
    have hx := h x (List.mem_cons_self ..)
    rw [Nat.zero_mul, List.flatten_cons, List.map_append, put_here _ _ _ (by simpa using hx), List.set_cons_zero, List.flatten_cons, List.map_append]
  | x :: rows, i + 1, h, hi => by
    have hx := h x (List.mem_cons_self ..)
    rw [List.flatten_cons, List.map_append, List.set_cons_succ, List.flatten_cons, List.map_append, Nat.add_mul, Nat.one_mul, Nat.add_comm]
    have := put_front (r.map AV.v) (x.map AV.v) (rows.flatten.map AV.v) (i * r.length)
    rw [List.length_map, hx] at this
    rw [this, put_row r rows i (fun y hy => h y (List.mem_cons_of_mem _ hy)) (by simpa using hi)]

theorem four_flat : ∀ (rows : List (List PV)), (∀ x ∈ rows, x.length = 4) → rows.flatten.length = rows.length * 4
  | [], _ => rfl
  | x :: rows, h => by
    rw [List.flatten_cons, List.length_append, h x (List.mem_cons_self ..), four_flat rows fun y hy => h y (List.mem_cons_of_mem _ hy), List.length_cons]
    omega

def boxI (rows : List (List PV)) : List AV := rows.flatten.map AV.v
theorem boxI_flat (rows : List (List PV)) : ∀ a ∈ boxI rows, AV.flat a := by
  intro a ha
  obtain ⟨p, _, rfl⟩ := List.mem_map.1 ha
  exact ⟨p, rfl⟩

theorem box_put (rows : List (List PV)) (q : In) (x : Int) (h4 : ∀ r ∈ rows, r.length = 4) (h0 : 0 ≤ x) (hx : x.toNat < rows.length) : storeIn Try.prog 42 (boxI rows) (Int.toNat x * 4) (.agg q.row) = some (boxI (rows.set x.toNat q.row)) := by
  have hs : sizeT Try.prog 42 = some 4 := by kernel_rfl
  unfold storeIn
  simp only [hs]
  have hl : (boxI rows).length = rows.length * 4 := by unfold boxI; rw [List.length_map, four_flat rows h4]
  have hc : (decide ((AV.agg q.row).cells.length = 4) && decide (Int.toNat x * 4 + 4 ≤ (boxI rows).length)) = true := by
    rw [hl]
    have : decide (Int.toNat x * 4 + 4 ≤ rows.length * 4) = true := decide_eq_true (by omega)
    rw [this]
    rfl
  rw [if_pos hc]
  have := put_row q.row rows x.toNat (fun r hr => by rw [h4 r hr]; rfl) hx
  have hq4 : q.row.length = 4 := rfl
  rw [hq4] at this
  exact congrArg some this

theorem zrow_box (n : Nat) : ((List.replicate n [PV.int .i64 0, .int .i64 0, .int .i64 0, .int .u32 0]).flatten.map AV.v) = boxI (List.replicate n [PV.int .i64 0, .int .i64 0, .int .i64 0, .int .u32 0]) := rfl

def zrow : List PV := [.int .i64 0, .int .i64 0, .int .i64 0, .int .u32 0]

theorem long_loop (n : Nat) (hn : n + 1 ≤ 4200) : ∀ (k i : Nat), i + k = n + 1 → EvK Try.prog prim Try.f13 (loopAt Try.f13 0) (F13.h0 ((n + 1 : Nat) : Int) i (boxI (List.replicate i neg.row ++ List.replicate k zrow))) [.v (.bool true)] []
  | 0, i, h => by
    have hi : i = n + 1 := by omega
    subst hi
    rw [List.replicate_zero, List.append_nil]
    have h4 : ∀ r ∈ List.replicate (n + 1) neg.row, r.length = 4 := fun r hr => by rw [(List.mem_replicate.1 hr).2]; rfl
    have ht : Int.toNat (((n + 1 : Nat) : Int) - 1) = n := by omega
    have hp := box_put (List.replicate (n + 1) neg.row) reta (((n + 1 : Nat) : Int) - 1) h4 (by omega) (by rw [ht]; simp)
    have e : (List.replicate (n + 1) neg.row).set n reta.row = (negs n).map In.row := by
      unfold negs
      rw [List.replicate_succ', List.set_append_right _ _ (by simp), List.map_append, List.map_replicate]
      simp
    rw [ht, e] at hp
    have hck := check_ev (negs n) (by rw [negs_len]; omega) (negs_ok n)
    have hrun := run_ev (negs n) (negs_ok n) noDa noDa_ok
    rw [negs_check] at hck
    obtain ⟨v, x, b, e1, e2, e3⟩ := negs_run n (by omega) 4096 0 0 (by omega) (by omega)
    have e1' : run (negs n) noDa = (v, x, b) := e1
    rw [e1'] at hrun
    have hl4 : ∀ r ∈ (negs n).map In.row, r.length = 4 := fun r hr => by obtain ⟨q, _, rfl⟩ := List.mem_map.1 hr; rfl
    have hll : ((negs n).map In.row).length = Int.toNat ((n + 1 : Nat) : Int) := by rw [List.length_map, negs_len]; omega
    have fin := F13.l0_3 ((n + 1 : Nat) : Int) ((n + 1 : Nat) : Int) (boxI (List.replicate (n + 1) neg.row)) (boxI ((negs n).map In.row)) (if n + 1 ≤ 4096 then ((-1 : Int), true) else (0, false)).1 (if n + 1 ≤ 4096 then ((-1 : Int), true) else (0, false)).2 ((negs n).map In.row) v x b ((negs n).map In.row)
      (by simp) (in64 (by omega) (by omega)) (by omega) (by rw [ht]; exact hp) rfl hll hl4 rfl hll hl4 hck hrun
    have ee : (bif (bif ((if n + 1 ≤ 4096 then ((-1 : Int), true) else (0, false)).2 == (decide (((n + 1 : Nat) : Int) ≤ 4096))) then (b == (decide (((n + 1 : Nat) : Int) ≤ 4096))) else false) then (bif (!b) then true else (x == ((n + 1 : Nat) : Int))) else false) = true := by
      by_cases hc : n + 1 ≤ 4096
      · have a1 : decide (((n + 1 : Nat) : Int) ≤ 4096) = true := decide_eq_true (by omega)
        have a2 : b = true := by rw [e2]; exact decide_eq_true hc
        have a3 := e3 a2
        rw [a1, a2, if_pos hc, a3]
        simp
      · have a1 : decide (((n + 1 : Nat) : Int) ≤ 4096) = false := decide_eq_false (by omega)
        have a2 : b = false := by rw [e2]; exact decide_eq_false hc
        rw [a1, a2, if_neg hc]
        rfl
    rw [ee] at fin
    exact fin
  | k + 1, i, h => by
    have h4 : ∀ r ∈ List.replicate i neg.row ++ List.replicate (k + 1) zrow, r.length = 4 := fun r hr => by
      rcases List.mem_append.1 hr with hr | hr <;> (rw [(List.mem_replicate.1 hr).2]; rfl)
    have ht : Int.toNat (i : Int) = i := by omega
    have hp := box_put (List.replicate i neg.row ++ List.replicate (k + 1) zrow) neg (i : Int) h4 (by omega) (by rw [ht]; simp)
    have e : (List.replicate i neg.row ++ List.replicate (k + 1) zrow).set (Int.toNat (i : Int)) neg.row = List.replicate (i + 1) neg.row ++ List.replicate k zrow := by
      rw [ht, List.set_append_right _ _ (by simp)]
      simp only [List.length_replicate, Nat.sub_self, List.replicate_succ (n := k), List.set_cons_zero]
      rw [List.replicate_succ', List.append_assoc]
      rfl
    rw [e] at hp
    have e1 : ((i : Int) + 1) = ((i + 1 : Nat) : Int) := by omega
    refine F13.l0_2 ((n + 1 : Nat) : Int) i _ _ (by simp; omega) (by omega) hp (in64 (by omega) (by omega)) (boxI_flat _) ?_
    rw [e1]
    exact long_loop n hn k (i + 1) (by omega)

theorem checkerLong (n : Int) : EvF Try.prog prim 13 [.v (.int .i64 n)] [] [] [.v (.bool true)] [] := by
  by_cases h : n < 1 ∨ n > 4200
  · exact F13.p0 n true (by rcases h with h | h <;> simp [h]) alive4
  obtain ⟨m, rfl⟩ : ∃ m : Nat, n = ((m + 1 : Nat) : Int) := ⟨n.toNat - 1, by omega⟩
  have ht : Int.toNat ((m + 1 : Nat) : Int) = m + 1 := by omega
  have hlp := long_loop m (by omega) (m + 1) 0 (by omega)
  rw [List.replicate_zero, List.nil_append] at hlp
  refine F13.p1 ((m + 1 : Nat) : Int) true ?_ (by omega) (by omega) ?_ alive4 ?_
  · have h1 : ¬ ((m + 1 : Nat) : Int) < 1 := by omega
    have h2 : ¬ ((m + 1 : Nat) : Int) > 4200 := by omega
    simp only [h1, h2]
    rfl
  · rw [ht]
    exact boxI_flat _
  · rw [ht]
    exact hlp

end Go.Ab.S3
