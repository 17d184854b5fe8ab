/-
Clauses that say nothing are taken away: both answers.
-/
import Derived.Test.YtdddimnfhgmadaaHalfMean
namespace Go.Ab.S2
open Go Go.Proofs Go.Ab

theorem eq_chain (x y : Hf) : ((x.a == y.a) && ((x.o == y.o) && ((x.h == y.h) && ((x.m == y.m) && ((x.v == y.v) && true))))) = decide (x = y) := by
  obtain ⟨a, o, h, m, v⟩ := x
  obtain ⟨a', o', h', m', v'⟩ := y
  rw [Bool.eq_iff_iff]
  simp only [Bool.and_eq_true, beq_iff_eq, and_true, decide_eq_true_eq, Hf.mk.injEq]

def against (x y : Hf) : Bool := bif (bif (bif (bif (bif (x.o == 1) then (y.o == 1) else false) then (x.a == y.a) else false) then (x.h == y.h) else false) then (x.m == y.m) else false) then (x.v != y.v) else false

def hasB (l : List Hf) (h : Hf) : Bool := l.any fun x => decide (x = h)
def withinB (a b : List Hf) : Bool := a.all fun h => hasB b h

/-! ### is one among some? -/

theorem has_loop (s : List Hf) (h : Hf) (hs : s.length < 2 ^ 62) : ∀ (l : List Hf) (i : Nat), s.drop i = l → i ≤ s.length →
    EvK Try.prog prim Try.f46 (loopAt Try.f46 0) (F46.h0 (s.map Hf.row) h.a h.o h.h h.m h.v i) [.v (.bool (hasB l h))] []
  | [], i, hd, hi => by
    have := drop_end hi hd
    exact F46.l0_3 (s.map Hf.row) h.a h.o h.h h.m h.v i (by rw [hrows_len]; simp; omega)
  | x :: l, i, hd, hi => by
    obtain ⟨hx, hd', hlt⟩ := drop_get hd
    have hg := hrows_get hx
    have he := eq_chain x h
    cases hb : decide (x = h) with
    | true =>
      rw [hb] at he
      have e : hasB (x :: l) h = true := by simp only [hasB, List.any_cons, hb, Bool.true_or]
      rw [e]
      exact F46.l0_1 (s.map Hf.row) h.a h.o h.h h.m h.v i x.a x.o x.h x.m x.v (by rw [hrows_len]; simp; omega) (by omega) (by simpa [Hf.row] using hg) he
    | false =>
      rw [hb] at he
      have e : hasB (x :: l) h = hasB l h := by simp only [hasB, List.any_cons, hb, Bool.false_or]
      rw [e]
      exact F46.l0_2 (s.map Hf.row) h.a h.o h.h h.m h.v i x.a x.o x.h x.m x.v (by rw [hrows_len]; simp; omega) (by omega) (by simpa [Hf.row] using hg) he (in64 (by omega) (by omega)) (has_loop s h hs l (i + 1) hd' (by omega))

theorem has_ev (s : List Hf) (h : Hf) (hs : s.length < 2 ^ 62) : EvF Try.prog prim 46 [.v (.sl (s.map Hf.row)), .agg h.row] [] [] [.v (.bool (hasB s h))] [] :=
  F46.p0 (s.map Hf.row) h.a h.o h.h h.m h.v (has_loop s h hs s 0 rfl (by omega))

theorem index_loop (s : List Hf) (h : Hf) (hs : s.length < 2 ^ 62) : ∀ (l : List Hf) (i : Nat), s.drop i = l → i ≤ s.length →
    ∃ n : Int, decide (n ≥ 0) = hasB l h ∧ EvK Try.prog prim Try.f49 (loopAt Try.f49 0) (F49.h0 (s.map Hf.row) h.a h.o h.h h.m h.v i) [.v (.int .i64 n)] []
  | [], i, hd, hi => by
    have := drop_end hi hd
    exact ⟨-1, rfl, F49.l0_3 (s.map Hf.row) h.a h.o h.h h.m h.v i (by rw [hrows_len]; simp; omega)⟩
  | x :: l, i, hd, hi => by
    obtain ⟨hx, hd', hlt⟩ := drop_get hd
    have hg := hrows_get hx
    have he := eq_chain h x
    have hc : decide (h = x) = decide (x = h) := by rw [Bool.eq_iff_iff]; simp [eq_comm]
    rw [hc] at he
    cases hb : decide (x = h) with
    | true =>
      rw [hb] at he
      have e : hasB (x :: l) h = true := by simp only [hasB, List.any_cons, hb, Bool.true_or]
      rw [e]
      exact ⟨i, by simp, F49.l0_1 (s.map Hf.row) h.a h.o h.h h.m h.v i x.a x.o x.h x.m x.v (by rw [hrows_len]; simp; omega) (by omega) (by simpa [Hf.row] using hg) he⟩
    | false =>
      rw [hb] at he
      have e : hasB (x :: l) h = hasB l h := by simp only [hasB, List.any_cons, hb, Bool.false_or]
      rw [e]
      obtain ⟨n, hn, hrec⟩ := index_loop s h hs l (i + 1) hd' (by omega)
      exact ⟨n, hn, F49.l0_2 (s.map Hf.row) h.a h.o h.h h.m h.v i x.a x.o x.h x.m x.v (by rw [hrows_len]; simp; omega) (by omega) (by simpa [Hf.row] using hg) he (in64 (by omega) (by omega)) hrec⟩

theorem contains_ev (s : List Hf) (h : Hf) (hs : s.length < 2 ^ 62) : EvF Try.prog prim 44 [.v (.sl (s.map Hf.row)), .agg h.row] [] [] [.v (.bool (hasB s h))] [] := by
  obtain ⟨n, hn, hl⟩ := index_loop s h hs s 0 rfl (by omega)
  rw [← hn]
  exact F44.p0 (s.map Hf.row) h.a h.o h.h h.m h.v n (F49.p0 _ _ _ _ _ _ hl)

/-! ### can't both hold -/

def Hf.box (h : Hf) : List AV := [.v (.int .i64 h.a), .v (.int .i64 h.o), .v (.bool h.h), .v (.int .u32 h.m), .v (.int .u32 h.v)]

theorem against_loop (H : List (List AV)) (b : Nat) (h : Hf) (hb : H[b]? = some h.box) (s : List Hf) (hs : s.length < 2 ^ 62) : ∀ (l : List Hf) (i : Nat), s.drop i = l → i ≤ s.length →
    ∃ n : Int, decide (n ≥ 0) = l.any (fun x => against x h) ∧ EvK Try.prog prim Try.f48 (loopAt Try.f48 0) (F48_42.h0 b H (s.map Hf.row) i) [.v (.int .i64 n)] H
  | [], i, hd, hi => by
    have := drop_end hi hd
    exact ⟨-1, rfl, F48_42.l0_3 b H (s.map Hf.row) i (by rw [hrows_len]; simp; omega)⟩
  | x :: l, i, hd, hi => by
    obtain ⟨hx, hd', hlt⟩ := drop_get hd
    have hg := hrows_get hx
    have h43 := F43.p0 x.a x.o x.h x.m x.v h.a h.o h.h h.m h.v
    have h42 := F42.p0 b h.a h.o h.h h.m h.v H x.a x.o x.h x.m x.v _ hb h43
    have h42 : EvF Try.prog prim 42 [.agg [.int .i64 x.a, .int .i64 x.o, .bool x.h, .int .u32 x.m, .int .u32 x.v], .optr b 0] [] (H ++ []) [.v (.bool (against x h))] (H ++ []) := by rw [List.append_nil]; exact h42
    cases hh : against x h with
    | true =>
      rw [hh] at h42
      exact ⟨i, by simp [hh], F48_42.l0_1 b H (s.map Hf.row) i x.a x.o x.h x.m x.v true (by rw [hrows_len]; simp; omega) (by omega) (by simpa [Hf.row] using hg) rfl h42⟩
    | false =>
      rw [hh] at h42
      obtain ⟨n, hn, hrec⟩ := against_loop H b h hb s hs l (i + 1) hd' (by omega)
      exact ⟨n, by simp [hn, hh], F48_42.l0_2 b H (s.map Hf.row) i x.a x.o x.h x.m x.v false (by rw [hrows_len]; simp; omega) (by omega) (by simpa [Hf.row] using hg) rfl (in64 (by omega) (by omega)) h42 hrec⟩

theorem against_ev (h : Hf) (s : List Hf) (hs : s.length < 2 ^ 62) : EvF Try.prog prim 41 [.v (.sl (s.map Hf.row)), .fn (.func 42) [] [.optr 0 0]] [] ([] ++ [h.box]) [.v (.bool (s.any fun x => against x h))] ([] ++ [h.box]) := by
  obtain ⟨n, hn, hl⟩ := against_loop ([] ++ [h.box]) 0 h rfl s hs s 0 rfl (by omega)
  rw [← hn]
  exact F41_42.p0 0 ([] ++ [h.box]) (s.map Hf.row) n (by rw [List.append_nil]; exact F48_42.p0 0 _ _ hl)

theorem within_loop (H : List (List AV)) (b : Nat) (t : List Hf) (ht : t.length < 2 ^ 62) (hb : H[b]? = some [.v (.sl (t.map Hf.row))]) (s : List Hf) (hs : s.length < 2 ^ 62) : ∀ (l : List Hf) (i : Nat), s.drop i = l → i ≤ s.length →
    ∃ n : Int, decide (n ≥ 0) = !(withinB l t) ∧ EvK Try.prog prim Try.f48 (loopAt Try.f48 0) (F48_45.h0 b H (s.map Hf.row) i) [.v (.int .i64 n)] H
  | [], i, hd, hi => by
    have := drop_end hi hd
    exact ⟨-1, rfl, F48_45.l0_3 b H (s.map Hf.row) i (by rw [hrows_len]; simp; omega)⟩
  | x :: l, i, hd, hi => by
    obtain ⟨hx, hd', hlt⟩ := drop_get hd
    have hg := hrows_get hx
    have h44 := contains_ev t x ht
    have h45 := F45.p0 b (t.map Hf.row) H x.a x.o x.h x.m x.v _ hb h44
    have h45 : EvF Try.prog prim 45 [.agg [.int .i64 x.a, .int .i64 x.o, .bool x.h, .int .u32 x.m, .int .u32 x.v], .optr b 0] [] (H ++ []) [.v (.bool (!hasB t x))] (H ++ []) := by rw [List.append_nil]; exact h45
    cases hh : hasB t x with
    | false =>
      rw [hh] at h45
      exact ⟨i, by simp [withinB, hh], F48_45.l0_1 b H (s.map Hf.row) i x.a x.o x.h x.m x.v true (by rw [hrows_len]; simp; omega) (by omega) (by simpa [Hf.row] using hg) rfl h45⟩
    | true =>
      rw [hh] at h45
      obtain ⟨n, hn, hrec⟩ := within_loop H b t ht hb s hs l (i + 1) hd' (by omega)
      exact ⟨n, by simp only [withinB, List.all_cons, hh, Bool.true_and] at hn ⊢; exact hn, F48_45.l0_2 b H (s.map Hf.row) i x.a x.o x.h x.m x.v false (by rw [hrows_len]; simp; omega) (by omega) (by simpa [Hf.row] using hg) rfl (in64 (by omega) (by omega)) h45 hrec⟩

theorem within_ev (a b : List Hf) (ha : a.length < 2 ^ 62) (hb : b.length < 2 ^ 62) : EvF Try.prog prim 33 [.v (.sl (a.map Hf.row)), .v (.sl (b.map Hf.row))] [] [] [.v (.bool (decide (a.length ≤ b.length) && withinB a b))] [] := by
  by_cases hl : a.length ≤ b.length
  · obtain ⟨n, hn, hk⟩ := within_loop ([] ++ [[.v (.sl (b.map Hf.row))]]) 0 b hb rfl a ha a 0 rfl (by omega)
    have h41 := F41_45.p0 0 ([] ++ [[.v (.sl (b.map Hf.row))]]) (a.map Hf.row) n (by rw [List.append_nil]; exact F48_45.p0 0 _ _ hk)
    rw [hn] at h41
    have := F33.p0 (a.map Hf.row) (b.map Hf.row) _ (by rw [hrows_len, hrows_len]; simpa using hl) h41
    have e : (bif (decide ((((a.map Hf.row).length : Int)) ≤ (((b.map Hf.row).length : Int)))) then (!(!(withinB a b))) else false) = (decide (a.length ≤ b.length) && withinB a b) := by
      rw [hrows_len, hrows_len]
      have : decide ((a.length : Int) ≤ (b.length : Int)) = true := by simpa using hl
      rw [this]
      simp [hl]
    rw [e] at this
    exact this
  · have e : (decide (a.length ≤ b.length) && withinB a b) = false := by simp [hl]
    rw [e]
    exact F33.p1 (a.map Hf.row) (b.map Hf.row) (by rw [hrows_len, hrows_len]; simp; omega)

theorem rwithin_loop (a b : List Hf) (ha : a.length < 2 ^ 62) (hb : b.length < 2 ^ 62) : ∀ (l : List Hf) (i : Nat), a.drop i = l → i ≤ a.length →
    EvK Try.prog prim Try.f35 (loopAt Try.f35 0) (F35.h0 (a.map Hf.row) (b.map Hf.row) i) [.v (.bool (withinB l b))] []
  | [], i, hd, hi => by
    have := drop_end hi hd
    exact F35.l0_3 (a.map Hf.row) (b.map Hf.row) i (by rw [hrows_len]; simp; omega)
  | x :: l, i, hd, hi => by
    obtain ⟨hx, hd', hlt⟩ := drop_get hd
    have hg := hrows_get hx
    have h46 := has_ev b x hb
    cases hh : hasB b x with
    | false =>
      rw [hh] at h46
      have e : withinB (x :: l) b = false := by simp only [withinB, List.all_cons, hh, Bool.false_and]
      rw [e]
      exact F35.l0_1 (a.map Hf.row) (b.map Hf.row) i x.a x.o x.h x.m x.v false (by rw [hrows_len]; simp; omega) (by omega) (by simpa [Hf.row] using hg) rfl h46
    | true =>
      rw [hh] at h46
      have e : withinB (x :: l) b = withinB l b := by simp only [withinB, List.all_cons, hh, Bool.true_and]
      rw [e]
      exact F35.l0_2 (a.map Hf.row) (b.map Hf.row) i x.a x.o x.h x.m x.v true (by rw [hrows_len]; simp; omega) (by omega) (by simpa [Hf.row] using hg) rfl (in64 (by omega) (by omega)) h46 (rwithin_loop a b ha hb l (i + 1) hd' (by omega))

theorem rwithin_ev (a b : List Hf) (ha : a.length < 2 ^ 62) (hb : b.length < 2 ^ 62) : EvF Try.prog prim 35 [.v (.sl (a.map Hf.row)), .v (.sl (b.map Hf.row))] [] [] [.v (.bool (withinB a b))] [] :=
  F35.p0 _ _ (rwithin_loop a b ha hb a 0 rfl (by omega))

/-! ### one clause -/

def cleanC : List Hf → List Hf → Option (List Hf)
  | [], out => some out
  | h :: l, out => if h.nev then none else if out.any (fun x => against x h) then none else cleanC l (if (!h.alw && !hasB out h) then out ++ [h] else out)

def resC : Option (List Hf) → List AV
  | some y => [.v (.sl (y.map Hf.row)), .v (.bool true)]
  | none => [.v (.sl []), .v (.bool false)]

theorem map_app (a : List Hf) (h : Hf) : a.map Hf.row ++ [h.row] = (a ++ [h]).map Hf.row := by simp

theorem clause_loop (c : List Hf) (hc : c.length ≤ 1000) (hok : ∀ h ∈ c, h.ok) : ∀ (l out : List Hf) (i : Nat), c.drop i = l → i ≤ c.length → out.length ≤ i →
    ∃ r, r.map AV.soft = resC (cleanC l out) ∧ EvK Try.prog prim Try.f32 (loopAt Try.f32 0) (F32.h0 (c.map Hf.row) (out.map Hf.row) i) r []
  | [], out, i, hd, hi, ho => by
    have := drop_end hi hd
    exact ⟨_, rfl, F32.l0_5 (c.map Hf.row) (out.map Hf.row) i (by rw [hrows_len]; simp; omega)⟩
  | h :: l, out, i, hd, hi, ho => by
    obtain ⟨hx, hd', hlt⟩ := drop_get hd
    have hg := hrows_get hx
    have hho := hok h (List.mem_of_getElem? hx)
    have h22 := never_ev h hho
    have h24 := always_ev h hho
    have h41 := against_ev h out (by omega)
    have h44 := contains_ev out h (by omega)
    have i0 : (decide ((i : Int) < (((c.map Hf.row).length : Int)))) = true := by rw [hrows_len]; simp; omega
    unfold cleanC
    cases hn : h.nev with
    | true =>
      rw [hn] at h22
      exact ⟨_, rfl, F32.l0_4 (c.map Hf.row) (out.map Hf.row) i h.a h.o h.h h.m h.v true i0 (by omega) (by simpa [Hf.row] using hg) rfl rfl h22⟩
    | false =>
      rw [hn] at h22
      rw [if_neg (by simp)]
      cases ha : out.any (fun x => against x h) with
      | true =>
        rw [ha] at h41
        exact ⟨_, rfl, F32.l0_1 (c.map Hf.row) (out.map Hf.row) i h.a h.o h.h h.m h.v false true i0 (by omega) (by simpa [Hf.row] using hg) rfl rfl h22 h41⟩
      | false =>
        rw [ha] at h41
        rw [if_neg (by simp)]
        by_cases hk : (!h.alw && !hasB out h) = true
        · rw [if_pos hk]
          obtain ⟨r, hr, hrec⟩ := clause_loop c hc hok l (out ++ [h]) (i + 1) hd' (by omega) (by simp; omega)
          refine ⟨r, hr, ?_⟩
          rw [← map_app] at hrec
          have h5 : ∀ r ∈ out.map Hf.row ++ [h.row], r.length = 5 := by
            intro r hr
            rw [map_app] at hr
            obtain ⟨y, -, rfl⟩ := List.mem_map.1 hr
            rfl
          exact F32.l0_2 (c.map Hf.row) (out.map Hf.row) i h.a h.o h.h h.m h.v false false _ _ i0 (by omega) (by simpa [Hf.row] using hg) rfl rfl (by cases h1 : h.alw <;> cases h2 : hasB out h <;> simp_all) (by simp; omega) h5 (in64 (by omega) (by omega)) h22 h41 h24 (fun _ => h44) hrec
        · rw [if_neg hk]
          obtain ⟨r, hr, hrec⟩ := clause_loop c hc hok l out (i + 1) hd' (by omega) (by omega)
          refine ⟨r, hr, ?_⟩
          exact F32.l0_3 (c.map Hf.row) (out.map Hf.row) i h.a h.o h.h h.m h.v false false _ _ i0 (by omega) (by simpa [Hf.row] using hg) rfl rfl (by cases h1 : h.alw <;> cases h2 : hasB out h <;> simp_all) (in64 (by omega) (by omega)) h22 h41 h24 (fun _ => h44) hrec

theorem clause_ev (c : List Hf) (hc : c.length ≤ 1000) (hok : ∀ h ∈ c, h.ok) : EvF Try.prog prim 32 [.v (.sl (c.map Hf.row))] [] [] (resC (cleanC c [])) [] := by
  obtain ⟨r, hr, hk⟩ := clause_loop c hc hok c [] 0 rfl (by omega) (by simp)
  rw [← hr]
  exact (F32.p0 _ hk).soft

/-- What was let through says as much as what was kept of it. -/
theorem against_same {pre out : List Hf} {h : Hf} (h1 : ∀ y ∈ pre, y ∈ out ∨ (y.alw = true ∧ y.ok)) (h2 : ∀ y ∈ out, y ∈ pre) (hh : h.ok) (hn : h.nev = false) : pre.any (fun x => against x h) = out.any (fun x => against x h) := by
  rw [Bool.eq_iff_iff, List.any_eq_true, List.any_eq_true]
  constructor
  · rintro ⟨y, hy, ha⟩
    rcases h1 y hy with ho | ⟨hal, hyo⟩
    · exact ⟨y, ho, ha⟩
    · exfalso
      have hm : y.may = true := by
        cases hm : y.may with
        | true => rfl
        | false => simp [Hf.alw, hm] at hal
      unfold against at ha
      have hc : (y.o == 1) = true ∧ (h.o == 1) = true ∧ (y.a == h.a) = true ∧ (y.h == h.h) = true ∧ (y.m == h.m) = true ∧ (y.v != h.v) = true := by
        cases e1 : (y.o == 1) <;> cases e2 : (h.o == 1) <;> cases e3 : (y.a == h.a) <;> cases e4 : (y.h == h.h) <;> cases e5 : (y.m == h.m) <;> cases e6 : (y.v != h.v) <;> simp [e1, e2, e3, e4, e5, e6] at ha ⊢
      simp only [beq_iff_eq, bne_iff_ne] at hc
      obtain ⟨c1, c2, c3, c4, c5, c6⟩ := hc
      have hm2 : h.may = true := by unfold Hf.may at hm ⊢; rw [← c3, c2, ← c1]; exact hm
      have hal' : y.m = 0 ∧ y.v = 0 := by
        unfold Hf.alw at hal
        rw [hm, if_pos rfl, if_pos c1] at hal
        by_cases z1 : y.m = 0 <;> by_cases z2 : y.v = 0 <;> simp [z1, z2] at hal ⊢
      unfold Hf.nev at hn
      rw [hm2, if_pos rfl, if_pos c2] at hn
      have hs : subB h.v h.m = true := by cases hz : subB h.v h.m <;> simp_all
      have := ofW hh.2.2.2
      have := (sub_le hs this.1 (ofW hh.2.2.1).1).1
      omega
  · rintro ⟨y, hy, ha⟩
    exact ⟨y, h2 y hy, ha⟩

theorem rclause_inner (c : List Hf) (hc : c.length ≤ 1000) (out : List Hf) (i : Nat) (h : Hf) (hi : c[i]? = some h) {r : List AV} :
    ∀ (l : List Hf) (k : Nat), (c.take i).drop k = l → k ≤ i →
    (l.any (fun x => against x h) = true → r = [.v (.sl []), .v (.bool false)]) →
    (l.any (fun x => against x h) = false → EvK Try.prog prim Try.f34 (loopAt Try.f34 1) (F34.h1 (c.map Hf.row) (out.map Hf.row) i h.a h.o h.h h.m h.v i) r []) →
    EvK Try.prog prim Try.f34 (loopAt Try.f34 1) (F34.h1 (c.map Hf.row) (out.map Hf.row) i h.a h.o h.h h.m h.v k) r []
  | [], k, hd, hk, h1, h2 => by
    have hlt := (List.getElem?_eq_some_iff.1 hi).1
    have := drop_end (L := c.take i) (by simp; omega) hd
    have : k = i := by simp at this; omega
    rw [this]
    exact h2 rfl
  | x :: l, k, hd, hk, h1, h2 => by
    have hlt := (List.getElem?_eq_some_iff.1 hi).1
    obtain ⟨hx, hd', hlt'⟩ := drop_get hd
    have hki : k < i := by simp at hlt'; omega
    have hx : c[k]? = some x := by rw [List.getElem?_take_of_lt hki] at hx; exact hx
    have hg := hrows_get hx
    cases ha : against x h with
    | true =>
      rw [h1 (by simp [ha])]
      exact F34.l1_4 (c.map Hf.row) (out.map Hf.row) i h.a h.o h.h h.m h.v k x.a x.o x.h x.m x.v (by simp; omega) (by omega) (by simpa [Hf.row] using hg) ha
    | false =>
      exact F34.l1_5 (c.map Hf.row) (out.map Hf.row) i h.a h.o h.h h.m h.v k x.a x.o x.h x.m x.v (by simp; omega) (by omega) (by simpa [Hf.row] using hg) ha (in64 (by omega) (by omega))
        (rclause_inner c hc out i h hi l (k + 1) hd' (by omega) (fun hz => h1 (by simpa [ha] using hz)) (fun hz => h2 (by simpa [ha] using hz)))

theorem rclause_loop (c : List Hf) (hc : c.length ≤ 1000) (hok : ∀ h ∈ c, h.ok) : ∀ (l out : List Hf) (i : Nat), c.drop i = l → i ≤ c.length → out.length ≤ i → (∀ y ∈ c.take i, y ∈ out ∨ (y.alw = true ∧ y.ok)) → (∀ y ∈ out, y ∈ c.take i) →
    ∃ r, r.map AV.soft = resC (cleanC l out) ∧ EvK Try.prog prim Try.f34 (loopAt Try.f34 0) (F34.h0 (c.map Hf.row) (out.map Hf.row) i) r []
  | [], out, i, hd, hi, ho, p1, p2 => by
    have := drop_end hi hd
    exact ⟨_, rfl, F34.l0_3 (c.map Hf.row) (out.map Hf.row) i (by rw [hrows_len]; simp; omega)⟩
  | h :: l, out, i, hd, hi, ho, p1, p2 => by
    obtain ⟨hx, hd', hlt⟩ := drop_get hd
    have hg := hrows_get hx
    have hho := hok h (List.mem_of_getElem? hx)
    have h23 := rnever_ev h hho
    have h25 := ralways_ev h hho
    have h46 := has_ev out h (by omega)
    have i0 : (decide ((i : Int) < (((c.map Hf.row).length : Int)))) = true := by rw [hrows_len]; simp; omega
    have htake : c.take (i + 1) = c.take i ++ [h] := by rw [List.take_add_one, hx]; rfl
    unfold cleanC
    cases hn : h.nev with
    | true =>
      rw [hn] at h23
      exact ⟨_, rfl, F34.l0_1 (c.map Hf.row) (out.map Hf.row) i h.a h.o h.h h.m h.v true i0 (by omega) (by simpa [Hf.row] using hg) rfl h23⟩
    | false =>
      rw [hn] at h23
      rw [if_neg (by simp)]
      have hsame := against_same p1 p2 hho hn
      have enter : ∀ {r : List AV}, EvK Try.prog prim Try.f34 (loopAt Try.f34 1) (F34.h1 (c.map Hf.row) (out.map Hf.row) i h.a h.o h.h h.m h.v 0) r [] → EvK Try.prog prim Try.f34 (loopAt Try.f34 0) (F34.h0 (c.map Hf.row) (out.map Hf.row) i) r [] := fun hk =>
        F34.l0_2 (c.map Hf.row) (out.map Hf.row) i h.a h.o h.h h.m h.v false i0 (by omega) (by simpa [Hf.row] using hg) rfl h23 hk
      cases ha : out.any (fun x => against x h) with
      | true =>
        rw [if_pos rfl]
        refine ⟨[.v (.sl []), .v (.bool false)], rfl, enter ?_⟩
        exact rclause_inner c hc out i h hx (c.take i) 0 rfl (by omega) (fun _ => rfl) (fun hz => by rw [hsame, ha] at hz; exact Bool.noConfusion hz)
      | false =>
        rw [if_neg (by simp)]
        have i1 : (decide ((i : Int) < (i : Int))) = false := by simp
        by_cases hk : (!h.alw && !hasB out h) = true
        · rw [if_pos hk]
          obtain ⟨r, hr, hrec⟩ := rclause_loop c hc hok l (out ++ [h]) (i + 1) hd' (by omega) (by simp; omega)
            (by rw [htake]; intro y hy; rcases List.mem_append.1 hy with hy | hy
                · rcases p1 y hy with hz | hz
                  · exact .inl (List.mem_append_left _ hz)
                  · exact .inr hz
                · exact .inl (List.mem_append_right _ hy))
            (by rw [htake]; intro y hy; rcases List.mem_append.1 hy with hy | hy
                · exact List.mem_append_left _ (p2 y hy)
                · exact List.mem_append_right _ hy)
          refine ⟨r, hr, enter ?_⟩
          rw [← map_app] at hrec
          have h5 : ∀ r ∈ out.map Hf.row ++ [h.row], r.length = 5 := by
            intro r hr
            rw [map_app] at hr
            obtain ⟨y, -, rfl⟩ := List.mem_map.1 hr
            rfl
          exact rclause_inner c hc out i h hx (c.take i) 0 rfl (by omega) (fun hz => by rw [hsame, ha] at hz; exact Bool.noConfusion hz) fun _ =>
            F34.l1_6 (c.map Hf.row) (out.map Hf.row) i h.a h.o h.h h.m h.v i _ _ i1 (by cases h1 : h.alw <;> cases h2 : hasB out h <;> simp_all) (by simp; omega) h5 (in64 (by omega) (by omega)) h25 (fun _ => h46) hrec
        · rw [if_neg hk]
          obtain ⟨r, hr, hrec⟩ := rclause_loop c hc hok l out (i + 1) hd' (by omega) (by omega)
            (by rw [htake]; intro y hy; rcases List.mem_append.1 hy with hy | hy
                · exact p1 y hy
                · simp at hy
                  subst hy
                  cases h1 : y.alw with
                  | true => exact .inr ⟨rfl, hho⟩
                  | false =>
                    cases h2 : hasB out y with
                    | false => simp [h1, h2] at hk
                    | true =>
                      unfold hasB at h2
                      obtain ⟨z, hz, he⟩ := List.any_eq_true.1 h2
                      have : z = y := by simpa using he
                      subst this
                      exact .inl hz)
            (by rw [htake]; intro y hy; exact List.mem_append_left _ (p2 y hy))
          refine ⟨r, hr, enter ?_⟩
          exact rclause_inner c hc out i h hx (c.take i) 0 rfl (by omega) (fun hz => by rw [hsame, ha] at hz; exact Bool.noConfusion hz) fun _ =>
            F34.l1_7 (c.map Hf.row) (out.map Hf.row) i h.a h.o h.h h.m h.v i _ _ i1 (by cases h1 : h.alw <;> cases h2 : hasB out h <;> simp_all) (in64 (by omega) (by omega)) h25 (fun _ => h46) hrec

theorem rclause_ev (c : List Hf) (hc : c.length ≤ 1000) (hok : ∀ h ∈ c, h.ok) : EvF Try.prog prim 34 [.v (.sl (c.map Hf.row))] [] [] (resC (cleanC c [])) [] := by
  obtain ⟨r, hr, hk⟩ := rclause_loop c hc hok c [] 0 rfl (by omega) (by simp) (by simp) (by simp)
  rw [← hr]
  exact (F34.p0 _ hk).soft

end Go.Ab.S2
