/-
Chapter 20: an atom holds just where all halves of one of its clauses do; what is neither never nor always holds of some arguments, and of others not.
-/
import Derived.Test.YtdddimnfhgmadaaHalfLaw
namespace Go.Ab.S2
open Go Go.Proofs Go.Ab

/-! ### an atom by its halves -/

def clauseB (s : Six) (c : List Hf) : Bool := c.all fun h => h.holds s
def someB (s : Six) (L : List (List Hf)) : Bool := L.any (clauseB s)

theorem lex_lt {A V p q r t : Int} (hA : A = p * 4294967296 + q) (hV : V = r * 4294967296 + t) (hq : 0 ≤ q ∧ q < 4294967296) (ht : 0 ≤ t ∧ t < 4294967296) : (A < V ↔ p < r ∨ (p = r ∧ q < t)) ∧ (A = V ↔ p = r ∧ q = t) ∧ (A ≤ V ↔ p < r ∨ (p = r ∧ q ≤ t)) := by
  refine ⟨⟨fun h => ?_, fun h => ?_⟩, ⟨fun h => ?_, fun h => ?_⟩, ⟨fun h => ?_, fun h => ?_⟩⟩ <;> omega

theorem clause1 (s : Six) (h : Hf) : clauseB s [h] = h.holds s := by simp [clauseB]
theorem clause2 (s : Six) (h k : Hf) : clauseB s [h, k] = (h.holds s && k.holds s) := by simp [clauseB]
theorem comp1 (a b : Int) : comp 1 a b = true ↔ a = b := by simp [comp]
theorem comp2 (a b : Int) : comp 2 a b = true ↔ a ≠ b := by simp [comp]
theorem comp3 (a b : Int) : comp 3 a b = true ↔ a < b := by simp [comp]
theorem comp4 (a b : Int) : comp 4 a b = true ↔ a ≤ b := by simp [comp]
theorem comp5 (a b : Int) : comp 5 a b = true ↔ a > b := by simp [comp]
theorem comp6 (a b : Int) : comp 6 a b = true ↔ a ≥ b := by simp [comp]

theorem cl_mean (x : At) (hx : x.ok) (s : Six) (hs : s.ok) (hm : x.may = true) : someB s x.cl = comp x.o (both (s.at x.a) x.m) x.v := by
  have hy := Six.at_in hs x.a
  obtain ⟨hA, hAl⟩ := both_parts hy hx.2.2.1
  have hAh := both_nn (part true (s.at x.a)) (part true x.m)
  have hAn := both_nn (part false (s.at x.a)) (part false x.m)
  have hv := ofU hx.2.2.2
  have hV : x.v = part true x.v * 4294967296 + part false x.v := by unfold part; simp; omega
  have hVl : 0 ≤ part false x.v ∧ part false x.v < 4294967296 := by unfold part; simp; omega
  have hVh : 0 ≤ part true x.v := by unfold part; simp; omega
  have L := lex_lt hA hV ⟨hAn, hAl⟩ hVl
  have R := lex_lt hV hA hVl ⟨hAn, hAl⟩
  have hh : ∀ hi op, 1 ≤ op → op ≤ 6 → (x.half hi op).holds s = comp op (both (part hi (s.at x.a)) (part hi x.m)) (part hi x.v) := by
    intro hi op h1 h2
    have hma : (x.half hi op).may = true := by
      have := may_of hm
      show mayB x.a op = true
      rw [may_iff]
      simp
      omega
    unfold Hf.holds
    rw [hma, if_pos rfl]
    rfl
  have h1t := hh true 1 (by omega) (by omega)
  have ho := (may_of hm).2
  have hof := hh false x.o ho.1 ho.2
  unfold At.cl someB
  rw [hm, if_pos rfl, Bool.eq_iff_iff]
  have this : x.o = 1 ∨ x.o = 2 ∨ x.o = 3 ∨ x.o = 4 ∨ x.o = 5 ∨ x.o = 6 := by omega
  rcases this with e | e | e | e | e | e
  · rw [e] at hof ⊢
    rw [if_pos rfl, List.any_cons, List.any_nil, Bool.or_false, clause2, h1t, hof]
    simp only [Bool.and_eq_true, comp1]
    exact L.2.1.symm
  · have h2t := hh true 2 (by omega) (by omega)
    rw [e] at hof ⊢
    rw [if_neg (by omega), if_pos rfl, List.any_cons, List.any_cons, List.any_nil, Bool.or_false, clause1, clause1, h2t, hof]
    simp only [Bool.or_eq_true, comp2]
    have := L.2.1
    constructor
    · intro h h'; have := this.1 h'; omega
    · intro h; by_cases h3 : both (part true (s.at x.a)) (part true x.m) = part true x.v
      · right; intro h4; exact h (this.2 ⟨h3, h4⟩)
      · exact .inl h3
  · have es : x.strict = 3 := by simp [At.strict, e]
    have h3t := hh true 3 (by omega) (by omega)
    rw [es]
    rw [e] at hof ⊢
    rw [if_neg (by omega), if_neg (by omega), List.any_cons, List.any_cons, List.any_nil, Bool.or_false, clause1, clause2, h3t, h1t, hof]
    simp only [Bool.or_eq_true, Bool.and_eq_true, comp1, comp3]
    exact L.1.symm
  · have es : x.strict = 3 := by simp [At.strict, e]
    have h3t := hh true 3 (by omega) (by omega)
    rw [es]
    rw [e] at hof ⊢
    rw [if_neg (by omega), if_neg (by omega), List.any_cons, List.any_cons, List.any_nil, Bool.or_false, clause1, clause2, h3t, h1t, hof]
    simp only [Bool.or_eq_true, Bool.and_eq_true, comp1, comp3, comp4]
    exact L.2.2.symm
  · have es : x.strict = 5 := by simp [At.strict, e]
    have h5t := hh true 5 (by omega) (by omega)
    rw [es]
    rw [e] at hof ⊢
    rw [if_neg (by omega), if_neg (by omega), List.any_cons, List.any_cons, List.any_nil, Bool.or_false, clause1, clause2, h5t, h1t, hof]
    simp only [Bool.or_eq_true, Bool.and_eq_true, comp1, comp5]
    refine Iff.trans ?_ R.1.symm
    constructor
    · rintro (h | ⟨h, h'⟩)
      · exact .inl h
      · exact .inr ⟨h.symm, h'⟩
    · rintro (h | ⟨h, h'⟩)
      · exact .inl h
      · exact .inr ⟨h.symm, h'⟩
  · have es : x.strict = 5 := by simp [At.strict, e]
    have h5t := hh true 5 (by omega) (by omega)
    rw [es]
    rw [e] at hof ⊢
    rw [if_neg (by omega), if_neg (by omega), List.any_cons, List.any_cons, List.any_nil, Bool.or_false, clause1, clause2, h5t, h1t, hof]
    simp only [Bool.or_eq_true, Bool.and_eq_true, comp1, comp5, comp6]
    refine Iff.trans ?_ R.2.2.symm
    constructor
    · rintro (h | ⟨h, h'⟩)
      · exact .inl h
      · exact .inr ⟨h.symm, h'⟩
    · rintro (h | ⟨h, h'⟩)
      · exact .inl h
      · exact .inr ⟨h.symm, h'⟩

theorem mean_inner (x : At) (s : Six) (hs : s.ok) (L : List (List Hf)) (n : Nat) (c : List Hf) (hc : L[n]? = some c) (hL : L.length < 2 ^ 62) (hl : c.length < 2 ^ 62) (hok : ∀ h ∈ c, h.ok) (sm : Bool) {r : List AV} {z : List (List AV)} :
    ∀ (l : List Hf) (k : Nat) (ok : Bool), c.drop k = l → k ≤ c.length →
    EvK Try.prog prim Try.f3 (loopAt Try.f3 0) (F3.h0 x.a x.o x.m x.v s.a0 s.a1 s.a2 s.a3 s.a4 s.a5 (crows L) (bif sm then true else (ok && clauseB s l)) ((n : Int) + 1)) r z →
    EvK Try.prog prim Try.f3 (loopAt Try.f3 1) (F3.h1 x.a x.o x.m x.v s.a0 s.a1 s.a2 s.a3 s.a4 s.a5 (crows L) ok k sm n) r z
  | [], k, ok, hd, hk', hk => by
    have := drop_end hk' hd
    have hn := (List.getElem?_eq_some_iff.1 hc).1
    have e : (ok && clauseB s []) = ok := by simp [clauseB]
    rw [e] at hk
    exact F3.l1_5 x.a x.o x.m x.v s.a0 s.a1 s.a2 s.a3 s.a4 s.a5 (crows L) ok k sm n (c.map Hf.row) (by omega) (by simpa using crows_get hc) (by rw [hrows_len]; simp; omega) (in64 (by omega) (by omega)) hk
  | h :: l, k, ok, hd, hk', hk => by
    obtain ⟨hx, hd', hlt⟩ := drop_get hd
    have hho := hok h (List.mem_of_getElem? hx)
    have e : (ok && clauseB s (h :: l)) = ((bif ok then h.holds s else false) && clauseB s l) := by simp [clauseB]; cases ok <;> simp
    rw [e] at hk
    have hrec := mean_inner x s hs L n c hc hL hl hok sm l (k + 1) (bif ok then h.holds s else false) hd' (by omega) hk
    have hg := hrows_get hx
    exact F3.l1_4 x.a x.o x.m x.v s.a0 s.a1 s.a2 s.a3 s.a4 s.a5 (crows L) ok k sm n (c.map Hf.row) h.a h.o h.h h.m h.v (h.holds s) (by omega) (by simpa using crows_get hc) (by rw [hrows_len]; simp; omega) (fun _ => by omega)
      (fun _ => by simpa using crows_get hc) (fun _ => by omega) (fun _ => by simpa [Hf.row] using hg) (in64 (by omega) (by omega)) (fun _ => holds_ev h s hho hs) hrec

theorem mean_outer (x : At) (s : Six) (hs : s.ok) (L : List (List Hf)) (hL : L.length < 2 ^ 62) (hl : ∀ c ∈ L, c.length < 2 ^ 62) (hok : ∀ c ∈ L, ∀ h ∈ c, h.ok) (b : Bool)
    (hb : EvF Try.prog prim 13 [.agg [.int .i64 5, .int .i64 x.a, .int .i64 x.o, .int .u64 x.m, .int .u64 x.v, .sl []], .agg s.pv] [] [] [.v (.bool b)] []) :
    ∀ (l : List (List Hf)) (n : Nat) (sm : Bool), L.drop n = l → n ≤ L.length →
    EvK Try.prog prim Try.f3 (loopAt Try.f3 0) (F3.h0 x.a x.o x.m x.v s.a0 s.a1 s.a2 s.a3 s.a4 s.a5 (crows L) sm n) [.v (.bool ((sm || someB s l) == b))] []
  | [], n, sm, hd, hn => by
    have := drop_end hn hd
    have e : (sm || someB s []) = sm := by simp [someB]
    rw [e]
    exact F3.l0_3 x.a x.o x.m x.v s.a0 s.a1 s.a2 s.a3 s.a4 s.a5 (crows L) sm n b (by rw [crows_len]; simp; omega) hb
  | c :: l, n, sm, hd, hn => by
    obtain ⟨hc, hd', hlt⟩ := drop_get hd
    have hcm := List.mem_of_getElem? hc
    have hrec := mean_outer x s hs L hL hl hok b hb l (n + 1) (bif sm then true else (true && clauseB s c)) hd' (by omega)
    have e : (sm || someB s (c :: l)) = ((bif sm then true else (true && clauseB s c)) || someB s l) := by simp [someB]; cases sm <;> simp
    rw [e]
    exact F3.l0_2 x.a x.o x.m x.v s.a0 s.a1 s.a2 s.a3 s.a4 s.a5 (crows L) sm n (by rw [crows_len]; simp; omega)
      (mean_inner x s hs L n c hc hL (hl c hcm) (hok c hcm) sm c 0 true rfl (by omega) hrec)

theorem cl_len2 (x : At) : x.cl.length < 2 ^ 62 ∧ ∀ c ∈ x.cl, c.length < 2 ^ 62 := by
  unfold At.cl
  split
  · split
    · simp
    split <;> simp
  · simp

theorem halvesMean (x : At) (s : Six) (hx : x.ok) (hs : s.ok) : EvF Try.prog prim 3 [.agg x.row, .agg s.pv] [] [] [.v (.bool true)] [] := by
  have hm := ratom_ev x
  cases hb : x.may with
  | false =>
    rw [hb] at hm
    exact F3.p0 x.a x.o x.m x.v s.a0 s.a1 s.a2 s.a3 s.a4 s.a5 true false rfl alive20 (fun _ => hm)
  | true =>
    rw [hb] at hm
    have ha := (may_of hb).1
    have hy := Six.at_in hs x.a
    have hc := comp_ev x.o (both (s.at x.a) x.m) x.v
    rw [← mask64 hy hx.2.2.1] at hc
    have h30 := F30.p0 5 x.a x.o x.m x.v [] true rfl hm
    have h31 := F31.p3 5 x.a x.o x.m x.v [] s.a0 s.a1 s.a2 s.a3 s.a4 s.a5 (s.at x.a) _ rfl rfl rfl rfl ha (six_at s ha) hc
    rw [mask64 hy hx.2.2.1] at h31
    have h13 := F13.p0 5 x.a x.o x.m x.v [] s.a0 s.a1 s.a2 s.a3 s.a4 s.a5 true _ h30 (fun _ => h31)
    have hl := cl_len2 x
    have := mean_outer x s hs x.cl hl.1 hl.2 (cl_ok x hx) _ h13 x.cl 0 false rfl (by omega)
    rw [cl_mean x hx s hs hb] at this
    have e : ((false || comp x.o (both (s.at x.a) x.m) x.v) == (bif true then comp x.o (both (s.at x.a) x.m) x.v else false)) = true := by simp
    rw [e] at this
    exact F3.p1 x.a x.o x.m x.v s.a0 s.a1 s.a2 s.a3 s.a4 s.a5 true true (crows x.cl) rfl alive20 (fun _ => hm) (of_ev x hx) this

/-! ### of some, of all -/

theorem twice : ∀ n : Fin 64, IntKind.u64.wrap ((BitVec.ofInt 64 (IntKind.u64.wrap ((n.val : Int) * 2 ^ 32)) ||| BitVec.ofInt 64 (n.val : Int)).toNat : Int) = (n.val : Int) * 4294967296 + n.val := by decide +kernel

theorem twice_part (hi : Bool) (n : Nat) (h : n < 64) : part hi ((n : Int) * 4294967296 + n) = n := by
  unfold part
  cases hi
  · simp; omega
  · simp; omega

def fB (h : Hf) (n : Nat) : Bool := comp h.o (both n h.m) h.v

theorem few_loop (h : Hf) (hh : h.ok) (ha : h.a = 0) (hm : h.may = true) (nv av : Bool) (hn : EvF Try.prog prim 22 [.agg h.row] [] [] [.v (.bool nv)] []) (haw : EvF Try.prog prim 24 [.agg h.row] [] [] [.v (.bool av)] []) :
    ∀ (k n : Nat) (sm al : Bool), n + k = 64 →
    EvK Try.prog prim Try.f8 (loopAt Try.f8 0) (F8.h0 h.o h.m h.v h.h sm al n) [.v (.bool (bif nv == !(sm || (List.range' n k).any (fB h)) then av == (al && (List.range' n k).all (fB h)) else false))] []
  | 0, n, sm, al, hk => by
    have e : (bif nv == !(sm || (List.range' n 0).any (fB h)) then av == (al && (List.range' n 0).all (fB h)) else false) = (bif (nv == (!sm)) then (av == al) else false) := by simp
    rw [e]
    have e1 : h.row = [.int .i64 0, .int .i64 h.o, .bool h.h, .int .u32 h.m, .int .u32 h.v] := by rw [Hf.row, ha]
    rw [e1] at hn haw
    exact F8.l0_3 h.o h.m h.v h.h sm al n nv av (by simp; omega) hn (fun _ => haw)
  | k + 1, n, sm, al, hk => by
    have hrec := few_loop h hh ha hm nv av hn haw k (n + 1) (bif sm then true else fB h n) (bif al then fB h n else false) (by omega)
    have e : (bif nv == !(sm || (List.range' n (k + 1)).any (fB h)) then av == (al && (List.range' n (k + 1)).all (fB h)) else false) = (bif nv == !((bif sm then true else fB h n) || (List.range' (n + 1) k).any (fB h)) then av == ((bif al then fB h n else false) && (List.range' (n + 1) k).all (fB h)) else false) := by
      rw [List.range'_succ, List.any_cons, List.all_cons]
      cases sm <;> cases al <;> cases fB h n <;> simp
    rw [e]
    have hlt : n < 64 := by omega
    have ht := twice ⟨n, hlt⟩
    let s : Six := ⟨(n : Int) * 4294967296 + n, 0, 0, 0, 0, 0⟩
    have hs : s.ok := ⟨inU (by show 0 ≤ (n : Int) * 4294967296 + n; omega) (by show (n : Int) * 4294967296 + n ≤ _; omega), inU (n := 0) (by decide) (by decide), inU (n := 0) (by decide) (by decide), inU (n := 0) (by decide) (by decide), inU (n := 0) (by decide) (by decide), inU (n := 0) (by decide) (by decide)⟩
    have hv := holds_ev h s hh hs
    have e2 : h.holds s = fB h n := by
      unfold Hf.holds fB
      rw [hm, if_pos rfl, ha]
      show comp h.o (both (part h.h ((n : Int) * 4294967296 + n)) h.m) h.v = _
      rw [twice_part h.h n hlt]
    rw [e2] at hv
    have e1 : h.row = [.int .i64 0, .int .i64 h.o, .bool h.h, .int .u32 h.m, .int .u32 h.v] := by rw [Hf.row, ha]
    rw [e1] at hv
    have e3 : (n : Int) * 4294967296 + n = IntKind.u64.wrap ((BitVec.ofInt 64 (IntKind.u64.wrap ((n : Int) * 2 ^ 32)) ||| BitVec.ofInt 64 (n : Int)).toNat : Int) := ht.symm
    have hv : EvF Try.prog prim 12 [.agg [.int .i64 0, .int .i64 h.o, .bool h.h, .int .u32 h.m, .int .u32 h.v], .agg [.int .u64 ((n : Int) * 4294967296 + n), .int .u64 0, .int .u64 0, .int .u64 0, .int .u64 0, .int .u64 0]] [] [] [.v (.bool (fB h n))] [] := hv
    rw [e3] at hv
    refine F8.l0_2 h.o h.m h.v h.h sm al n (fB h n) (by simp; omega) hv ?_
    have e4 : IntKind.u64.wrap ((n : Int) + 1) = ((n + 1 : Nat) : Int) := by rw [wrapU]; omega
    rw [e4]
    exact hrec

theorem both_self (m : Int) (h : 0 ≤ m) : both m m = m := by simp [both]; omega
theorem both_z (m : Int) : both 0 m = 0 := by simp [both]
theorem sub_le {v m : Int} (h : subB v m = true) (hv : 0 ≤ v) (hm : 0 ≤ m) : v ≤ m ∧ both v m = v := by
  unfold subB at h
  have h : v.toNat &&& m.toNat = v.toNat := by simpa using h
  have h2 : v.toNat &&& m.toNat ≤ m.toNat := Nat.and_le_right
  unfold both
  omega
theorem sub_hit {v m y : Int} (h : both y m = v) : subB v m = true := by
  unfold both at h
  have h' : v.toNat = y.toNat &&& m.toNat := by omega
  unfold subB
  rw [h', Nat.and_assoc, Nat.and_self]
  simp

theorem few_any (h : Hf) (hh : h.ok) (hm : h.may = true) (h63 : h.m ≤ 63) : h.nev = !((List.range' 0 64).any (fB h)) ∧ h.alw = (List.range' 0 64).all (fB h) := by
  have h4 := ofW hh.2.2.1
  have h5 := ofW hh.2.2.2
  have ho := (may_of hm).2
  have wit : ∀ n : Nat, n < 64 → fB h n = true → (List.range' 0 64).any (fB h) = true := fun n h1 h2 => List.any_eq_true.2 ⟨n, by simp [List.mem_range']; omega, h2⟩
  have no : (∀ n : Nat, n < 64 → fB h n = false) → (List.range' 0 64).any (fB h) = false := fun hz => by
    rw [List.any_eq_false]
    intro n hn
    rw [hz n (by simp [List.mem_range'] at hn; omega)]
    simp
  have fail : ∀ n : Nat, n < 64 → fB h n = false → (List.range' 0 64).all (fB h) = false := fun n h1 h2 => by
    rw [List.all_eq_false]
    exact ⟨n, by simp [List.mem_range']; omega, by rw [h2]; simp⟩
  have yes : (∀ n : Nat, n < 64 → fB h n = true) → (List.range' 0 64).all (fB h) = true := fun hz => by
    rw [List.all_eq_true]
    intro n hn
    exact hz n (by simp [List.mem_range'] at hn; omega)
  have le := fun n : Nat => both_le (n : Int) h.m h4.1
  have nn := fun n : Nat => both_nn (n : Int) h.m
  have b0 : both ((0 : Nat) : Int) h.m = 0 := both_z h.m
  have em : ((h.m.toNat : Nat) : Int) = h.m := by omega
  have bm : both ((h.m.toNat : Nat) : Int) h.m = h.m := by rw [em]; exact both_self _ h4.1
  have lm : h.m.toNat < 64 := by omega
  have tt : ∀ {n : Nat} {p : Prop} (o : Int), h.o = o → (comp o (both n h.m) h.v = true ↔ p) → p → fB h n = true := fun o e k hp => by unfold fB; rw [e]; exact k.2 hp
  have ff : ∀ {n : Nat} {p : Prop} (o : Int), h.o = o → (comp o (both n h.m) h.v = true ↔ p) → ¬ p → fB h n = false := fun o e k hp => by
    unfold fB; rw [e]; exact Bool.eq_false_iff.2 fun hc => hp (k.1 hc)
  have hN : ∀ (b : Bool), h.nev = b → h.may = true := fun _ _ => hm
  have this : h.o = 1 ∨ h.o = 2 ∨ h.o = 3 ∨ h.o = 4 ∨ h.o = 5 ∨ h.o = 6 := by omega
  rcases this with e | e | e | e | e | e
  · have en : h.nev = !subB h.v h.m := by unfold Hf.nev; rw [hm, if_pos rfl, if_pos e]
    have ea : h.alw = (bif h.m == 0 then h.v == 0 else false) := by unfold Hf.alw; rw [hm, if_pos rfl, if_pos e]
    rw [en, ea]
    constructor
    · cases hs : subB h.v h.m with
      | true =>
        obtain ⟨h1, h2⟩ := sub_le hs h5.1 h4.1
        rw [wit h.v.toNat (by omega) (tt 1 e (comp1 _ _) (by rw [show ((h.v.toNat : Nat) : Int) = h.v by omega]; exact h2))]
      | false =>
        rw [no fun n hn => ff 1 e (comp1 _ _) fun hv => by rw [sub_hit hv] at hs; exact Bool.noConfusion hs]
    · by_cases h1 : h.m = 0
      · by_cases h2 : h.v = 0
        · rw [yes fun n hn => tt 1 e (comp1 _ _) (by have := le n; have := nn n; omega)]
          simp [h1, h2]
        · rw [fail 0 (by omega) (ff 1 e (comp1 _ _) (by rw [b0]; omega))]
          simp [h2]
      · by_cases h2 : h.v = 0
        · rw [fail h.m.toNat lm (ff 1 e (comp1 _ _) (by rw [bm]; omega))]
          simp [h1]
        · rw [fail 0 (by omega) (ff 1 e (comp1 _ _) (by rw [b0]; omega))]
          simp [h2]
  · have en : h.nev = (bif h.m == 0 then h.v == 0 else false) := by unfold Hf.nev; rw [hm, if_pos rfl, if_neg (by omega), if_pos e]
    have ea : h.alw = !subB h.v h.m := by unfold Hf.alw; rw [hm, if_pos rfl, if_neg (by omega), if_pos e]
    rw [en, ea]
    constructor
    · by_cases h1 : h.m = 0
      · by_cases h2 : h.v = 0
        · rw [no fun n hn => ff 2 e (comp2 _ _) (by have := le n; have := nn n; omega)]
          simp [h1, h2]
        · rw [wit 0 (by omega) (tt 2 e (comp2 _ _) (by rw [b0]; omega))]
          simp [h2]
      · by_cases h2 : h.v = 0
        · rw [wit h.m.toNat lm (tt 2 e (comp2 _ _) (by rw [bm]; omega))]
          simp [h1]
        · rw [wit 0 (by omega) (tt 2 e (comp2 _ _) (by rw [b0]; omega))]
          simp [h2]
    · cases hs : subB h.v h.m with
      | true =>
        obtain ⟨h1, h2⟩ := sub_le hs h5.1 h4.1
        rw [fail h.v.toNat (by omega) (ff 2 e (comp2 _ _) (by rw [show ((h.v.toNat : Nat) : Int) = h.v by omega]; exact fun hc => hc h2))]
        rfl
      | false =>
        rw [yes fun n hn => tt 2 e (comp2 _ _) fun hv => by rw [sub_hit hv] at hs; exact Bool.noConfusion hs]
        rfl
  · have en : h.nev = (h.v == 0) := by unfold Hf.nev; rw [hm, if_pos rfl, if_neg (by omega), if_neg (by omega), if_pos e]
    have ea : h.alw = decide (h.m < h.v) := by unfold Hf.alw; rw [hm, if_pos rfl, if_neg (by omega), if_neg (by omega), if_pos e]
    rw [en, ea]
    constructor
    · by_cases h2 : h.v = 0
      · rw [no fun n hn => ff 3 e (comp3 _ _) (by have := le n; have := nn n; omega)]; simp [h2]
      · rw [wit 0 (by omega) (tt 3 e (comp3 _ _) (by rw [b0]; omega))]; simp [h2]
    · by_cases h2 : h.m < h.v
      · rw [yes fun n hn => tt 3 e (comp3 _ _) (by have := le n; have := nn n; omega)]; simp [h2]
      · rw [fail h.m.toNat lm (ff 3 e (comp3 _ _) (by rw [bm]; omega))]; simpa using h2
  · have en : h.nev = false := by unfold Hf.nev; rw [hm, if_pos rfl, if_neg (by omega), if_neg (by omega), if_neg (by omega), if_neg (by omega), if_neg (by omega)]
    have ea : h.alw = decide (h.m ≤ h.v) := by unfold Hf.alw; rw [hm, if_pos rfl, if_neg (by omega), if_neg (by omega), if_neg (by omega), if_pos e]
    rw [en, ea]
    constructor
    · rw [wit 0 (by omega) (tt 4 e (comp4 _ _) (by rw [b0]; omega))]; rfl
    · by_cases h2 : h.m ≤ h.v
      · rw [yes fun n hn => tt 4 e (comp4 _ _) (by have := le n; have := nn n; omega)]; simp [h2]
      · rw [fail h.m.toNat lm (ff 4 e (comp4 _ _) (by rw [bm]; omega))]; simpa using h2
  · have en : h.nev = decide (h.m ≤ h.v) := by unfold Hf.nev; rw [hm, if_pos rfl, if_neg (by omega), if_neg (by omega), if_neg (by omega), if_pos e]
    have ea : h.alw = false := by unfold Hf.alw; rw [hm, if_pos rfl, if_neg (by omega), if_neg (by omega), if_neg (by omega), if_neg (by omega), if_neg (by omega)]
    rw [en, ea]
    constructor
    · by_cases h2 : h.m ≤ h.v
      · rw [no fun n hn => ff 5 e (comp5 _ _) (by have := le n; have := nn n; omega)]; simp [h2]
      · rw [wit h.m.toNat lm (tt 5 e (comp5 _ _) (by rw [bm]; omega))]; simpa using h2
    · rw [fail 0 (by omega) (ff 5 e (comp5 _ _) (by rw [b0]; omega))]
  · have en : h.nev = decide (h.m < h.v) := by unfold Hf.nev; rw [hm, if_pos rfl, if_neg (by omega), if_neg (by omega), if_neg (by omega), if_neg (by omega), if_pos e]
    have ea : h.alw = (h.v == 0) := by unfold Hf.alw; rw [hm, if_pos rfl, if_neg (by omega), if_neg (by omega), if_neg (by omega), if_neg (by omega), if_pos e]
    rw [en, ea]
    constructor
    · by_cases h2 : h.m < h.v
      · rw [no fun n hn => ff 6 e (comp6 _ _) (by have := le n; have := nn n; omega)]; simp [h2]
      · rw [wit h.m.toNat lm (tt 6 e (comp6 _ _) (by rw [bm]; omega))]; simpa using h2
    · by_cases h2 : h.v = 0
      · rw [yes fun n hn => tt 6 e (comp6 _ _) (by have := le n; have := nn n; omega)]; simp [h2]
      · rw [fail 0 (by omega) (ff 6 e (comp6 _ _) (by rw [b0]; omega))]; simpa using h2

theorem halvesFew (o m v : Int) (b : Bool) (ho : inR .i64 o) (hm : inR .u32 m) (hv : inR .u32 v) : EvF Try.prog prim 8 [.v (.int .i64 o), .v (.int .u32 m), .v (.int .u32 v), .v (.bool b)] [] [] [.v (.bool true)] [] := by
  cases hg : (bif (bif (bif (!true) then true else (decide (o < 1))) then true else (decide (o > 6))) then true else (decide (m > 63))) with
  | true => exact F8.p0 o m v b true hg alive20
  | false =>
    have h1 : ¬ o < 1 := fun h => by simp [h] at hg
    have h2 : ¬ o > 6 := fun h => by simp [h] at hg
    have h3 : ¬ m > 63 := fun h => by simp [h] at hg
    let h : Hf := ⟨0, o, b, m, v⟩
    have hh : h.ok := ⟨in64 (n := 0) (by decide) (by decide), ho, hm, hv⟩
    have hmay : h.may = true := by show mayB 0 o = true; rw [may_iff]; simp; omega
    obtain ⟨e1, e2⟩ := few_any h hh hmay (by show m ≤ 63; omega)
    have := few_loop h hh rfl hmay h.nev h.alw (never_ev h hh) (always_ev h hh) 64 0 false true (by omega)
    rw [e1, e2] at this
    have e : (bif (!((List.range' 0 64).any (fB h))) == (!(false || (List.range' 0 64).any (fB h))) then (List.range' 0 64).all (fB h) == (true && (List.range' 0 64).all (fB h)) else false) = true := by simp
    rw [e] at this
    exact F8.p1 o m v b true hg alive20 this

end Go.Ab.S2
