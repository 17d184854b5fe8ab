/-
Halves of atoms: which they are, when they hold, whether never, or always: both answers.
-/
import Derived.Test.YtdddimnfhgmadaaBits
import Derived.Test.YtdddimnfhgmadaaHA
import Derived.Test.YtdddimnfhgmadaaHB
namespace Go.Ab.S2
open Go Go.Proofs Go.Ab

structure Six where
  a0 : Int
  a1 : Int
  a2 : Int
  a3 : Int
  a4 : Int
  a5 : Int

def Six.pv (x : Six) : List PV := [.int .u64 x.a0, .int .u64 x.a1, .int .u64 x.a2, .int .u64 x.a3, .int .u64 x.a4, .int .u64 x.a5]
def Six.box (x : Six) : List AV := [.v (.int .u64 x.a0), .v (.int .u64 x.a1), .v (.int .u64 x.a2), .v (.int .u64 x.a3), .v (.int .u64 x.a4), .v (.int .u64 x.a5)]
def Six.at (x : Six) (i : Int) : Int := [x.a0, x.a1, x.a2, x.a3, x.a4, x.a5].getD i.toNat 0
def Six.ok (x : Six) : Prop := inR .u64 x.a0 ∧ inR .u64 x.a1 ∧ inR .u64 x.a2 ∧ inR .u64 x.a3 ∧ inR .u64 x.a4 ∧ inR .u64 x.a5

theorem six_at (x : Six) {i : Int} (h : 0 ≤ i ∧ i < (6 : Nat)) : (x.box)[(0 + Int.toNat i * 1)]? = some (.v (.int .u64 (x.at i))) := by
  obtain ⟨n, rfl⟩ := Int.eq_ofNat_of_zero_le h.1
  have : n < 6 := by omega
  match n, this with
  | 0, _ => rfl
  | 1, _ => rfl
  | 2, _ => rfl
  | 3, _ => rfl
  | 4, _ => rfl
  | 5, _ => rfl

theorem Six.at_in {x : Six} (hx : x.ok) (i : Int) : inR .u64 (x.at i) := by
  unfold Six.at
  obtain ⟨h0, h1, h2, h3, h4, h5⟩ := hx
  generalize i.toNat = n
  match n with
  | 0 => exact h0
  | 1 => exact h1
  | 2 => exact h2
  | 3 => exact h3
  | 4 => exact h4
  | 5 => exact h5
  | _ + 6 => exact inU (by simp) (by simp)

def mayB (a o : Int) : Bool := bif (bif (bif (decide (a ≥ 0)) then (decide (a ≤ 5)) else false) then (decide (o ≥ 1)) else false) then (decide (o ≤ 6)) else false

theorem may_of {a o : Int} (h : mayB a o = true) : (0 ≤ a ∧ a < (6 : Nat)) ∧ 1 ≤ o ∧ o ≤ 6 := by
  unfold mayB at h
  by_cases h1 : a ≥ 0 <;> by_cases h2 : a ≤ 5 <;> by_cases h3 : o ≥ 1 <;> by_cases h4 : o ≤ 6 <;> simp_all
  omega

theorem may_iff (a o : Int) : mayB a o = decide ((0 ≤ a ∧ a ≤ 5) ∧ 1 ≤ o ∧ o ≤ 6) := by
  rw [Bool.eq_iff_iff]
  simp only [mayB, Bool.cond_false_right, Bool.and_eq_true, decide_eq_true_eq]
  omega

def comp (o a b : Int) : Bool :=
  if o = 1 then a == b else if o = 2 then a != b else if o = 3 then decide (a < b) else if o = 4 then decide (a ≤ b) else if o = 5 then decide (a > b) else if o = 6 then decide (a ≥ b) else false

theorem comp_ev (o a b : Int) : EvF Try.prog prim 38 [.v (.int .i64 o), .v (.int .u64 a), .v (.int .u64 b)] [] [] [.v (.bool (comp o a b))] [] := by
  unfold comp
  by_cases h1 : o = 1
  · subst h1; exact F38.p0 1 a b rfl
  by_cases h2 : o = 2
  · subst h2; exact F38.p1 2 a b rfl rfl
  by_cases h3 : o = 3
  · subst h3; exact F38.p2 3 a b rfl rfl rfl
  by_cases h4 : o = 4
  · subst h4; exact F38.p3 4 a b rfl rfl rfl rfl
  by_cases h5 : o = 5
  · subst h5; exact F38.p4 5 a b rfl rfl rfl rfl rfl
  by_cases h6 : o = 6
  · subst h6; exact F38.p5 6 a b rfl rfl rfl rfl rfl rfl
  simp only [h1, h2, h3, h4, h5, h6, if_false]
  exact F38.p6 o a b (by simpa using h1) (by simpa using h2) (by simpa using h3) (by simpa using h4) (by simpa using h5) (by simpa using h6)

def cmp3 (a b : Int) : Int := if a < b then -1 else if a > b then 1 else 0

theorem cmp3_ev (a b : Int) : EvF Try.prog prim 40 [.v (.int .u64 a), .v (.int .u64 b)] [] [] [.v (.int .i64 (cmp3 a b))] [] := by
  have ha : EvF Try.prog prim 47 [.v (.int .u64 a)] [] [] [.v (.bool false)] [] := by have := F47.p0 a; simpa using this
  have hb : EvF Try.prog prim 47 [.v (.int .u64 b)] [] [] [.v (.bool false)] [] := by have := F47.p0 b; simpa using this
  unfold cmp3
  by_cases h1 : a < b
  · rw [if_pos h1]; exact F40.p3 a b false false rfl rfl (by simpa using h1) ha hb
  · rw [if_neg h1]
    by_cases h2 : a > b
    · rw [if_pos h2]; exact F40.p4 a b false false rfl rfl (by simpa using h1) (by simpa using h2) ha hb
    · rw [if_neg h2]; exact F40.p5 a b false false rfl rfl (by simpa using h1) (by simpa using h2) ha hb

theorem scomp_ev (o a b : Int) : EvF Try.prog prim 29 [.v (.int .i64 o), .v (.int .u64 a), .v (.int .u64 b)] [] [] [.v (.bool (comp o a b))] [] := by
  have hc := cmp3_ev a b
  have tri : (a < b ∧ cmp3 a b = -1) ∨ (a = b ∧ cmp3 a b = 0) ∨ (a > b ∧ cmp3 a b = 1) := by
    unfold cmp3
    rcases Int.lt_trichotomy a b with h | h | h
    · exact .inl ⟨h, by rw [if_pos h]⟩
    · subst h; exact .inr (.inl ⟨rfl, by simp⟩)
    · exact .inr (.inr ⟨h, by rw [if_neg (by omega), if_pos h]⟩)
  generalize cmp3 a b = n at hc tri
  unfold comp
  by_cases h1 : o = 1
  · subst h1
    have e : (a == b) = (n == 0) := by rw [Bool.eq_iff_iff]; simp; omega
    rw [if_pos rfl, e]; exact F29.p0 1 a b n rfl hc
  by_cases h2 : o = 2
  · subst h2
    have e : (a != b) = (n != 0) := by rw [Bool.eq_iff_iff]; simp; omega
    rw [if_neg h1, if_pos rfl, e]; exact F29.p1 2 a b n rfl rfl hc
  by_cases h3 : o = 3
  · subst h3
    have e : decide (a < b) = decide (n < 0) := by rw [Bool.eq_iff_iff]; simp; omega
    rw [if_neg h1, if_neg h2, if_pos rfl, e]; exact F29.p2 3 a b n rfl rfl rfl hc
  by_cases h4 : o = 4
  · subst h4
    have e : decide (a ≤ b) = decide (n ≤ 0) := by rw [Bool.eq_iff_iff]; simp; omega
    rw [if_neg h1, if_neg h2, if_neg h3, if_pos rfl, e]; exact F29.p3 4 a b n rfl rfl rfl rfl hc
  by_cases h5 : o = 5
  · subst h5
    have e : decide (a > b) = decide (n > 0) := by rw [Bool.eq_iff_iff]; simp; omega
    rw [if_neg h1, if_neg h2, if_neg h3, if_neg h4, if_pos rfl, e]; exact F29.p4 5 a b n rfl rfl rfl rfl rfl hc
  by_cases h6 : o = 6
  · subst h6
    have e : decide (a ≥ b) = decide (n ≥ 0) := by rw [Bool.eq_iff_iff]; simp; omega
    rw [if_neg h1, if_neg h2, if_neg h3, if_neg h4, if_neg h5, if_pos rfl, e]; exact F29.p5 6 a b n rfl rfl rfl rfl rfl rfl hc
  simp only [h1, h2, h3, h4, h5, h6, if_false]
  exact F29.p6 o a b n (by simpa using h1) (by simpa using h2) (by simpa using h3) (by simpa using h4) (by simpa using h5) (by simpa using h6) hc

/-! ### a half -/

structure Hf where
  a : Int
  o : Int
  h : Bool
  m : Int
  v : Int
  deriving DecidableEq

def Hf.row (x : Hf) : List PV := [.int .i64 x.a, .int .i64 x.o, .bool x.h, .int .u32 x.m, .int .u32 x.v]
def Hf.ok (x : Hf) : Prop := inR .i64 x.a ∧ inR .i64 x.o ∧ inR .u32 x.m ∧ inR .u32 x.v
def Hf.may (x : Hf) : Bool := mayB x.a x.o

def Hf.holds (x : Hf) (s : Six) : Bool := if x.may then comp x.o (both (part x.h (s.at x.a)) x.m) x.v else false

theorem may_ev (a o : Int) : EvF Try.prog prim 26 [.v (.int .i64 a), .v (.int .i64 o)] [] [] [.v (.bool (mayB a o))] [] := F26.p0 a o
theorem right_ev (x : Hf) : EvF Try.prog prim 28 [.agg x.row] [] [] [.v (.bool x.may)] [] := F28.p0 x.a x.o x.h x.m x.v _ (may_ev x.a x.o)
theorem rright_ev (x : Hf) : EvF Try.prog prim 37 [.agg x.row] [] [] [.v (.bool x.may)] [] := F37.p0 x.a x.o x.h x.m x.v

theorem holds_ev (x : Hf) (s : Six) (hx : x.ok) (hs : s.ok) : EvF Try.prog prim 12 [.agg x.row, .agg s.pv] [] [] [.v (.bool (x.holds s))] [] := by
  have hr := right_ev x
  unfold Hf.holds
  cases hm : x.may with
  | false => rw [hm] at hr; exact F12.p0 x.a x.o x.h x.m x.v s.a0 s.a1 s.a2 s.a3 s.a4 s.a5 false rfl hr
  | true =>
    rw [hm] at hr
    have ha := (may_of hm).1
    have hy := Six.at_in hs x.a
    have hget := six_at s ha
    have hc := scomp_ev x.o (both (part x.h (s.at x.a)) x.m) x.v
    rw [if_pos rfl]
    cases hh : x.h with
    | true =>
      rw [hh] at hc
      have e := mask32 (part_in true hy) hx.2.2.1
      rw [← high_part hy] at e hc
      rw [← high_part hy]
      rw [← e] at hc ⊢
      have hv := word_same hx.2.2.2
      have hc' := hc
      rw [← hv] at hc'
      have := F12.p1 x.a x.o true x.m x.v s.a0 s.a1 s.a2 s.a3 s.a4 s.a5 true (s.at x.a) _ rfl ha hget rfl (hh ▸ hr) hc'
      rw [hv] at this
      rw [Hf.row, hh]
      exact this
    | false =>
      rw [hh] at hc
      have e := mask32 (part_in false hy) hx.2.2.1
      rw [← low_part] at e hc
      rw [← low_part]
      rw [← e] at hc ⊢
      have hv := word_same hx.2.2.2
      have hc' := hc
      rw [← hv] at hc'
      have := F12.p2 x.a x.o false x.m x.v s.a0 s.a1 s.a2 s.a3 s.a4 s.a5 true (s.at x.a) _ rfl ha hget rfl (hh ▸ hr) hc'
      rw [hv] at this
      rw [Hf.row, hh]
      exact this

theorem rholds_ev (x : Hf) (s : Six) (hx : x.ok) (hs : s.ok) : EvF Try.prog prim 21 [.agg x.row, .agg s.pv] [] [] [.v (.bool (x.holds s))] [] := by
  have hr := rright_ev x
  unfold Hf.holds
  cases hm : x.may with
  | false => rw [hm] at hr; exact F21.p0 x.a x.o x.h x.m x.v s.a0 s.a1 s.a2 s.a3 s.a4 s.a5 false rfl hr
  | true =>
    rw [hm] at hr
    have ha := (may_of hm).1
    have hy := Six.at_in hs x.a
    have hget := six_at s ha
    have hc := comp_ev x.o (both (part x.h (s.at x.a)) x.m) x.v
    rw [if_pos rfl]
    cases hh : x.h with
    | true =>
      rw [hh] at hc
      have e := mask32 (part_in true hy) hx.2.2.1
      rw [← high_part hy] at e hc
      rw [← high_part hy]
      rw [← e] at hc ⊢
      have hv := word_same hx.2.2.2
      have hc' := hc
      rw [← hv] at hc'
      have := F21.p1 x.a x.o true x.m x.v s.a0 s.a1 s.a2 s.a3 s.a4 s.a5 true (s.at x.a) (s.at x.a) _ rfl ha hget rfl hget (hh ▸ hr) hc'
      rw [hv] at this
      rw [Hf.row, hh]
      exact this
    | false =>
      rw [hh] at hc
      have e := mask32 (part_in false hy) hx.2.2.1
      rw [← low_part' hy] at e hc
      rw [← low_part' hy]
      rw [← e] at hc ⊢
      have hv := word_same hx.2.2.2
      have hc' := hc
      rw [← hv] at hc'
      have := F21.p2 x.a x.o false x.m x.v s.a0 s.a1 s.a2 s.a3 s.a4 s.a5 true (s.at x.a) _ rfl ha hget rfl (hh ▸ hr) hc'
      rw [hv] at this
      rw [Hf.row, hh]
      exact this

/-! ### never, always -/

def Hf.alw (x : Hf) : Bool :=
  if x.may then (if x.o = 1 then (bif x.m == 0 then x.v == 0 else false) else if x.o = 2 then !subB x.v x.m else if x.o = 3 then decide (x.m < x.v) else if x.o = 4 then decide (x.m ≤ x.v) else if x.o = 6 then x.v == 0 else false) else false
def Hf.nev (x : Hf) : Bool :=
  if x.may then (if x.o = 1 then !subB x.v x.m else if x.o = 2 then (bif x.m == 0 then x.v == 0 else false) else if x.o = 3 then x.v == 0 else if x.o = 5 then decide (x.m ≤ x.v) else if x.o = 6 then decide (x.m < x.v) else false) else true

theorem never_ev (x : Hf) (hx : x.ok) : EvF Try.prog prim 22 [.agg x.row] [] [] [.v (.bool x.nev)] [] := by
  have hr := right_ev x
  unfold Hf.nev
  cases hm : x.may with
  | false => rw [hm] at hr; exact F22.p0 x.a x.o x.h x.m x.v false rfl hr
  | true =>
    rw [hm] at hr
    rw [if_pos rfl]
    by_cases h1 : x.o = 1
    · rw [if_pos h1, ← sub_of hx.2.2.2 hx.2.2.1]; exact F22.p1 x.a x.o x.h x.m x.v true rfl (by simpa using h1) hr
    by_cases h2 : x.o = 2
    · rw [if_neg h1, if_pos h2]; exact F22.p2 x.a x.o x.h x.m x.v true rfl (by simpa using h1) (by simpa using h2) hr
    by_cases h3 : x.o = 3
    · rw [if_neg h1, if_neg h2, if_pos h3]; exact F22.p3 x.a x.o x.h x.m x.v true rfl (by simpa using h1) (by simpa using h2) (by simpa using h3) hr
    by_cases h5 : x.o = 5
    · rw [if_neg h1, if_neg h2, if_neg h3, if_pos h5]; exact F22.p4 x.a x.o x.h x.m x.v true rfl (by simpa using h1) (by simpa using h2) (by simpa using h3) (by simpa using h5) hr
    by_cases h6 : x.o = 6
    · rw [if_neg h1, if_neg h2, if_neg h3, if_neg h5, if_pos h6]; exact F22.p5 x.a x.o x.h x.m x.v true rfl (by simpa using h1) (by simpa using h2) (by simpa using h3) (by simpa using h5) (by simpa using h6) hr
    rw [if_neg h1, if_neg h2, if_neg h3, if_neg h5, if_neg h6]
    exact F22.p6 x.a x.o x.h x.m x.v true rfl (by simpa using h1) (by simpa using h2) (by simpa using h3) (by simpa using h5) (by simpa using h6) hr

theorem always_ev (x : Hf) (hx : x.ok) : EvF Try.prog prim 24 [.agg x.row] [] [] [.v (.bool x.alw)] [] := by
  have hr := right_ev x
  unfold Hf.alw
  cases hm : x.may with
  | false => rw [hm] at hr; exact F24.p0 x.a x.o x.h x.m x.v false rfl hr
  | true =>
    rw [hm] at hr
    rw [if_pos rfl]
    by_cases h1 : x.o = 1
    · rw [if_pos h1]; exact F24.p1 x.a x.o x.h x.m x.v true rfl (by simpa using h1) hr
    by_cases h2 : x.o = 2
    · rw [if_neg h1, if_pos h2, ← sub_of hx.2.2.2 hx.2.2.1]; exact F24.p2 x.a x.o x.h x.m x.v true rfl (by simpa using h1) (by simpa using h2) hr
    by_cases h3 : x.o = 3
    · rw [if_neg h1, if_neg h2, if_pos h3]; exact F24.p3 x.a x.o x.h x.m x.v true rfl (by simpa using h1) (by simpa using h2) (by simpa using h3) hr
    by_cases h4 : x.o = 4
    · rw [if_neg h1, if_neg h2, if_neg h3, if_pos h4]; exact F24.p4 x.a x.o x.h x.m x.v true rfl (by simpa using h1) (by simpa using h2) (by simpa using h3) (by simpa using h4) hr
    by_cases h6 : x.o = 6
    · rw [if_neg h1, if_neg h2, if_neg h3, if_neg h4, if_pos h6]; exact F24.p5 x.a x.o x.h x.m x.v true rfl (by simpa using h1) (by simpa using h2) (by simpa using h3) (by simpa using h4) (by simpa using h6) hr
    rw [if_neg h1, if_neg h2, if_neg h3, if_neg h4, if_neg h6]
    exact F24.p6 x.a x.o x.h x.m x.v true rfl (by simpa using h1) (by simpa using h2) (by simpa using h3) (by simpa using h4) (by simpa using h6) hr

theorem ralways_ev (x : Hf) (hx : x.ok) : EvF Try.prog prim 25 [.agg x.row] [] [] [.v (.bool x.alw)] [] := by
  have hr := rright_ev x
  unfold Hf.alw
  cases hm : x.may with
  | false => rw [hm] at hr; exact F25.p0 x.a x.o x.h x.m x.v false rfl hr
  | true =>
    rw [hm] at hr
    rw [if_pos rfl]
    by_cases h1 : x.o = 1
    · rw [if_pos h1]; exact F25.p1 x.a x.o x.h x.m x.v true rfl (by simpa using h1) hr
    by_cases h2 : x.o = 2
    · rw [if_neg h1, if_pos h2, ← sub_of hx.2.2.2 hx.2.2.1]; exact F25.p2 x.a x.o x.h x.m x.v true rfl (by simpa using h1) (by simpa using h2) hr
    by_cases h3 : x.o = 3
    · rw [if_neg h1, if_neg h2, if_pos h3]; exact F25.p3 x.a x.o x.h x.m x.v true rfl (by simpa using h1) (by simpa using h2) (by simpa using h3) hr
    by_cases h4 : x.o = 4
    · rw [if_neg h1, if_neg h2, if_neg h3, if_pos h4]; exact F25.p4 x.a x.o x.h x.m x.v true rfl (by simpa using h1) (by simpa using h2) (by simpa using h3) (by simpa using h4) hr
    by_cases h6 : x.o = 6
    · rw [if_neg h1, if_neg h2, if_neg h3, if_neg h4, if_pos h6]; exact F25.p5 x.a x.o x.h x.m x.v true rfl (by simpa using h1) (by simpa using h2) (by simpa using h3) (by simpa using h4) (by simpa using h6) hr
    rw [if_neg h1, if_neg h2, if_neg h3, if_neg h4, if_neg h6]
    exact F25.p6 x.a x.o x.h x.m x.v true rfl (by simpa using h1) (by simpa using h2) (by simpa using h3) (by simpa using h4) (by simpa using h6) hr

def opp (o : Int) : Int := if o = 1 then 2 else if o = 2 then 1 else if o = 3 then 6 else if o = 6 then 3 else if o = 5 then 4 else 5

theorem rother_ev {o : Int} (h : 1 ≤ o ∧ o ≤ 6) : EvF Try.prog prim 39 [.v (.int .i64 o)] [] [] [.v (.int .i64 (opp o))] [] := by
  have : o = 1 ∨ o = 2 ∨ o = 3 ∨ o = 4 ∨ o = 5 ∨ o = 6 := by omega
  rcases this with rfl | rfl | rfl | rfl | rfl | rfl <;> exact F39.p0 _ _ (by omega) rfl

theorem rnever_ev (x : Hf) (hx : x.ok) : EvF Try.prog prim 23 [.agg x.row] [] [] [.v (.bool x.nev)] [] := by
  have hr := rright_ev x
  cases hm : x.may with
  | false =>
    rw [hm] at hr
    have e : x.nev = true := by simp [Hf.nev, hm]
    rw [e]
    exact F23.p0 x.a x.o x.h x.m x.v false rfl hr
  | true =>
    rw [hm] at hr
    have ho := (may_of hm).2
    have ha := (may_of hm).1
    have hop : 1 ≤ opp x.o ∧ opp x.o ≤ 6 := by unfold opp; repeat' split <;> omega
    let y : Hf := { x with o := opp x.o }
    have hy : y.ok := ⟨hx.1, in64 (by show _ ≤ opp x.o; omega) (by show opp x.o ≤ _; omega), hx.2.2.1, hx.2.2.2⟩
    have hym : y.may = true := by show mayB x.a (opp x.o) = true; rw [may_iff]; simp; omega
    have e : y.alw = x.nev := by
      have : x.o = 1 ∨ x.o = 2 ∨ x.o = 3 ∨ x.o = 4 ∨ x.o = 5 ∨ x.o = 6 := by omega
      unfold Hf.alw Hf.nev
      rw [hym, hm, if_pos rfl, if_pos rfl]
      rcases this with h | h | h | h | h | h <;> simp [y, h, opp]
    have hz := ralways_ev y hy
    rw [e] at hz
    exact F23.p1 x.a x.o x.h x.m x.v true (opp x.o) _ rfl hr (rother_ev ho) hz

end Go.Ab.S2
