/-
The document's machine: what its methods do.
-/
import Derived.Test.YtgjceiomfccbbaaMachine
import Derived.Test.YtgjceiomfccbbaaRC
namespace Go.Ab.S3
open Go Go.Proofs Go.Ab

def aluB (c : Int) : Bool := if c = 4 then true else if c = 12 then true else if c = 20 then true else if c = 28 then true else if c = 36 then true else if c = 44 then true else if c = 52 then true else if c = 60 then true else if c = 68 then true else if c = 76 then true else if c = 84 then true else if c = 92 then true else if c = 164 then true else if c = 172 then true else if c = 100 then true else if c = 108 then true else if c = 116 then true else if c = 124 then true else false
def aluV (c a b : Int) : Int := if c = 4 then IntKind.u32.wrap (a + b) else if c = 12 then IntKind.u32.wrap (a + b) else if c = 20 then IntKind.u32.wrap (a - b) else if c = 28 then IntKind.u32.wrap (a - b) else if c = 36 then IntKind.u32.wrap (a * b) else if c = 44 then IntKind.u32.wrap (a * b) else if c = 52 then IntKind.u32.wrap (Int.tdiv a b) else if c = 60 then IntKind.u32.wrap (Int.tdiv a b) else if c = 68 then IntKind.u32.wrap ((BitVec.ofInt 32 a ||| BitVec.ofInt 32 b).toNat : Int) else if c = 76 then IntKind.u32.wrap ((BitVec.ofInt 32 a ||| BitVec.ofInt 32 b).toNat : Int) else if c = 84 then IntKind.u32.wrap ((BitVec.ofInt 32 a &&& BitVec.ofInt 32 b).toNat : Int) else if c = 92 then IntKind.u32.wrap ((BitVec.ofInt 32 a &&& BitVec.ofInt 32 b).toNat : Int) else if c = 164 then IntKind.u32.wrap ((BitVec.ofInt 32 a ^^^ BitVec.ofInt 32 b).toNat : Int) else if c = 172 then IntKind.u32.wrap ((BitVec.ofInt 32 a ^^^ BitVec.ofInt 32 b).toNat : Int) else if c = 100 then IntKind.u32.wrap (a * 2 ^ (min (Int.toNat (Int.tmod b 32)) (IntKind.bits .u32))) else if c = 108 then IntKind.u32.wrap (a * 2 ^ (min (Int.toNat (Int.tmod b 32)) (IntKind.bits .u32))) else Int.fdiv a (2 ^ (min (Int.toNat (Int.tmod b 32)) (IntKind.bits .u32)))
def jumpB (c : Int) : Bool := if c = 21 then true else if c = 29 then true else if c = 37 then true else if c = 45 then true else if c = 53 then true else if c = 61 then true else if c = 69 then true else if c = 77 then true else false
def jumpV (c a b : Int) : Bool := if c = 21 then a == b else if c = 29 then a == b else if c = 37 then decide (a > b) else if c = 45 then decide (a > b) else if c = 53 then decide (a ≥ b) else if c = 61 then decide (a ≥ b) else (IntKind.u32.wrap ((BitVec.ofInt 32 a &&& BitVec.ofInt 32 b).toNat : Int)) != 0
def bit8 (c : Int) : Bool := (IntKind.i64.wrap ((BitVec.ofInt 64 c &&& BitVec.ofInt 64 8).toNat : Int)) != 0

theorem isalu_ev (c : Int) : EvF Try.prog prim 46 [.v (.int .i64 c)] [] [] [.v (.bool (aluB c))] [] := by
  unfold aluB
  by_cases h0 : c = 4
  · subst h0; exact F46.p0 4 rfl
  by_cases h1 : c = 12
  · subst h1; exact F46.p1 12 rfl rfl
  by_cases h2 : c = 20
  · subst h2; exact F46.p2 20 rfl rfl rfl
  by_cases h3 : c = 28
  · subst h3; exact F46.p3 28 rfl rfl rfl rfl
  by_cases h4 : c = 36
  · subst h4; exact F46.p4 36 rfl rfl rfl rfl rfl
  by_cases h5 : c = 44
  · subst h5; exact F46.p5 44 rfl rfl rfl rfl rfl rfl
  by_cases h6 : c = 52
  · subst h6; exact F46.p6 52 rfl rfl rfl rfl rfl rfl rfl
  by_cases h7 : c = 60
  · subst h7; exact F46.p7 60 rfl rfl rfl rfl rfl rfl rfl rfl
  by_cases h8 : c = 68
  · subst h8; exact F46.p8 68 rfl rfl rfl rfl rfl rfl rfl rfl rfl
  by_cases h9 : c = 76
  · subst h9; exact F46.p9 76 rfl rfl rfl rfl rfl rfl rfl rfl rfl rfl
  by_cases h10 : c = 84
  · subst h10; exact F46.p10 84 rfl rfl rfl rfl rfl rfl rfl rfl rfl rfl rfl
  by_cases h11 : c = 92
  · subst h11; exact F46.p11 92 rfl rfl rfl rfl rfl rfl rfl rfl rfl rfl rfl rfl
  by_cases h12 : c = 164
  · subst h12; exact F46.p12 164 rfl rfl rfl rfl rfl rfl rfl rfl rfl rfl rfl rfl rfl
  by_cases h13 : c = 172
  · subst h13; exact F46.p13 172 rfl rfl rfl rfl rfl rfl rfl rfl rfl rfl rfl rfl rfl rfl
  by_cases h14 : c = 100
  · subst h14; exact F46.p14 100 rfl rfl rfl rfl rfl rfl rfl rfl rfl rfl rfl rfl rfl rfl rfl
  by_cases h15 : c = 108
  · subst h15; exact F46.p15 108 rfl rfl rfl rfl rfl rfl rfl rfl rfl rfl rfl rfl rfl rfl rfl rfl
  by_cases h16 : c = 116
  · subst h16; exact F46.p16 116 rfl rfl rfl rfl rfl rfl rfl rfl rfl rfl rfl rfl rfl rfl rfl rfl rfl
  by_cases h17 : c = 124
  · subst h17; exact F46.p17 124 rfl rfl rfl rfl rfl rfl rfl rfl rfl rfl rfl rfl rfl rfl rfl rfl rfl rfl
  simp only [h0, h1, h2, h3, h4, h5, h6, h7, h8, h9, h10, h11, h12, h13, h14, h15, h16, h17, if_false]
  exact F46.p18 c (ne_of h0) (ne_of h1) (ne_of h2) (ne_of h3) (ne_of h4) (ne_of h5) (ne_of h6) (ne_of h7) (ne_of h8) (ne_of h9) (ne_of h10) (ne_of h11) (ne_of h12) (ne_of h13) (ne_of h14) (ne_of h15) (ne_of h16) (ne_of h17)

theorem alu_ev (c a b : Int) (hb : inR .u32 b) (hz : c = 52 ∨ c = 60 → b ≠ 0) : EvF Try.prog prim 47 [.v (.int .i64 c), .v (.int .u32 a), .v (.int .u32 b)] [] [] [.v (.int .u32 (aluV c a b))] [] := by
  unfold aluV
  by_cases h0 : c = 4
  · subst h0; exact F47.p0 4 a b rfl
  by_cases h1 : c = 12
  · subst h1; exact F47.p1 12 a b rfl rfl
  by_cases h2 : c = 20
  · subst h2; exact F47.p2 20 a b rfl rfl rfl
  by_cases h3 : c = 28
  · subst h3; exact F47.p3 28 a b rfl rfl rfl rfl
  by_cases h4 : c = 36
  · subst h4; exact F47.p4 36 a b rfl rfl rfl rfl rfl
  by_cases h5 : c = 44
  · subst h5; exact F47.p5 44 a b rfl rfl rfl rfl rfl rfl
  by_cases h6 : c = 52
  · subst h6; exact F47.p6 52 a b rfl rfl rfl rfl rfl rfl rfl (hz (.inl rfl))
  by_cases h7 : c = 60
  · subst h7; exact F47.p7 60 a b rfl rfl rfl rfl rfl rfl rfl rfl (hz (.inr rfl))
  by_cases h8 : c = 68
  · subst h8; exact F47.p8 68 a b rfl rfl rfl rfl rfl rfl rfl rfl rfl
  by_cases h9 : c = 76
  · subst h9; exact F47.p9 76 a b rfl rfl rfl rfl rfl rfl rfl rfl rfl rfl
  by_cases h10 : c = 84
  · subst h10; exact F47.p10 84 a b rfl rfl rfl rfl rfl rfl rfl rfl rfl rfl rfl
  by_cases h11 : c = 92
  · subst h11; exact F47.p11 92 a b rfl rfl rfl rfl rfl rfl rfl rfl rfl rfl rfl rfl
  by_cases h12 : c = 164
  · subst h12; exact F47.p12 164 a b rfl rfl rfl rfl rfl rfl rfl rfl rfl rfl rfl rfl rfl
  by_cases h13 : c = 172
  · subst h13; exact F47.p13 172 a b rfl rfl rfl rfl rfl rfl rfl rfl rfl rfl rfl rfl rfl rfl
  by_cases h14 : c = 100
  · subst h14; exact F47.p14 100 a b rfl rfl rfl rfl rfl rfl rfl rfl rfl rfl rfl rfl rfl rfl rfl (tmod_nn hb)
  by_cases h15 : c = 108
  · subst h15; exact F47.p15 108 a b rfl rfl rfl rfl rfl rfl rfl rfl rfl rfl rfl rfl rfl rfl rfl rfl (tmod_nn hb)
  simp only [h0, h1, h2, h3, h4, h5, h6, h7, h8, h9, h10, h11, h12, h13, h14, h15, if_false]
  exact F47.p16 c a b (ne_of h0) (ne_of h1) (ne_of h2) (ne_of h3) (ne_of h4) (ne_of h5) (ne_of h6) (ne_of h7) (ne_of h8) (ne_of h9) (ne_of h10) (ne_of h11) (ne_of h12) (ne_of h13) (ne_of h14) (ne_of h15) (tmod_nn hb)

theorem isjump_ev (c : Int) : EvF Try.prog prim 35 [.v (.int .i64 c)] [] [] [.v (.bool (jumpB c))] [] := by
  unfold jumpB
  by_cases h0 : c = 21
  · subst h0; exact F35.p0 21 rfl
  by_cases h1 : c = 29
  · subst h1; exact F35.p1 29 rfl rfl
  by_cases h2 : c = 37
  · subst h2; exact F35.p2 37 rfl rfl rfl
  by_cases h3 : c = 45
  · subst h3; exact F35.p3 45 rfl rfl rfl rfl
  by_cases h4 : c = 53
  · subst h4; exact F35.p4 53 rfl rfl rfl rfl rfl
  by_cases h5 : c = 61
  · subst h5; exact F35.p5 61 rfl rfl rfl rfl rfl rfl
  by_cases h6 : c = 69
  · subst h6; exact F35.p6 69 rfl rfl rfl rfl rfl rfl rfl
  by_cases h7 : c = 77
  · subst h7; exact F35.p7 77 rfl rfl rfl rfl rfl rfl rfl rfl
  simp only [h0, h1, h2, h3, h4, h5, h6, h7, if_false]
  exact F35.p8 c (ne_of h0) (ne_of h1) (ne_of h2) (ne_of h3) (ne_of h4) (ne_of h5) (ne_of h6) (ne_of h7)

theorem jumps_ev (c a b : Int) : EvF Try.prog prim 36 [.v (.int .i64 c), .v (.int .u32 a), .v (.int .u32 b)] [] [] [.v (.bool (jumpV c a b))] [] := by
  unfold jumpV
  by_cases h0 : c = 21
  · subst h0; exact F36.p0 21 a b rfl
  by_cases h1 : c = 29
  · subst h1; exact F36.p1 29 a b rfl rfl
  by_cases h2 : c = 37
  · subst h2; exact F36.p2 37 a b rfl rfl rfl
  by_cases h3 : c = 45
  · subst h3; exact F36.p3 45 a b rfl rfl rfl rfl
  by_cases h4 : c = 53
  · subst h4; exact F36.p4 53 a b rfl rfl rfl rfl rfl
  by_cases h5 : c = 61
  · subst h5; exact F36.p5 61 a b rfl rfl rfl rfl rfl rfl
  simp only [h0, h1, h2, h3, h4, h5, if_false]
  exact F36.p6 c a b (ne_of h0) (ne_of h1) (ne_of h2) (ne_of h3) (ne_of h4) (ne_of h5)

def Ms.rbox (s : Ms) : List AV := RB s.a s.x (s.c 0) (s.c 1) (s.c 2) (s.c 3) (s.c 4) (s.c 5) (s.c 6) (s.c 7) (s.c 8) (s.c 9) (s.c 10) (s.c 11) (s.c 12) (s.c 13) (s.c 14) (s.c 15)

theorem rcell_at (s : Ms) {k : Int} (h : 0 ≤ k ∧ k < (16 : Nat)) : (s.rbox)[(2 + Int.toNat k * 1)]? = some (.v (.int .u32 (s.c k.toNat))) := by
  obtain ⟨n, rfl⟩ := Int.eq_ofNat_of_zero_le h.1
  have : n < 16 := by omega
  match n, this with
  | 0, _ => rfl
  | 1, _ => rfl
  | 2, _ => rfl
  | 3, _ => rfl
  | 4, _ => rfl
  | 5, _ => rfl
  | 6, _ => rfl
  | 7, _ => rfl
  | 8, _ => rfl
  | 9, _ => rfl
  | 10, _ => rfl
  | 11, _ => rfl
  | 12, _ => rfl
  | 13, _ => rfl
  | 14, _ => rfl
  | 15, _ => rfl

theorem rcell_put (s : Ms) {k : Int} (h : 0 ≤ k ∧ k < (16 : Nat)) (v : Int) : storeIn Try.prog 22 s.rbox (2 + Int.toNat k * 1) (.v (.int .u32 v)) = some ({ s with c := upd s.c k.toNat v }.rbox) := by
  obtain ⟨n, rfl⟩ := Int.eq_ofNat_of_zero_le h.1
  have : n < 16 := by omega
  match n, this with
  | 0, _ => rfl
  | 1, _ => rfl
  | 2, _ => rfl
  | 3, _ => rfl
  | 4, _ => rfl
  | 5, _ => rfl
  | 6, _ => rfl
  | 7, _ => rfl
  | 8, _ => rfl
  | 9, _ => rfl
  | 10, _ => rfl
  | 11, _ => rfl
  | 12, _ => rfl
  | 13, _ => rfl
  | 14, _ => rfl
  | 15, _ => rfl

def withF (s : Ms) (c k : Int) : Int := if bit8 c then s.x else k

theorem with_ev (s : Ms) (c k : Int) (H : List (List AV)) (b : Nat) (hH : H[b]? = some s.rbox) : EvF Try.prog prim 37 [.optr b 0, .v (.int .i64 c), .v (.int .u32 k)] [] H [.v (.int .u32 (withF s c k))] H := by
  unfold withF
  cases hb : bit8 c with
  | true => rw [if_pos rfl]; exact F37.p0 b s.a s.x (s.c 0) (s.c 1) (s.c 2) (s.c 3) (s.c 4) (s.c 5) (s.c 6) (s.c 7) (s.c 8) (s.c 9) (s.c 10) (s.c 11) (s.c 12) (s.c 13) (s.c 14) (s.c 15) H c k hb hH
  | false => rw [if_neg (by simp)]; exact F37.p1 b H c k hb

def reckF (s : Ms) (c k : Int) : Bool × Bool × Ms :=
  if (bif (bif (c == 52) then true else (c == 60)) then (withF s c k == 0) else false) then (false, (c == 60), s) else (true, false, { s with a := aluV c s.a (withF s c k) })

def refF (s : Ms) (c k : Int) (d : Da) : Bool × Bool × Ms :=
  if aluB c then reckF s c k else if c = 0 then (true, false, { s with a := k }) else if c = 1 then (true, false, { s with x := k }) else if c = 128 then (true, false, { s with a := 64 }) else if c = 129 then (true, false, { s with x := 64 }) else if c = 132 then (true, false, { s with a := IntKind.u32.wrap (0 - s.a) }) else if c = 7 then (true, false, { s with x := s.a }) else if c = 135 then (true, false, { s with a := s.x }) else if c = 32 then (Da.hasWord k, false, { s with a := d.word k }) else if c = 2 then (if k ≥ 16 then (false, false, s) else (true, false, { s with c := upd s.c k.toNat s.a })) else if c = 3 then (if k ≥ 16 then (false, false, s) else (true, false, { s with c := upd s.c k.toNat s.x })) else if c = 96 then (if k ≥ 16 then (false, false, s) else (true, false, { s with a := s.c k.toNat })) else if c = 97 then (if k ≥ 16 then (false, false, s) else (true, false, { s with x := s.c k.toNat })) else (false, false, s)

theorem plain_ev (s : Ms) (hx : inR .u32 s.x) (d : Da) (hd : d.ok) (c k : Int) (hk : inR .u32 k) (H : List (List AV)) (b : Nat) (hH : H[b]? = some s.rbox) :
    EvF Try.prog prim 38 [.optr b 0, .v (.int .i64 c), .v (.int .u32 k), .agg d.row] [] H [.v (.bool (refF s c k d).1), .v (.bool (refF s c k d).2.1)] (H.set b (refF s c k d).2.2.rbox) := by
  have hi := isalu_ev c
  unfold refF
  cases ha : aluB c with
  | true =>
    rw [if_pos rfl]
    rw [ha] at hi
    unfold reckF
    have hw : ∀ z, (bif (bif (c == 52) then true else (c == 60)) then (z == 0) else false) = false → (c = 52 ∨ c = 60 → z ≠ (0 : Int)) := by
      intro z h hc h0
      subst h0
      rcases hc with rfl | rfl <;> simp at h
    cases h8 : bit8 c with
    | true =>
      have e : withF s c k = s.x := by simp [withF, h8]
      rw [e]
      cases hz : (bif (bif (c == 52) then true else (c == 60)) then (s.x == 0) else false) with
      | true => rw [if_pos rfl, set_same hH]; exact F38.p0 b s.a s.x (s.c 0) (s.c 1) (s.c 2) (s.c 3) (s.c 4) (s.c 5) (s.c 6) (s.c 7) (s.c 8) (s.c 9) (s.c 10) (s.c 11) (s.c 12) (s.c 13) (s.c 14) (s.c 15) H c k d.nr d.arch d.ip d.a0 d.a1 d.a2 d.a3 d.a4 d.a5 true rfl h8 hH hz hi
      | false => rw [if_neg (by simp)]; exact F38.p1 b s.a s.x (s.c 0) (s.c 1) (s.c 2) (s.c 3) (s.c 4) (s.c 5) (s.c 6) (s.c 7) (s.c 8) (s.c 9) (s.c 10) (s.c 11) (s.c 12) (s.c 13) (s.c 14) (s.c 15) H c k d.nr d.arch d.ip d.a0 d.a1 d.a2 d.a3 d.a4 d.a5 true _ rfl h8 hH hz hi (alu_ev c s.a s.x hx (hw _ hz))
    | false =>
      have e : withF s c k = k := by simp [withF, h8]
      rw [e]
      cases hz : (bif (bif (c == 52) then true else (c == 60)) then (k == 0) else false) with
      | true => rw [if_pos rfl, set_same hH]; exact F38.p2 b H c k d.nr d.arch d.ip d.a0 d.a1 d.a2 d.a3 d.a4 d.a5 true rfl h8 hz hi
      | false => rw [if_neg (by simp)]; exact F38.p3 b s.a s.x (s.c 0) (s.c 1) (s.c 2) (s.c 3) (s.c 4) (s.c 5) (s.c 6) (s.c 7) (s.c 8) (s.c 9) (s.c 10) (s.c 11) (s.c 12) (s.c 13) (s.c 14) (s.c 15) H c k d.nr d.arch d.ip d.a0 d.a1 d.a2 d.a3 d.a4 d.a5 true _ rfl h8 hz hH hi (alu_ev c s.a k hk (hw _ hz))
  | false =>
    rw [if_neg (by simp)]
    rw [ha] at hi
    have h0 := (ofW hk).1
    by_cases h_0 : c = 0
    · rw [if_pos h_0]; exact F38.p4 b s.a s.x (s.c 0) (s.c 1) (s.c 2) (s.c 3) (s.c 4) (s.c 5) (s.c 6) (s.c 7) (s.c 8) (s.c 9) (s.c 10) (s.c 11) (s.c 12) (s.c 13) (s.c 14) (s.c 15) H c k d.nr d.arch d.ip d.a0 d.a1 d.a2 d.a3 d.a4 d.a5 false rfl  (eq_of h_0) hH hi
    by_cases h_1 : c = 1
    · rw [if_neg h_0, if_pos h_1]; exact F38.p5 b s.a s.x (s.c 0) (s.c 1) (s.c 2) (s.c 3) (s.c 4) (s.c 5) (s.c 6) (s.c 7) (s.c 8) (s.c 9) (s.c 10) (s.c 11) (s.c 12) (s.c 13) (s.c 14) (s.c 15) H c k d.nr d.arch d.ip d.a0 d.a1 d.a2 d.a3 d.a4 d.a5 false rfl (ne_of h_0) (eq_of h_1) hH hi
    by_cases h_128 : c = 128
    · rw [if_neg h_0, if_neg h_1, if_pos h_128]; exact F38.p6 b s.a s.x (s.c 0) (s.c 1) (s.c 2) (s.c 3) (s.c 4) (s.c 5) (s.c 6) (s.c 7) (s.c 8) (s.c 9) (s.c 10) (s.c 11) (s.c 12) (s.c 13) (s.c 14) (s.c 15) H c k d.nr d.arch d.ip d.a0 d.a1 d.a2 d.a3 d.a4 d.a5 false rfl (ne_of h_0) (ne_of h_1) (eq_of h_128) hH hi
    by_cases h_129 : c = 129
    · rw [if_neg h_0, if_neg h_1, if_neg h_128, if_pos h_129]; exact F38.p7 b s.a s.x (s.c 0) (s.c 1) (s.c 2) (s.c 3) (s.c 4) (s.c 5) (s.c 6) (s.c 7) (s.c 8) (s.c 9) (s.c 10) (s.c 11) (s.c 12) (s.c 13) (s.c 14) (s.c 15) H c k d.nr d.arch d.ip d.a0 d.a1 d.a2 d.a3 d.a4 d.a5 false rfl (ne_of h_0) (ne_of h_1) (ne_of h_128) (eq_of h_129) hH hi
    by_cases h_132 : c = 132
    · rw [if_neg h_0, if_neg h_1, if_neg h_128, if_neg h_129, if_pos h_132]; exact F38.p8 b s.a s.x (s.c 0) (s.c 1) (s.c 2) (s.c 3) (s.c 4) (s.c 5) (s.c 6) (s.c 7) (s.c 8) (s.c 9) (s.c 10) (s.c 11) (s.c 12) (s.c 13) (s.c 14) (s.c 15) H c k d.nr d.arch d.ip d.a0 d.a1 d.a2 d.a3 d.a4 d.a5 false rfl (ne_of h_0) (ne_of h_1) (ne_of h_128) (ne_of h_129) (eq_of h_132) hH hi
    by_cases h_7 : c = 7
    · rw [if_neg h_0, if_neg h_1, if_neg h_128, if_neg h_129, if_neg h_132, if_pos h_7]; exact F38.p9 b s.a s.x (s.c 0) (s.c 1) (s.c 2) (s.c 3) (s.c 4) (s.c 5) (s.c 6) (s.c 7) (s.c 8) (s.c 9) (s.c 10) (s.c 11) (s.c 12) (s.c 13) (s.c 14) (s.c 15) H c k d.nr d.arch d.ip d.a0 d.a1 d.a2 d.a3 d.a4 d.a5 false rfl (ne_of h_0) (ne_of h_1) (ne_of h_128) (ne_of h_129) (ne_of h_132) (eq_of h_7) hH hi
    by_cases h_135 : c = 135
    · rw [if_neg h_0, if_neg h_1, if_neg h_128, if_neg h_129, if_neg h_132, if_neg h_7, if_pos h_135]; exact F38.p10 b s.a s.x (s.c 0) (s.c 1) (s.c 2) (s.c 3) (s.c 4) (s.c 5) (s.c 6) (s.c 7) (s.c 8) (s.c 9) (s.c 10) (s.c 11) (s.c 12) (s.c 13) (s.c 14) (s.c 15) H c k d.nr d.arch d.ip d.a0 d.a1 d.a2 d.a3 d.a4 d.a5 false rfl (ne_of h_0) (ne_of h_1) (ne_of h_128) (ne_of h_129) (ne_of h_132) (ne_of h_7) (eq_of h_135) hH hi
    by_cases h_32 : c = 32
    · rw [if_neg h_0, if_neg h_1, if_neg h_128, if_neg h_129, if_neg h_132, if_neg h_7, if_neg h_135, if_pos h_32]; exact F38.p11 b s.a s.x (s.c 0) (s.c 1) (s.c 2) (s.c 3) (s.c 4) (s.c 5) (s.c 6) (s.c 7) (s.c 8) (s.c 9) (s.c 10) (s.c 11) (s.c 12) (s.c 13) (s.c 14) (s.c 15) H c k d.nr d.arch d.ip d.a0 d.a1 d.a2 d.a3 d.a4 d.a5 false _ _ rfl (ne_of h_0) (ne_of h_1) (ne_of h_128) (ne_of h_129) (ne_of h_132) (ne_of h_7) (ne_of h_135) (eq_of h_32) hH hi (rword_ev d hd hk)
    by_cases h_2 : c = 2
    · rw [if_neg h_0, if_neg h_1, if_neg h_128, if_neg h_129, if_neg h_132, if_neg h_7, if_neg h_135, if_neg h_32, if_pos h_2]
      by_cases h16 : k ≥ 16
      · rw [if_pos h16, set_same hH]; exact F38.p12 b H c k d.nr d.arch d.ip d.a0 d.a1 d.a2 d.a3 d.a4 d.a5 false rfl (ne_of h_0) (ne_of h_1) (ne_of h_128) (ne_of h_129) (ne_of h_132) (ne_of h_7) (ne_of h_135) (ne_of h_32) (eq_of h_2) (by simpa using h16) hi
      · have hr : 0 ≤ k ∧ k < (16 : Nat) := ⟨h0, by omega⟩
        rw [if_neg h16]; exact F38.p13 b s.a s.x (s.c 0) (s.c 1) (s.c 2) (s.c 3) (s.c 4) (s.c 5) (s.c 6) (s.c 7) (s.c 8) (s.c 9) (s.c 10) (s.c 11) (s.c 12) (s.c 13) (s.c 14) (s.c 15) H c k d.nr d.arch d.ip d.a0 d.a1 d.a2 d.a3 d.a4 d.a5 false _ _ _ _ _ _ _ _ _ _ _ _ _ _ _ _ _ _ rfl (ne_of h_0) (ne_of h_1) (ne_of h_128) (ne_of h_129) (ne_of h_132) (ne_of h_7) (ne_of h_135) (ne_of h_32) (eq_of h_2) (by simpa using h16) hH hr (rcell_put s hr s.a) hi
    by_cases h_3 : c = 3
    · rw [if_neg h_0, if_neg h_1, if_neg h_128, if_neg h_129, if_neg h_132, if_neg h_7, if_neg h_135, if_neg h_32, if_neg h_2, if_pos h_3]
      by_cases h16 : k ≥ 16
      · rw [if_pos h16, set_same hH]; exact F38.p14 b H c k d.nr d.arch d.ip d.a0 d.a1 d.a2 d.a3 d.a4 d.a5 false rfl (ne_of h_0) (ne_of h_1) (ne_of h_128) (ne_of h_129) (ne_of h_132) (ne_of h_7) (ne_of h_135) (ne_of h_32) (ne_of h_2) (eq_of h_3) (by simpa using h16) hi
      · have hr : 0 ≤ k ∧ k < (16 : Nat) := ⟨h0, by omega⟩
        rw [if_neg h16]; exact F38.p15 b s.a s.x (s.c 0) (s.c 1) (s.c 2) (s.c 3) (s.c 4) (s.c 5) (s.c 6) (s.c 7) (s.c 8) (s.c 9) (s.c 10) (s.c 11) (s.c 12) (s.c 13) (s.c 14) (s.c 15) H c k d.nr d.arch d.ip d.a0 d.a1 d.a2 d.a3 d.a4 d.a5 false _ _ _ _ _ _ _ _ _ _ _ _ _ _ _ _ _ _ rfl (ne_of h_0) (ne_of h_1) (ne_of h_128) (ne_of h_129) (ne_of h_132) (ne_of h_7) (ne_of h_135) (ne_of h_32) (ne_of h_2) (eq_of h_3) (by simpa using h16) hH hr (rcell_put s hr s.x) hi
    by_cases h_96 : c = 96
    · rw [if_neg h_0, if_neg h_1, if_neg h_128, if_neg h_129, if_neg h_132, if_neg h_7, if_neg h_135, if_neg h_32, if_neg h_2, if_neg h_3, if_pos h_96]
      by_cases h16 : k ≥ 16
      · rw [if_pos h16, set_same hH]; exact F38.p16 b H c k d.nr d.arch d.ip d.a0 d.a1 d.a2 d.a3 d.a4 d.a5 false rfl (ne_of h_0) (ne_of h_1) (ne_of h_128) (ne_of h_129) (ne_of h_132) (ne_of h_7) (ne_of h_135) (ne_of h_32) (ne_of h_2) (ne_of h_3) (eq_of h_96) (by simpa using h16) hi
      · have hr : 0 ≤ k ∧ k < (16 : Nat) := ⟨h0, by omega⟩
        rw [if_neg h16]; exact F38.p17 b s.a s.x (s.c 0) (s.c 1) (s.c 2) (s.c 3) (s.c 4) (s.c 5) (s.c 6) (s.c 7) (s.c 8) (s.c 9) (s.c 10) (s.c 11) (s.c 12) (s.c 13) (s.c 14) (s.c 15) H c k d.nr d.arch d.ip d.a0 d.a1 d.a2 d.a3 d.a4 d.a5 false _ rfl (ne_of h_0) (ne_of h_1) (ne_of h_128) (ne_of h_129) (ne_of h_132) (ne_of h_7) (ne_of h_135) (ne_of h_32) (ne_of h_2) (ne_of h_3) (eq_of h_96) (by simpa using h16) hr hH (rcell_at s hr) hi
    by_cases h_97 : c = 97
    · rw [if_neg h_0, if_neg h_1, if_neg h_128, if_neg h_129, if_neg h_132, if_neg h_7, if_neg h_135, if_neg h_32, if_neg h_2, if_neg h_3, if_neg h_96, if_pos h_97]
      by_cases h16 : k ≥ 16
      · rw [if_pos h16, set_same hH]; exact F38.p18 b H c k d.nr d.arch d.ip d.a0 d.a1 d.a2 d.a3 d.a4 d.a5 false rfl (ne_of h_0) (ne_of h_1) (ne_of h_128) (ne_of h_129) (ne_of h_132) (ne_of h_7) (ne_of h_135) (ne_of h_32) (ne_of h_2) (ne_of h_3) (ne_of h_96) (eq_of h_97) (by simpa using h16) hi
      · have hr : 0 ≤ k ∧ k < (16 : Nat) := ⟨h0, by omega⟩
        rw [if_neg h16]; exact F38.p19 b s.a s.x (s.c 0) (s.c 1) (s.c 2) (s.c 3) (s.c 4) (s.c 5) (s.c 6) (s.c 7) (s.c 8) (s.c 9) (s.c 10) (s.c 11) (s.c 12) (s.c 13) (s.c 14) (s.c 15) H c k d.nr d.arch d.ip d.a0 d.a1 d.a2 d.a3 d.a4 d.a5 false _ rfl (ne_of h_0) (ne_of h_1) (ne_of h_128) (ne_of h_129) (ne_of h_132) (ne_of h_7) (ne_of h_135) (ne_of h_32) (ne_of h_2) (ne_of h_3) (ne_of h_96) (eq_of h_97) (by simpa using h16) hr hH (rcell_at s hr) hi
    rw [if_neg h_0, if_neg h_1, if_neg h_128, if_neg h_129, if_neg h_132, if_neg h_7, if_neg h_135, if_neg h_32, if_neg h_2, if_neg h_3, if_neg h_96, if_neg h_97, set_same hH]
    exact F38.p20 b H c k d.nr d.arch d.ip d.a0 d.a1 d.a2 d.a3 d.a4 d.a5 false rfl (ne_of h_0) (ne_of h_1) (ne_of h_128) (ne_of h_129) (ne_of h_132) (ne_of h_7) (ne_of h_135) (ne_of h_32) (ne_of h_2) (ne_of h_3) (ne_of h_96) (ne_of h_97) hi

end Go.Ab.S3
