/-
The machine: what its methods do.
-/
import Derived.Test.YtgjceiomfccbbaaRecordLaw
import Derived.Test.YtgjceiomfccbbaaRB
namespace Go.Ab.S3
open Go Go.Proofs Go.Ab

structure Ms where
  a : Int
  x : Int
  c : Nat → Int
  pc : Int

def Ms.box (s : Ms) (d : Da) : List AV := MB s.a s.x (s.c 0) (s.c 1) (s.c 2) (s.c 3) (s.c 4) (s.c 5) (s.c 6) (s.c 7) (s.c 8) (s.c 9) (s.c 10) (s.c 11) (s.c 12) (s.c 13) (s.c 14) (s.c 15) s.pc d.nr d.arch d.ip d.a0 d.a1 d.a2 d.a3 d.a4 d.a5

structure In where
  code : Int
  jt : Int
  jf : Int
  k : Int

def In.row (q : In) : List PV := [.int .i64 q.code, .int .i64 q.jt, .int .i64 q.jf, .int .u32 q.k]
def In.box (q : In) : List AV := [.v (.int .i64 q.code), .v (.int .i64 q.jt), .v (.int .i64 q.jf), .v (.int .u32 q.k)]
def In.ok (q : In) : Prop := inR .i64 q.code ∧ inR .i64 q.jt ∧ inR .i64 q.jf ∧ inR .u32 q.k

theorem ne_of {a b : Int} (h : ¬ a = b) : (a == b) = false := by simpa using h
theorem eq_of {a b : Int} (h : a = b) : (a == b) = true := by simpa using h

theorem set_same {α : Type} {H : List α} {b : Nat} {x : α} (h : H[b]? = some x) : H.set b x = H := by
  apply List.ext_getElem?
  intro i
  by_cases hi : b = i
  · subst hi
    rw [List.getElem?_set_self (List.getElem?_eq_some_iff.1 h).1, h]
  · rw [List.getElem?_set_ne hi]

theorem get_set {α : Type} {H : List α} {b : Nat} {x y : α} (h : H[b]? = some x) : (H.set b y)[b]? = some y := List.getElem?_set_self (List.getElem?_eq_some_iff.1 h).1

theorem get_app {α : Type} {H Z : List α} {b : Nat} {x : α} (h : H[b]? = some x) : (H ++ Z)[b]? = some x := by
  rw [List.getElem?_append_left (List.getElem?_eq_some_iff.1 h).1]; exact h

theorem set_app {α : Type} {H Z : List α} {b : Nat} {x y : α} (h : H[b]? = some x) : (H ++ Z).set b y = H.set b y ++ Z := List.set_append_left _ _ (List.getElem?_eq_some_iff.1 h).1

/-! ### what is reckoned -/

def mathV (code a k : Int) : Int :=
  if code = 4 then IntKind.u32.wrap (a + k) else if code = 20 then IntKind.u32.wrap (a - k) else if code = 36 then IntKind.u32.wrap (a * k) else if code = 52 then (if k = 0 then 0 else IntKind.u32.wrap (Int.tdiv a k))
  else if code = 68 then IntKind.u32.wrap ((BitVec.ofInt 32 a ||| BitVec.ofInt 32 k).toNat : Int) else if code = 84 then IntKind.u32.wrap ((BitVec.ofInt 32 a &&& BitVec.ofInt 32 k).toNat : Int)
  else if code = 164 then IntKind.u32.wrap ((BitVec.ofInt 32 a ^^^ BitVec.ofInt 32 k).toNat : Int) else if code = 100 then IntKind.u32.wrap (a * 2 ^ (min (Int.toNat (Int.tmod k 32)) (IntKind.bits .u32)))
  else if code = 116 then Int.fdiv a (2 ^ (min (Int.toNat (Int.tmod k 32)) (IntKind.bits .u32))) else 0
def mathB (code k : Int) : Bool :=
  if code = 4 then true else if code = 20 then true else if code = 36 then true else if code = 52 then (if k = 0 then false else true) else if code = 68 then true else if code = 84 then true else if code = 164 then true else if code = 100 then true else if code = 116 then true else false

theorem tmod_nn {k : Int} (h : inR .u32 k) : (0 : Int) ≤ Int.tmod k 32 := Int.tmod_nonneg _ (ofW h).1

theorem math_ev (code a k : Int) (hk : inR .u32 k) : EvF Try.prog prim 43 [.v (.int .i64 code), .v (.int .u32 a), .v (.int .u32 k)] [] [] [.v (.int .u32 (mathV code a k)), .v (.bool (mathB code k))] [] := by
  unfold mathV mathB
  by_cases h0 : code = 4
  · subst h0; exact F43.p0 4 a k rfl
  by_cases h1 : code = 20
  · subst h1; exact F43.p1 20 a k rfl rfl
  by_cases h2 : code = 36
  · subst h2; exact F43.p2 36 a k rfl rfl rfl
  by_cases h3 : code = 52
  · subst h3
    by_cases hz : k = 0
    · subst hz; exact F43.p3 52 a 0 rfl rfl rfl rfl rfl
    · rw [if_neg (by decide), if_neg (by decide), if_neg (by decide), if_pos rfl, if_neg hz, if_neg (by decide), if_neg (by decide), if_neg (by decide), if_pos rfl, if_neg hz]
      exact F43.p4 52 a k rfl rfl rfl rfl (ne_of hz) hz
  by_cases h4 : code = 68
  · subst h4; exact F43.p5 68 a k rfl rfl rfl rfl rfl
  by_cases h5 : code = 84
  · subst h5; exact F43.p6 84 a k rfl rfl rfl rfl rfl rfl
  by_cases h6 : code = 164
  · subst h6; exact F43.p7 164 a k rfl rfl rfl rfl rfl rfl rfl
  by_cases h7 : code = 100
  · subst h7; exact F43.p8 100 a k rfl rfl rfl rfl rfl rfl rfl rfl (tmod_nn hk)
  by_cases h8 : code = 116
  · subst h8; exact F43.p9 116 a k rfl rfl rfl rfl rfl rfl rfl rfl rfl (tmod_nn hk)
  simp only [h0, h1, h2, h3, h4, h5, h6, h7, h8, if_false]
  exact F43.p10 code a k (ne_of h0) (ne_of h1) (ne_of h2) (ne_of h3) (ne_of h4) (ne_of h5) (ne_of h6) (ne_of h7) (ne_of h8)

def tellsV (code a k : Int) : Bool :=
  if code = 21 then a == k else if code = 37 then decide (a > k) else if code = 53 then decide (a ≥ k) else if code = 69 then IntKind.u32.wrap ((BitVec.ofInt 32 a &&& BitVec.ofInt 32 k).toNat : Int) != 0 else false
def tellsB (code : Int) : Bool := if code = 21 then true else if code = 37 then true else if code = 53 then true else if code = 69 then true else false

theorem tells_ev (code a k : Int) : EvF Try.prog prim 44 [.v (.int .i64 code), .v (.int .u32 a), .v (.int .u32 k)] [] [] [.v (.bool (tellsV code a k)), .v (.bool (tellsB code))] [] := by
  unfold tellsV tellsB
  by_cases h0 : code = 21
  · subst h0; exact F44.p0 21 a k rfl
  by_cases h1 : code = 37
  · subst h1; exact F44.p1 37 a k rfl rfl
  by_cases h2 : code = 53
  · subst h2; exact F44.p2 53 a k rfl rfl rfl
  by_cases h3 : code = 69
  · subst h3; exact F44.p3 69 a k rfl rfl rfl rfl
  simp only [h0, h1, h2, h3, if_false]
  exact F44.p4 code a k (ne_of h0) (ne_of h1) (ne_of h2) (ne_of h3)

/-! ### cells -/

def upd (c : Nat → Int) (k : Nat) (v : Int) : Nat → Int := fun j => if j = k then v else c j

theorem cell_at (s : Ms) (d : Da) {k : Int} (h : 0 ≤ k ∧ k < (16 : Nat)) : (s.box d)[(2 + Int.toNat k * 1)]? = some (.v (.int .u32 (s.c k.toNat))) := by
  obtain ⟨n, rfl⟩ := Int.eq_ofNat_of_zero_le h.1
  have : n < 16 := by omega
  match n, this with
  | 0, _ => rfl
  | 1, _ => rfl
  | 2, _ => rfl
  | 3, _ => rfl
  | 4, _ => rfl
  | 5, _ => rfl
  | 6, _ => rfl
  | 7, _ => rfl
  | 8, _ => rfl
  | 9, _ => rfl
  | 10, _ => rfl
  | 11, _ => rfl
  | 12, _ => rfl
  | 13, _ => rfl
  | 14, _ => rfl
  | 15, _ => rfl

theorem cell_put (s : Ms) (d : Da) {k : Int} (h : 0 ≤ k ∧ k < (16 : Nat)) (v : Int) : storeIn Try.prog 22 (s.box d) (2 + Int.toNat k * 1) (.v (.int .u32 v)) = some ({ s with c := upd s.c k.toNat v }.box d) := by
  obtain ⟨n, rfl⟩ := Int.eq_ofNat_of_zero_le h.1
  have : n < 16 := by omega
  match n, this with
  | 0, _ => rfl
  | 1, _ => rfl
  | 2, _ => rfl
  | 3, _ => rfl
  | 4, _ => rfl
  | 5, _ => rfl
  | 6, _ => rfl
  | 7, _ => rfl
  | 8, _ => rfl
  | 9, _ => rfl
  | 10, _ => rfl
  | 11, _ => rfl
  | 12, _ => rfl
  | 13, _ => rfl
  | 14, _ => rfl
  | 15, _ => rfl

def cellF (s : Ms) (q : In) : Bool × Ms :=
  if q.k ≥ 16 then (false, s) else if q.code = 96 then (true, { s with a := s.c q.k.toNat }) else if q.code = 97 then (true, { s with x := s.c q.k.toNat }) else if q.code = 2 then (true, { s with c := upd s.c q.k.toNat s.a }) else (true, { s with c := upd s.c q.k.toNat s.x })

theorem cell_ev (s : Ms) (d : Da) (q : In) (hq : q.ok) (H : List (List AV)) (b : Nat) (hH : H[b]? = some (s.box d)) :
    EvF Try.prog prim 54 [.optr b 0, .agg q.row] [] H [.v (.bool (cellF s q).1)] (H.set b ((cellF s q).2.box d)) := by
  have h0 := (ofW hq.2.2.2).1
  unfold cellF
  by_cases hk : q.k ≥ 16
  · rw [if_pos hk, set_same hH]
    exact F54.p0 b H q.code q.jt q.jf q.k (by simpa using hk)
  have hk' : (decide (q.k ≥ 16)) = false := by simpa using hk
  have hr : 0 ≤ q.k ∧ q.k < (16 : Nat) := ⟨h0, by omega⟩
  have hget := cell_at s d hr
  rw [if_neg hk]
  by_cases h1 : q.code = 96
  · rw [if_pos h1]
    exact F54.p1 b s.a s.x (s.c 0) (s.c 1) (s.c 2) (s.c 3) (s.c 4) (s.c 5) (s.c 6) (s.c 7) (s.c 8) (s.c 9) (s.c 10) (s.c 11) (s.c 12) (s.c 13) (s.c 14) (s.c 15) s.pc d.nr d.arch d.ip d.a0 d.a1 d.a2 d.a3 d.a4 d.a5 H q.code q.jt q.jf q.k _ hk' (eq_of h1) hr hH hget
  by_cases h2 : q.code = 97
  · rw [if_neg h1, if_pos h2]
    exact F54.p2 b s.a s.x (s.c 0) (s.c 1) (s.c 2) (s.c 3) (s.c 4) (s.c 5) (s.c 6) (s.c 7) (s.c 8) (s.c 9) (s.c 10) (s.c 11) (s.c 12) (s.c 13) (s.c 14) (s.c 15) s.pc d.nr d.arch d.ip d.a0 d.a1 d.a2 d.a3 d.a4 d.a5 H q.code q.jt q.jf q.k _ hk' (ne_of h1) (eq_of h2) hr hH hget
  by_cases h3 : q.code = 2
  · rw [if_neg h1, if_neg h2, if_pos h3]
    exact F54.p3 b s.a s.x (s.c 0) (s.c 1) (s.c 2) (s.c 3) (s.c 4) (s.c 5) (s.c 6) (s.c 7) (s.c 8) (s.c 9) (s.c 10) (s.c 11) (s.c 12) (s.c 13) (s.c 14) (s.c 15) s.pc d.nr d.arch d.ip d.a0 d.a1 d.a2 d.a3 d.a4 d.a5 H q.code q.jt q.jf q.k _ _ _ _ _ _ _ _ _ _ _ _ _ _ _ _ _ _ _ _ hk' (ne_of h1) (ne_of h2) (eq_of h3) hH hr (cell_put s d hr s.a)
  · rw [if_neg h1, if_neg h2, if_neg h3]
    exact F54.p4 b s.a s.x (s.c 0) (s.c 1) (s.c 2) (s.c 3) (s.c 4) (s.c 5) (s.c 6) (s.c 7) (s.c 8) (s.c 9) (s.c 10) (s.c 11) (s.c 12) (s.c 13) (s.c 14) (s.c 15) s.pc d.nr d.arch d.ip d.a0 d.a1 d.a2 d.a3 d.a4 d.a5 H q.code q.jt q.jf q.k _ _ _ _ _ _ _ _ _ _ _ _ _ _ _ _ _ _ _ _ hk' (ne_of h1) (ne_of h2) (ne_of h3) hH hr (cell_put s d hr s.x)

/-! ### loads -/

def isCell (code : Int) : Bool := bif (bif (bif (code == 96) then true else (code == 97)) then true else (code == 2)) then true else (code == 3)

def loadF (s : Ms) (q : In) (d : Da) : Bool × Ms :=
  if isCell q.code then cellF s q else if q.code = 0 then (true, { s with a := q.k }) else if q.code = 1 then (true, { s with x := q.k }) else if q.code = 128 then (true, { s with a := 64 }) else if q.code = 129 then (true, { s with x := 64 })
  else if q.code = 7 then (true, { s with x := s.a }) else if q.code = 135 then (true, { s with a := s.x }) else if q.code = 132 then (true, { s with a := IntKind.u32.wrap (0 - s.a) }) else if q.code = 32 then (if Da.hasWord q.k then (true, { s with a := d.word q.k }) else (false, s)) else (false, s)

theorem load_ev (s : Ms) (d : Da) (hd : d.ok) (q : In) (hq : q.ok) (H : List (List AV)) (b : Nat) (hH : H[b]? = some (s.box d)) :
    EvF Try.prog prim 45 [.optr b 0, .agg q.row] [] H [.v (.bool (loadF s q d).1)] (H.set b ((loadF s q d).2.box d)) := by
  unfold loadF
  cases hc : isCell q.code with
  | true =>
    rw [if_pos rfl]
    have h := cell_ev s d q hq (H ++ [q.box]) b (get_app hH)
    rw [set_app hH] at h
    exact F45.p0 b d.nr d.arch d.ip d.a0 d.a1 d.a2 d.a3 d.a4 d.a5 H q.code q.jt q.jf q.k _ _ _ _ _ _ _ _ _ _ _ _ _ _ _ _ _ _ _ _ hc h
  | false =>
    rw [if_neg (by simp)]
    by_cases h1 : q.code = 0
    · rw [if_pos h1]; exact F45.p1 b s.a s.x (s.c 0) (s.c 1) (s.c 2) (s.c 3) (s.c 4) (s.c 5) (s.c 6) (s.c 7) (s.c 8) (s.c 9) (s.c 10) (s.c 11) (s.c 12) (s.c 13) (s.c 14) (s.c 15) s.pc d.nr d.arch d.ip d.a0 d.a1 d.a2 d.a3 d.a4 d.a5 H q.code q.jt q.jf q.k hc (eq_of h1) hH
    by_cases h2 : q.code = 1
    · rw [if_neg h1, if_pos h2]; exact F45.p2 b s.a s.x (s.c 0) (s.c 1) (s.c 2) (s.c 3) (s.c 4) (s.c 5) (s.c 6) (s.c 7) (s.c 8) (s.c 9) (s.c 10) (s.c 11) (s.c 12) (s.c 13) (s.c 14) (s.c 15) s.pc d.nr d.arch d.ip d.a0 d.a1 d.a2 d.a3 d.a4 d.a5 H q.code q.jt q.jf q.k hc (ne_of h1) (eq_of h2) hH
    by_cases h3 : q.code = 128
    · rw [if_neg h1, if_neg h2, if_pos h3]; exact F45.p3 b s.a s.x (s.c 0) (s.c 1) (s.c 2) (s.c 3) (s.c 4) (s.c 5) (s.c 6) (s.c 7) (s.c 8) (s.c 9) (s.c 10) (s.c 11) (s.c 12) (s.c 13) (s.c 14) (s.c 15) s.pc d.nr d.arch d.ip d.a0 d.a1 d.a2 d.a3 d.a4 d.a5 H q.code q.jt q.jf q.k hc (ne_of h1) (ne_of h2) (eq_of h3) hH
    by_cases h4 : q.code = 129
    · rw [if_neg h1, if_neg h2, if_neg h3, if_pos h4]; exact F45.p4 b s.a s.x (s.c 0) (s.c 1) (s.c 2) (s.c 3) (s.c 4) (s.c 5) (s.c 6) (s.c 7) (s.c 8) (s.c 9) (s.c 10) (s.c 11) (s.c 12) (s.c 13) (s.c 14) (s.c 15) s.pc d.nr d.arch d.ip d.a0 d.a1 d.a2 d.a3 d.a4 d.a5 H q.code q.jt q.jf q.k hc (ne_of h1) (ne_of h2) (ne_of h3) (eq_of h4) hH
    by_cases h5 : q.code = 7
    · rw [if_neg h1, if_neg h2, if_neg h3, if_neg h4, if_pos h5]; exact F45.p5 b s.a s.x (s.c 0) (s.c 1) (s.c 2) (s.c 3) (s.c 4) (s.c 5) (s.c 6) (s.c 7) (s.c 8) (s.c 9) (s.c 10) (s.c 11) (s.c 12) (s.c 13) (s.c 14) (s.c 15) s.pc d.nr d.arch d.ip d.a0 d.a1 d.a2 d.a3 d.a4 d.a5 H q.code q.jt q.jf q.k hc (ne_of h1) (ne_of h2) (ne_of h3) (ne_of h4) (eq_of h5) hH
    by_cases h6 : q.code = 135
    · rw [if_neg h1, if_neg h2, if_neg h3, if_neg h4, if_neg h5, if_pos h6]; exact F45.p6 b s.a s.x (s.c 0) (s.c 1) (s.c 2) (s.c 3) (s.c 4) (s.c 5) (s.c 6) (s.c 7) (s.c 8) (s.c 9) (s.c 10) (s.c 11) (s.c 12) (s.c 13) (s.c 14) (s.c 15) s.pc d.nr d.arch d.ip d.a0 d.a1 d.a2 d.a3 d.a4 d.a5 H q.code q.jt q.jf q.k hc (ne_of h1) (ne_of h2) (ne_of h3) (ne_of h4) (ne_of h5) (eq_of h6) hH
    by_cases h7 : q.code = 132
    · rw [if_neg h1, if_neg h2, if_neg h3, if_neg h4, if_neg h5, if_neg h6, if_pos h7]; exact F45.p7 b s.a s.x (s.c 0) (s.c 1) (s.c 2) (s.c 3) (s.c 4) (s.c 5) (s.c 6) (s.c 7) (s.c 8) (s.c 9) (s.c 10) (s.c 11) (s.c 12) (s.c 13) (s.c 14) (s.c 15) s.pc d.nr d.arch d.ip d.a0 d.a1 d.a2 d.a3 d.a4 d.a5 H q.code q.jt q.jf q.k hc (ne_of h1) (ne_of h2) (ne_of h3) (ne_of h4) (ne_of h5) (ne_of h6) (eq_of h7) hH
    by_cases h8 : q.code = 32
    · rw [if_neg h1, if_neg h2, if_neg h3, if_neg h4, if_neg h5, if_neg h6, if_neg h7, if_pos h8]
      have hw := word_ev d hd hq.2.2.2
      cases hb : Da.hasWord q.k with
      | true =>
        rw [hb] at hw
        rw [if_pos rfl]
        exact F45.p8 b s.a s.x (s.c 0) (s.c 1) (s.c 2) (s.c 3) (s.c 4) (s.c 5) (s.c 6) (s.c 7) (s.c 8) (s.c 9) (s.c 10) (s.c 11) (s.c 12) (s.c 13) (s.c 14) (s.c 15) s.pc d.nr d.arch d.ip d.a0 d.a1 d.a2 d.a3 d.a4 d.a5 H q.code q.jt q.jf q.k _ true hc (ne_of h1) (ne_of h2) (ne_of h3) (ne_of h4) (ne_of h5) (ne_of h6) (ne_of h7) (eq_of h8) hH rfl hw
      | false =>
        rw [hb] at hw
        rw [if_neg (by simp), set_same hH]
        exact F45.p9 b s.a s.x (s.c 0) (s.c 1) (s.c 2) (s.c 3) (s.c 4) (s.c 5) (s.c 6) (s.c 7) (s.c 8) (s.c 9) (s.c 10) (s.c 11) (s.c 12) (s.c 13) (s.c 14) (s.c 15) s.pc d.nr d.arch d.ip d.a0 d.a1 d.a2 d.a3 d.a4 d.a5 H q.code q.jt q.jf q.k _ false hc (ne_of h1) (ne_of h2) (ne_of h3) (ne_of h4) (ne_of h5) (ne_of h6) (ne_of h7) (eq_of h8) hH rfl hw
    · rw [if_neg h1, if_neg h2, if_neg h3, if_neg h4, if_neg h5, if_neg h6, if_neg h7, if_neg h8, set_same hH]
      exact F45.p10 b H q.code q.jt q.jf q.k hc (ne_of h1) (ne_of h2) (ne_of h3) (ne_of h4) (ne_of h5) (ne_of h6) (ne_of h7) (ne_of h8)

/-! ### a step -/

def nextF (s1 : Ms) (q : In) (d : Da) (c k : Int) : Bool × Ms :=
  if tellsB c then (if tellsV c s1.a k then (true, { s1 with pc := IntKind.i64.wrap (s1.pc + q.jt) }) else (true, { s1 with pc := IntKind.i64.wrap (s1.pc + q.jf) }))
  else if q.code = 5 then (true, { s1 with pc := IntKind.i64.wrap (s1.pc + IntKind.i64.wrap q.k) }) else loadF s1 q d

def oneF (s1 : Ms) (q : In) (d : Da) (c k : Int) : Bool × Ms :=
  if mathB c k then (true, { s1 with a := mathV c s1.a k })
  else if tellsB (IntKind.i64.wrap (q.code - 8)) then nextF s1 q d (IntKind.i64.wrap (q.code - 8)) s1.x else nextF s1 q d q.code q.k

def stepF (s : Ms) (q : In) (d : Da) : Bool × Ms :=
  if mathB (IntKind.i64.wrap (q.code - 8)) 1 then oneF { s with pc := IntKind.i64.wrap (s.pc + 1) } q d (IntKind.i64.wrap (q.code - 8)) s.x else oneF { s with pc := IntKind.i64.wrap (s.pc + 1) } q d q.code q.k

theorem one32 : inR .u32 1 := inW (by decide) (by decide)

theorem step_ev (s : Ms) (hx : inR .u32 s.x) (d : Da) (hd : d.ok) (q : In) (hq : q.ok) (H : List (List AV)) (b : Nat) (hH : H[b]? = some (s.box d)) :
    EvF Try.prog prim 34 [.optr b 0, .agg q.row] [] H [.v (.bool (stepF s q d).1)] (H.set b ((stepF s q d).2.box d)) := by
  let s1 : Ms := { s with pc := IntKind.i64.wrap (s.pc + 1) }
  have fin : ∀ {r : List AV} {Z : List AV}, EvF Try.prog prim 34 [.optr b 0, .agg q.row] [] H r ((H.set b (s1.box d)).set b Z) → EvF Try.prog prim 34 [.optr b 0, .agg q.row] [] H r (H.set b Z) := fun h => by rwa [List.set_set] at h
  have hG : (H.set b (s1.box d))[b]? = some (s1.box d) := get_set hH
  have m0 := math_ev (IntKind.i64.wrap (q.code - 8)) 1 1 one32
  have mx := math_ev (IntKind.i64.wrap (q.code - 8)) s.a s.x hx
  have mk := math_ev q.code s.a q.k hq.2.2.2
  have t0 := tells_ev (IntKind.i64.wrap (q.code - 8)) 0 0
  have tx := tells_ev (IntKind.i64.wrap (q.code - 8)) s.a s.x
  have tk := tells_ev q.code s.a q.k
  have hl : EvF Try.prog prim 45 [.optr b 0, .agg q.row] [] (H.set b (s1.box d) ++ [q.box]) [.v (.bool (loadF s1 q d).1)] ((H.set b (s1.box d)).set b ((loadF s1 q d).2.box d) ++ [q.box]) := by
    have h := load_ev s1 d hd q hq (H.set b (s1.box d) ++ [q.box]) b (get_app hG)
    rw [set_app hG] at h
    exact h
  unfold stepF
  cases hm : mathB (IntKind.i64.wrap (q.code - 8)) 1 with
  | true =>
    rw [if_pos rfl]
    rw [hm] at m0
    unfold oneF
    cases hm2 : mathB (IntKind.i64.wrap (q.code - 8)) s.x with
    | true =>
      rw [if_pos rfl]
      rw [hm2] at mx
      exact fin (F34.p0 b s.a s.x (s.c 0) (s.c 1) (s.c 2) (s.c 3) (s.c 4) (s.c 5) (s.c 6) (s.c 7) (s.c 8) (s.c 9) (s.c 10) (s.c 11) (s.c 12) (s.c 13) (s.c 14) (s.c 15) s.pc d.nr d.arch d.ip d.a0 d.a1 d.a2 d.a3 d.a4 d.a5 H q.code q.jt q.jf q.k _ true _ true hH rfl hG rfl m0 mx)
    | false =>
      rw [if_neg (by simp)]
      rw [hm2] at mx
      cases ht : tellsB (IntKind.i64.wrap (q.code - 8)) with
      | true =>
        rw [if_pos rfl]
        unfold nextF
        rw [ht, if_pos rfl]
        rw [ht] at t0 tx
        cases hv : tellsV (IntKind.i64.wrap (q.code - 8)) s.a s.x with
        | true =>
          rw [if_pos rfl]
          rw [hv] at tx
          exact fin (F34.p1 b s.a s.x (s.c 0) (s.c 1) (s.c 2) (s.c 3) (s.c 4) (s.c 5) (s.c 6) (s.c 7) (s.c 8) (s.c 9) (s.c 10) (s.c 11) (s.c 12) (s.c 13) (s.c 14) (s.c 15) s.pc d.nr d.arch d.ip d.a0 d.a1 d.a2 d.a3 d.a4 d.a5 H q.code q.jt q.jf q.k _ true _ false _ true true true hH rfl hG rfl rfl rfl rfl m0 mx t0 tx)
        | false =>
          rw [if_neg (by simp)]
          rw [hv] at tx
          exact fin (F34.p2 b s.a s.x (s.c 0) (s.c 1) (s.c 2) (s.c 3) (s.c 4) (s.c 5) (s.c 6) (s.c 7) (s.c 8) (s.c 9) (s.c 10) (s.c 11) (s.c 12) (s.c 13) (s.c 14) (s.c 15) s.pc d.nr d.arch d.ip d.a0 d.a1 d.a2 d.a3 d.a4 d.a5 H q.code q.jt q.jf q.k _ true _ false _ true false true hH rfl hG rfl rfl rfl rfl m0 mx t0 tx)
      | false =>
        rw [if_neg (by simp)]
        rw [ht] at t0
        unfold nextF
        cases ht2 : tellsB q.code with
        | true =>
          rw [if_pos rfl]
          rw [ht2] at tk
          cases hv : tellsV q.code s.a q.k with
          | true =>
            rw [if_pos rfl]
            rw [hv] at tk
            exact fin (F34.p5 b s.a s.x (s.c 0) (s.c 1) (s.c 2) (s.c 3) (s.c 4) (s.c 5) (s.c 6) (s.c 7) (s.c 8) (s.c 9) (s.c 10) (s.c 11) (s.c 12) (s.c 13) (s.c 14) (s.c 15) s.pc d.nr d.arch d.ip d.a0 d.a1 d.a2 d.a3 d.a4 d.a5 H q.code q.jt q.jf q.k _ true _ false _ false true true hH rfl hG rfl rfl rfl rfl m0 mx t0 tk)
          | false =>
            rw [if_neg (by simp)]
            rw [hv] at tk
            exact fin (F34.p6 b s.a s.x (s.c 0) (s.c 1) (s.c 2) (s.c 3) (s.c 4) (s.c 5) (s.c 6) (s.c 7) (s.c 8) (s.c 9) (s.c 10) (s.c 11) (s.c 12) (s.c 13) (s.c 14) (s.c 15) s.pc d.nr d.arch d.ip d.a0 d.a1 d.a2 d.a3 d.a4 d.a5 H q.code q.jt q.jf q.k _ true _ false _ false false true hH rfl hG rfl rfl rfl rfl m0 mx t0 tk)
        | false =>
          rw [if_neg (by simp)]
          rw [ht2] at tk
          by_cases h5 : q.code = 5
          · rw [if_pos h5]
            exact fin (F34.p7 b s.a s.x (s.c 0) (s.c 1) (s.c 2) (s.c 3) (s.c 4) (s.c 5) (s.c 6) (s.c 7) (s.c 8) (s.c 9) (s.c 10) (s.c 11) (s.c 12) (s.c 13) (s.c 14) (s.c 15) s.pc d.nr d.arch d.ip d.a0 d.a1 d.a2 d.a3 d.a4 d.a5 H q.code q.jt q.jf q.k _ true _ false _ false _ false hH rfl hG rfl rfl rfl (eq_of h5) m0 mx t0 tk)
          · rw [if_neg h5]
            exact fin (F34.p8 b s.a s.x (s.c 0) (s.c 1) (s.c 2) (s.c 3) (s.c 4) (s.c 5) (s.c 6) (s.c 7) (s.c 8) (s.c 9) (s.c 10) (s.c 11) (s.c 12) (s.c 13) (s.c 14) (s.c 15) s.pc d.nr d.arch d.ip d.a0 d.a1 d.a2 d.a3 d.a4 d.a5 H q.code q.jt q.jf q.k _ true _ false _ false _ false _ _ _ _ _ _ _ _ _ _ _ _ _ _ _ _ _ _ _ _ hH rfl hG rfl rfl rfl (ne_of h5) m0 mx t0 tk hl)
  | false =>
    rw [if_neg (by simp)]
    rw [hm] at m0
    unfold oneF
    cases hm2 : mathB q.code q.k with
    | true =>
      rw [if_pos rfl]
      rw [hm2] at mk
      exact fin (F34.p9 b s.a s.x (s.c 0) (s.c 1) (s.c 2) (s.c 3) (s.c 4) (s.c 5) (s.c 6) (s.c 7) (s.c 8) (s.c 9) (s.c 10) (s.c 11) (s.c 12) (s.c 13) (s.c 14) (s.c 15) s.pc d.nr d.arch d.ip d.a0 d.a1 d.a2 d.a3 d.a4 d.a5 H q.code q.jt q.jf q.k _ false _ true hH rfl hG rfl m0 mk)
    | false =>
      rw [if_neg (by simp)]
      rw [hm2] at mk
      cases ht : tellsB (IntKind.i64.wrap (q.code - 8)) with
      | true =>
        rw [if_pos rfl]
        unfold nextF
        rw [ht, if_pos rfl]
        rw [ht] at t0 tx
        cases hv : tellsV (IntKind.i64.wrap (q.code - 8)) s.a s.x with
        | true =>
          rw [if_pos rfl]
          rw [hv] at tx
          exact fin (F34.p10 b s.a s.x (s.c 0) (s.c 1) (s.c 2) (s.c 3) (s.c 4) (s.c 5) (s.c 6) (s.c 7) (s.c 8) (s.c 9) (s.c 10) (s.c 11) (s.c 12) (s.c 13) (s.c 14) (s.c 15) s.pc d.nr d.arch d.ip d.a0 d.a1 d.a2 d.a3 d.a4 d.a5 H q.code q.jt q.jf q.k _ false _ false _ true true true hH rfl hG rfl rfl rfl rfl m0 mk t0 tx)
        | false =>
          rw [if_neg (by simp)]
          rw [hv] at tx
          exact fin (F34.p11 b s.a s.x (s.c 0) (s.c 1) (s.c 2) (s.c 3) (s.c 4) (s.c 5) (s.c 6) (s.c 7) (s.c 8) (s.c 9) (s.c 10) (s.c 11) (s.c 12) (s.c 13) (s.c 14) (s.c 15) s.pc d.nr d.arch d.ip d.a0 d.a1 d.a2 d.a3 d.a4 d.a5 H q.code q.jt q.jf q.k _ false _ false _ true false true hH rfl hG rfl rfl rfl rfl m0 mk t0 tx)
      | false =>
        rw [if_neg (by simp)]
        rw [ht] at t0
        unfold nextF
        cases ht2 : tellsB q.code with
        | true =>
          rw [if_pos rfl]
          rw [ht2] at tk
          cases hv : tellsV q.code s.a q.k with
          | true =>
            rw [if_pos rfl]
            rw [hv] at tk
            exact fin (F34.p14 b s.a s.x (s.c 0) (s.c 1) (s.c 2) (s.c 3) (s.c 4) (s.c 5) (s.c 6) (s.c 7) (s.c 8) (s.c 9) (s.c 10) (s.c 11) (s.c 12) (s.c 13) (s.c 14) (s.c 15) s.pc d.nr d.arch d.ip d.a0 d.a1 d.a2 d.a3 d.a4 d.a5 H q.code q.jt q.jf q.k _ false _ false _ false true true hH rfl hG rfl rfl rfl rfl m0 mk t0 tk)
          | false =>
            rw [if_neg (by simp)]
            rw [hv] at tk
            exact fin (F34.p15 b s.a s.x (s.c 0) (s.c 1) (s.c 2) (s.c 3) (s.c 4) (s.c 5) (s.c 6) (s.c 7) (s.c 8) (s.c 9) (s.c 10) (s.c 11) (s.c 12) (s.c 13) (s.c 14) (s.c 15) s.pc d.nr d.arch d.ip d.a0 d.a1 d.a2 d.a3 d.a4 d.a5 H q.code q.jt q.jf q.k _ false _ false _ false false true hH rfl hG rfl rfl rfl rfl m0 mk t0 tk)
        | false =>
          rw [if_neg (by simp)]
          rw [ht2] at tk
          by_cases h5 : q.code = 5
          · rw [if_pos h5]
            exact fin (F34.p16 b s.a s.x (s.c 0) (s.c 1) (s.c 2) (s.c 3) (s.c 4) (s.c 5) (s.c 6) (s.c 7) (s.c 8) (s.c 9) (s.c 10) (s.c 11) (s.c 12) (s.c 13) (s.c 14) (s.c 15) s.pc d.nr d.arch d.ip d.a0 d.a1 d.a2 d.a3 d.a4 d.a5 H q.code q.jt q.jf q.k _ false _ false _ false _ false hH rfl hG rfl rfl rfl (eq_of h5) m0 mk t0 tk)
          · rw [if_neg h5]
            exact fin (F34.p17 b s.a s.x (s.c 0) (s.c 1) (s.c 2) (s.c 3) (s.c 4) (s.c 5) (s.c 6) (s.c 7) (s.c 8) (s.c 9) (s.c 10) (s.c 11) (s.c 12) (s.c 13) (s.c 14) (s.c 15) s.pc d.nr d.arch d.ip d.a0 d.a1 d.a2 d.a3 d.a4 d.a5 H q.code q.jt q.jf q.k _ false _ false _ false _ false _ _ _ _ _ _ _ _ _ _ _ _ _ _ _ _ _ _ _ _ hH rfl hG rfl rfl rfl (ne_of h5) m0 mk t0 tk hl)

/-! ### an end -/

def endsV (s : Ms) (q : In) : Int := if q.code = 6 then q.k else if q.code = 22 then s.a else 0
def endsB (s : Ms) (q : In) : Bool := if q.code = 6 then true else if q.code = 22 then true else (bif (q.code == 60) then (s.x == 0) else false)

theorem ends_ev (s : Ms) (d : Da) (q : In) (H : List (List AV)) (b : Nat) (hH : H[b]? = some (s.box d)) :
    EvF Try.prog prim 33 [.optr b 0, .agg q.row] [] H [.v (.int .u32 (endsV s q)), .v (.bool (endsB s q))] H := by
  unfold endsV endsB
  by_cases h1 : q.code = 6
  · rw [if_pos h1, if_pos h1]; exact F33.p0 b H q.code q.jt q.jf q.k (eq_of h1)
  by_cases h2 : q.code = 22
  · rw [if_neg h1, if_pos h2, if_neg h1, if_pos h2]; exact F33.p1 b s.a s.x (s.c 0) (s.c 1) (s.c 2) (s.c 3) (s.c 4) (s.c 5) (s.c 6) (s.c 7) (s.c 8) (s.c 9) (s.c 10) (s.c 11) (s.c 12) (s.c 13) (s.c 14) (s.c 15) s.pc d.nr d.arch d.ip d.a0 d.a1 d.a2 d.a3 d.a4 d.a5 H q.code q.jt q.jf q.k (ne_of h1) (eq_of h2) hH
  rw [if_neg h1, if_neg h2, if_neg h1, if_neg h2]
  exact F33.p2 b s.a s.x (s.c 0) (s.c 1) (s.c 2) (s.c 3) (s.c 4) (s.c 5) (s.c 6) (s.c 7) (s.c 8) (s.c 9) (s.c 10) (s.c 11) (s.c 12) (s.c 13) (s.c 14) (s.c 15) s.pc d.nr d.arch d.ip d.a0 d.a1 d.a2 d.a3 d.a4 d.a5 H q.code q.jt q.jf q.k (ne_of h1) (ne_of h2) (fun _ => hH)

/-! ### a run -/

/-- What a run comes to, from a state on: so many steps are left, so many are done. -/
def runF (l : List In) (d : Da) : Nat → Nat → Ms → Int × Int × Bool
  | 0, _, _ => (0, 4096, false)
  | k + 1, n, s =>
    if s.pc < 0 ∨ s.pc ≥ l.length then (0, n, false)
    else match l[s.pc.toNat]? with
      | none => (0, n, false)
      | some q => if endsB s q then (endsV s q, n + 1, true) else if (stepF s q d).1 then runF l d k (n + 1) (stepF s q d).2 else (0, n, false)

def Ms.ok (s : Ms) : Prop := inR .u32 s.x ∧ inR .u32 s.a ∧ ∀ k, inR .u32 (s.c k)

end Go.Ab.S3
