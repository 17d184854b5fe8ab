/-
The laws of chapter 20.
-/
import Derived.Test.YtdddimnfhgmadaaHalf
namespace Go.Ab.S2
open Go Go.Proofs Go.Ab

def crow (c : List Hf) : List PV := [.sl (c.map Hf.row)]
def crows (L : List (List Hf)) : List (List PV) := L.map crow

theorem crows_len (L : List (List Hf)) : (crows L).length = L.length := by simp [crows]
theorem hrows_len (c : List Hf) : (c.map Hf.row).length = c.length := by simp
theorem crows_get {L : List (List Hf)} {i : Nat} {c : List Hf} (h : L[i]? = some c) : (crows L)[i]? = some [.sl (c.map Hf.row)] := by
  unfold crows; rw [List.getElem?_map, h]; rfl
theorem hrows_get {c : List Hf} {i : Nat} {x : Hf} (h : c[i]? = some x) : (c.map Hf.row)[i]? = some x.row := by
  rw [List.getElem?_map, h]; rfl

theorem drop_get {α : Type} {L : List α} {i : Nat} {c : α} {l : List α} (h : L.drop i = c :: l) : L[i]? = some c ∧ L.drop (i + 1) = l ∧ i < L.length := by
  have h1 : (L.drop i)[0]? = some c := by rw [h]; rfl
  rw [List.getElem?_drop] at h1
  have h1 : L[i]? = some c := by simpa using h1
  refine ⟨h1, ?_, (List.getElem?_eq_some_iff.1 h1).1⟩
  rw [← List.drop_drop, h]
  rfl

theorem drop_end {α : Type} {L : List α} {i : Nat} (hi : i ≤ L.length) (h : L.drop i = []) : i = L.length := by
  have := congrArg List.length h
  simp at this
  omega

/-! ### clauses are like themselves -/

theorem same_inner (L : List (List Hf)) (n : Nat) (c : List Hf) (hc : L[n]? = some c) (hL : L.length < 2 ^ 63) (hl : c.length < 2 ^ 63)
    (hk : EvK Try.prog prim Try.f16 (loopAt Try.f16 0) (F16.h0 (crows L) (crows L) ((n : Int) + 1)) [.v (.bool true)] []) :
    ∀ (l : List Hf) (k : Nat), c.drop k = l → k ≤ c.length → EvK Try.prog prim Try.f16 (loopAt Try.f16 1) (F16.h1 (crows L) (crows L) k n) [.v (.bool true)] []
  | [], k, hd, hk' => by
    have := drop_end hk' hd
    have hn := (List.getElem?_eq_some_iff.1 hc).1
    exact F16.l1_7 (crows L) (crows L) k n (c.map Hf.row) (by omega) (by simpa using crows_get hc) (by rw [hrows_len]; simp; omega) (in64 (by omega) (by omega)) hk
  | x :: l, k, hd, hk' => by
    obtain ⟨hx, hd', hlt⟩ := drop_get hd
    have hrec := same_inner L n c hc hL hl hk l (k + 1) hd' (by omega)
    have hg := hrows_get hx
    exact F16.l1_6 (crows L) (crows L) k n (c.map Hf.row) x.a x.o x.h x.m x.v (c.map Hf.row) x.a x.o x.h x.m x.v (by omega) (by simpa using crows_get hc) (by rw [hrows_len]; simp; omega) (by omega)
      (by simpa [Hf.row] using hg) (by simpa using crows_get hc) (by simpa [Hf.row] using hg) (by simp) (in64 (by omega) (by omega)) hrec

theorem same_outer (L : List (List Hf)) (hL : L.length < 2 ^ 63) (hl : ∀ c ∈ L, c.length < 2 ^ 63) : ∀ (l : List (List Hf)) (n : Nat), L.drop n = l → n ≤ L.length →
    EvK Try.prog prim Try.f16 (loopAt Try.f16 0) (F16.h0 (crows L) (crows L) n) [.v (.bool true)] []
  | [], n, hd, hn => by
    have := drop_end hn hd
    exact F16.l0_4 (crows L) (crows L) n (by rw [crows_len]; simp; omega)
  | c :: l, n, hd, hn => by
    obtain ⟨hc, hd', hlt⟩ := drop_get hd
    have hrec := same_outer L hL hl l (n + 1) hd' (by omega)
    exact F16.l0_3 (crows L) (crows L) n (c.map Hf.row) (c.map Hf.row) (by rw [crows_len]; simp; omega) (by omega) (by simpa using crows_get hc) (by simpa using crows_get hc) (by simp)
      (same_inner L n c hc hL (hl c (List.mem_of_getElem? hc)) hrec c 0 rfl (by omega))

theorem same_ev (L : List (List Hf)) (hL : L.length < 2 ^ 63) (hl : ∀ c ∈ L, c.length < 2 ^ 63) : EvF Try.prog prim 16 [.v (.sl (crows L)), .v (.sl (crows L))] [] [] [.v (.bool true)] [] :=
  F16.p1 (crows L) (crows L) (by simp) (same_outer L hL hl L 0 rfl (by omega))

/-! ### an atom's halves -/

structure At where
  a : Int
  o : Int
  m : Int
  v : Int

def At.row (x : At) : List PV := [.int .i64 x.a, .int .i64 x.o, .int .u64 x.m, .int .u64 x.v]
def At.ok (x : At) : Prop := inR .i64 x.a ∧ inR .i64 x.o ∧ inR .u64 x.m ∧ inR .u64 x.v
def At.may (x : At) : Bool := mayB x.a x.o
def At.half (x : At) (hi : Bool) (op : Int) : Hf := ⟨x.a, op, hi, part hi x.m, part hi x.v⟩
def At.strict (x : At) : Int := if x.o = 6 then 5 else if x.o = 4 then 3 else x.o
def At.cl (x : At) : List (List Hf) :=
  if x.may then (if x.o = 1 then [[x.half true 1, x.half false 1]] else if x.o = 2 then [[x.half true 2], [x.half false 2]] else [[x.half true x.strict], [x.half true 1, x.half false x.o]]) else []

theorem half_ev (x : At) (hx : x.ok) (hi : Bool) (op : Int) : EvF Try.prog prim 27 [.agg x.row, .v (.bool hi), .v (.int .i64 op)] [] [] [.agg (x.half hi op).row] [] := by
  cases hi with
  | true =>
    have := F27.p0 x.a x.o x.m x.v true op rfl
    rw [high_part hx.2.2.1, high_part hx.2.2.2] at this
    exact this
  | false =>
    have := F27.p1 x.a x.o x.m x.v false op rfl
    rw [low_part, low_part] at this
    exact this

theorem rhalf_ev (x : At) (hx : x.ok) (hi : Bool) (op : Int) : EvF Try.prog prim 36 [.agg x.row, .v (.bool hi), .v (.int .i64 op)] [] [] [.agg (x.half hi op).row] [] := by
  cases hi with
  | true =>
    have := F36.p0 x.a x.o x.m x.v true op rfl
    rw [high_part hx.2.2.1, high_part hx.2.2.2] at this
    exact this
  | false =>
    have := F36.p1 x.a x.o x.m x.v false op rfl
    rw [low_part' hx.2.2.1, low_part' hx.2.2.2] at this
    exact this

theorem ratom_ev (x : At) : EvF Try.prog prim 10 [.agg x.row] [] [] [.v (.bool x.may)] [] := F10.p0 x.a x.o x.m x.v

theorem of_ev (x : At) (hx : x.ok) : EvF Try.prog prim 11 [.agg x.row] [] [] [.v (.sl (crows x.cl))] [] := by
  have hm := may_ev x.a x.o
  unfold At.cl
  cases hb : x.may with
  | false => rw [show mayB x.a x.o = false from hb] at hm; exact F11.p0 x.a x.o x.m x.v false rfl hm
  | true =>
    rw [show mayB x.a x.o = true from hb] at hm
    rw [if_pos rfl]
    by_cases h1 : x.o = 1
    · rw [if_pos h1]; exact F11.p1 x.a x.o x.m x.v true _ _ _ _ _ _ _ _ _ _ rfl (by simpa using h1) hm (half_ev x hx true 1) (half_ev x hx false 1)
    by_cases h2 : x.o = 2
    · rw [if_neg h1, if_pos h2]; exact F11.p2 x.a x.o x.m x.v true _ _ _ _ _ _ _ _ _ _ rfl (by simpa using h1) (by simpa using h2) hm (half_ev x hx true 2) (half_ev x hx false 2)
    rw [if_neg h1, if_neg h2]
    by_cases h6 : x.o = 6
    · have e : x.strict = 5 := by simp [At.strict, h6]
      rw [e]; exact F11.p3 x.a x.o x.m x.v true _ _ _ _ _ _ _ _ _ _ _ _ _ _ _ rfl (by simpa using h1) (by simpa using h2) (by simpa using h6) hm (half_ev x hx true 5) (half_ev x hx true 1) (half_ev x hx false x.o)
    by_cases h4 : x.o = 4
    · have e : x.strict = 3 := by simp [At.strict, h4]
      rw [e]; exact F11.p4 x.a x.o x.m x.v true _ _ _ _ _ _ _ _ _ _ _ _ _ _ _ rfl (by simpa using h1) (by simpa using h2) (by simpa using h6) (by simpa using h4) hm (half_ev x hx true 3) (half_ev x hx true 1) (half_ev x hx false x.o)
    have e : x.strict = x.o := by simp [At.strict, h6, h4]
    rw [e]; exact F11.p5 x.a x.o x.m x.v true _ _ _ _ _ _ _ _ _ _ _ _ _ _ _ rfl (by simpa using h1) (by simpa using h2) (by simpa using h6) (by simpa using h4) hm (half_ev x hx true x.o) (half_ev x hx true 1) (half_ev x hx false x.o)

theorem rof_ev (x : At) (hx : x.ok) : EvF Try.prog prim 20 [.agg x.row] [] [] [.v (.sl (crows x.cl))] [] := by
  have hm := ratom_ev x
  unfold At.cl
  cases hb : x.may with
  | false => rw [hb] at hm; exact F20.p0 x.a x.o x.m x.v false rfl hm
  | true =>
    rw [hb] at hm
    have ho := (may_of hb).2
    rw [if_pos rfl]
    by_cases h1 : x.o = 1
    · rw [if_pos h1]; exact F20.p1 x.a x.o x.m x.v true _ _ _ _ _ _ _ _ _ _ rfl (by simpa using h1) hm (rhalf_ev x hx true 1) (rhalf_ev x hx false 1)
    by_cases h2 : x.o = 2
    · rw [if_neg h1, if_pos h2]; exact F20.p2 x.a x.o x.m x.v true _ _ _ _ _ _ _ _ _ _ rfl (by simpa using h1) (by simpa using h2) hm (rhalf_ev x hx true 2) (rhalf_ev x hx false 2)
    rw [if_neg h1, if_neg h2]
    by_cases h34 : x.o = 3 ∨ x.o = 4
    · have e : x.strict = 3 := by unfold At.strict; rcases h34 with h | h <;> simp [h]
      have hc : (bif (x.o == 3) then true else (x.o == 4)) = true := by rcases h34 with h | h <;> simp [h]
      rw [e]; exact F20.p3 x.a x.o x.m x.v true _ _ _ _ _ _ _ _ _ _ _ _ _ _ _ rfl (by simpa using h1) (by simpa using h2) hc hm (rhalf_ev x hx true 3) (rhalf_ev x hx true 1) (rhalf_ev x hx false x.o)
    have e : x.strict = 5 := by
      have : x.o = 5 ∨ x.o = 6 := by omega
      unfold At.strict; rcases this with h | h <;> simp [h]
    have hc : (bif (x.o == 3) then true else (x.o == 4)) = false := by
      have h3 : (x.o == 3) = false := by simp; omega
      have h4 : (x.o == 4) = false := by simp; omega
      rw [h3, h4]; rfl
    rw [e]; exact F20.p4 x.a x.o x.m x.v true _ _ _ _ _ _ _ _ _ _ _ _ _ _ _ rfl (by simpa using h1) (by simpa using h2) hc hm (rhalf_ev x hx true 5) (rhalf_ev x hx true 1) (rhalf_ev x hx false x.o)

theorem half_ok (x : At) (hx : x.ok) (hi : Bool) {op : Int} (h : inR .i64 op) : (x.half hi op).ok := ⟨hx.1, h, part_in hi hx.2.2.1, part_in hi hx.2.2.2⟩

theorem cl_ok (x : At) (hx : x.ok) : ∀ c ∈ x.cl, ∀ h ∈ c, h.ok := by
  intro c hc h hh
  have i1 : inR .i64 1 := in64 (by omega) (by omega)
  have i2 : inR .i64 2 := in64 (by omega) (by omega)
  have is : inR .i64 x.strict := by unfold At.strict; split; exact in64 (by omega) (by omega); split; exact in64 (by omega) (by omega); exact hx.2.1
  unfold At.cl at hc
  split at hc
  · split at hc
    · simp at hc; subst hc; simp at hh; rcases hh with rfl | rfl <;> exact half_ok x hx _ i1
    split at hc
    · simp at hc; rcases hc with rfl | rfl <;> (simp at hh; subst hh; exact half_ok x hx _ i2)
    simp at hc
    rcases hc with rfl | rfl
    · simp at hh; subst hh; exact half_ok x hx _ is
    · simp at hh; rcases hh with rfl | rfl
      · exact half_ok x hx _ i1
      · exact half_ok x hx _ hx.2.1
  · simp at hc

theorem cl_len (x : At) : x.cl.length < 2 ^ 63 ∧ ∀ c ∈ x.cl, c.length < 2 ^ 63 := by
  unfold At.cl
  split
  · split
    · simp
    split <;> simp
  · simp

/-! ### the example of the document -/

theorem alive20 : EvF Try.prog prim 9 [] [] [] [.v (.bool true)] [] := by
  have hx : (At.mk 0 1 18446744073709551615 5).ok := ⟨in64 (by decide) (by decide), in64 (by decide) (by decide), inU (by decide) (by decide), inU (by decide) (by decide)⟩
  have hn : (Hf.mk 0 1 false 1 2).ok := ⟨in64 (by decide) (by decide), in64 (by decide) (by decide), inW (by decide) (by decide), inW (by decide) (by decide)⟩
  have hs : (Six.mk 5 0 0 0 0 0).ok := ⟨inU (by decide) (by decide), inU (by decide) (by decide), inU (by decide) (by decide), inU (by decide) (by decide), inU (by decide) (by decide), inU (by decide) (by decide)⟩
  have h0 := of_ev _ hx
  have h1 := never_ev _ hn
  have e0 : (At.mk 0 1 18446744073709551615 5).cl = [[⟨0, 1, true, 4294967295, 0⟩, ⟨0, 1, false, 4294967295, 5⟩]] := by decide +kernel
  have e1 : (Hf.mk 0 1 false 1 2).nev = true := by decide +kernel
  rw [e0] at h0
  rw [e1] at h1
  have hy : (Hf.mk 0 1 false 4294967295 5).ok := ⟨in64 (by decide) (by decide), in64 (by decide) (by decide), inW (by decide) (by decide), inW (by decide) (by decide)⟩
  have h2 := holds_ev _ _ hy hs
  have e2 : (Hf.mk 0 1 false 4294967295 5).holds (Six.mk 5 0 0 0 0 0) = true := by decide +kernel
  rw [e2] at h2
  exact F9.p0 _ true _ 0 1 false 4294967295 5 true (fun _ => rfl) (fun _ => rfl) (fun _ => rfl) h0 h1 (fun _ => h2)

theorem halvesTell (x : At) (h : Hf) (s : Six) (hx : x.ok) (hh : h.ok) (hs : s.ok) : EvF Try.prog prim 6 [.agg x.row, .agg h.row, .agg s.pv] [] [] [.v (.bool true)] [] := by
  have hl := cl_len x
  have := F6.p1 x.a x.o x.m x.v h.a h.o h.h h.m h.v s.a0 s.a1 s.a2 s.a3 s.a4 s.a5 true (crows x.cl) (crows x.cl) true (h.holds s) (h.holds s) h.nev h.nev h.alw h.alw rfl alive20 (of_ev x hx) (rof_ev x hx) (same_ev x.cl hl.1 hl.2)
    (fun _ => holds_ev h s hh hs) (fun _ => rholds_ev h s hh hs) (fun _ => never_ev h hh) (fun _ => rnever_ev h hh) (fun _ => always_ev h hh) (fun _ => ralways_ev h hh)
  have e : (bif (bif (bif true then (h.holds s == h.holds s) else false) then (h.nev == h.nev) else false) then (h.alw == h.alw) else false) = true := by simp
  rw [e] at this
  exact this

/-! ### never, always: what they mean -/

theorem both_zero (y : Int) : both y 0 = 0 := by simp [both]

theorem nev_not (h : Hf) (s : Six) (hh : h.ok) (hn : h.nev = true) : h.holds s = false := by
  unfold Hf.nev at hn
  unfold Hf.holds
  cases hm : h.may with
  | false => rfl
  | true =>
    rw [hm, if_pos rfl] at hn
    rw [if_pos rfl]
    have h4 := ofW hh.2.2.1
    have h5 := ofW hh.2.2.2
    generalize part h.h (s.at h.a) = y
    have b1 := both_le y h.m h4.1
    have b2 := both_nn y h.m
    have ho := (may_of hm).2
    have : h.o = 1 ∨ h.o = 2 ∨ h.o = 3 ∨ h.o = 4 ∨ h.o = 5 ∨ h.o = 6 := by omega
    rcases this with e | e | e | e | e | e <;> simp only [e, comp] at hn ⊢ <;> simp at hn ⊢
    · intro hv
      unfold subB at hn
      have hv' : (y.toNat &&& h.m.toNat : Nat) = h.v.toNat := by unfold both at hv; omega
      rw [← hv', Nat.and_assoc, Nat.and_self] at hn
      simp at hn
    · obtain ⟨h1, h2⟩ := hn; rw [h1, h2, both_zero]
    · omega
    · omega
    · omega

theorem alw_all (h : Hf) (s : Six) (hh : h.ok) (hn : h.alw = true) : h.holds s = true := by
  unfold Hf.alw at hn
  unfold Hf.holds
  cases hm : h.may with
  | false => rw [hm] at hn; simp at hn
  | true =>
    rw [hm, if_pos rfl] at hn
    rw [if_pos rfl]
    have h4 := ofW hh.2.2.1
    have h5 := ofW hh.2.2.2
    generalize part h.h (s.at h.a) = y
    have b1 := both_le y h.m h4.1
    have b2 := both_nn y h.m
    have ho := (may_of hm).2
    have : h.o = 1 ∨ h.o = 2 ∨ h.o = 3 ∨ h.o = 4 ∨ h.o = 5 ∨ h.o = 6 := by omega
    rcases this with e | e | e | e | e | e <;> simp only [e, comp] at hn ⊢ <;> simp at hn ⊢
    · obtain ⟨h1, h2⟩ := hn; rw [h1, h2, both_zero]
    · intro hv
      unfold subB at hn
      have hv' : (y.toNat &&& h.m.toNat : Nat) = h.v.toNat := by unfold both at hv; omega
      rw [← hv', Nat.and_assoc, Nat.and_self] at hn
      simp at hn
    · omega
    · omega
    · omega

theorem halvesSure (h : Hf) (s : Six) (hh : h.ok) (hs : s.ok) : EvF Try.prog prim 7 [.agg h.row, .agg s.pv] [] [] [.v (.bool true)] [] := by
  have := F7.p1 h.a h.o h.h h.m h.v s.a0 s.a1 s.a2 s.a3 s.a4 s.a5 true (h.holds s) h.nev h.alw h.nev h.alw rfl alive20 (holds_ev h s hh hs) (never_ev h hh) (fun _ => always_ev h hh) (fun _ => never_ev h hh) (fun _ => always_ev h hh)
  have h1 := nev_not h s hh
  have h2 := alw_all h s hh
  have e : (bif (bif (!(bif h.nev then h.holds s else false)) then (!(bif h.alw then (!h.holds s) else false)) else false) then (!(bif h.nev then h.alw else false)) else false) = true := by
    cases hn : h.nev <;> cases ha : h.alw <;> simp_all
  rw [e] at this
  exact this

end Go.Ab.S2
