/-
Numbers of 64 bits and their halves: plain arithmetic; no program in sight.
-/
import Derived.Test.YtgjceiomfccbbaaRead
import Derived.Test.YtgjceiomfccbbaaBase
namespace Go.Ab.S3
open Go Go.Ab

theorem in64 {n : Int} (h : -9223372036854775808 ≤ n) (h' : n ≤ 9223372036854775807) : inR .i64 n := ⟨by simpa [IntKind.min, IntKind.signed, IntKind.bits] using h, by simpa [IntKind.max, IntKind.signed, IntKind.bits] using h'⟩
theorem inU {n : Int} (h : 0 ≤ n) (h' : n ≤ 18446744073709551615) : inR .u64 n := ⟨by simpa [IntKind.min, IntKind.signed, IntKind.bits] using h, by simpa [IntKind.max, IntKind.signed, IntKind.bits] using h'⟩
theorem inW {n : Int} (h : 0 ≤ n) (h' : n ≤ 4294967295) : inR .u32 n := ⟨by simpa [IntKind.min, IntKind.signed, IntKind.bits] using h, by simpa [IntKind.max, IntKind.signed, IntKind.bits] using h'⟩
theorem ofU {n : Int} (h : inR .u64 n) : 0 ≤ n ∧ n ≤ 18446744073709551615 := ⟨by simpa [IntKind.min, IntKind.signed, IntKind.bits] using h.1, by simpa [IntKind.max, IntKind.signed, IntKind.bits] using h.2⟩
theorem ofW {n : Int} (h : inR .u32 n) : 0 ≤ n ∧ n ≤ 4294967295 := ⟨by simpa [IntKind.min, IntKind.signed, IntKind.bits] using h.1, by simpa [IntKind.max, IntKind.signed, IntKind.bits] using h.2⟩
theorem natU {n : Int} (h : inR .u64 n) : ∃ N : Nat, n = N ∧ N < 2 ^ 64 := by
  obtain ⟨h1, h2⟩ := ofU h
  exact ⟨n.toNat, by omega, by omega⟩
theorem natW {n : Int} (h : inR .u32 n) : ∃ N : Nat, n = N ∧ N < 2 ^ 32 := by
  obtain ⟨h1, h2⟩ := ofW h
  exact ⟨n.toNat, by omega, by omega⟩

theorem wrapW (n : Int) : IntKind.u32.wrap n = n % 4294967296 := by simp [IntKind.wrap, IntKind.signed, IntKind.bits]
theorem wrapU (n : Int) : IntKind.u64.wrap n = n % 18446744073709551616 := by simp [IntKind.wrap, IntKind.signed, IntKind.bits]

/-- The bits of both. -/
def both (a b : Int) : Int := ((a.toNat &&& b.toNat : Nat) : Int)
/-- One half of a number. -/
def part (hi : Bool) (x : Int) : Int := if hi then x / 4294967296 else x % 4294967296
/-- Are all bits of the one among those of the other? -/
def subB (v m : Int) : Bool := v.toNat &&& m.toNat == v.toNat

theorem and32 {a b : Nat} (ha : a < 2 ^ 32) (hb : b < 2 ^ 32) : (BitVec.ofInt 32 (a : Int) &&& BitVec.ofInt 32 (b : Int)).toNat = a &&& b := by
  rw [BitVec.toNat_and, BitVec.ofInt_natCast, BitVec.ofInt_natCast, BitVec.toNat_ofNat, BitVec.toNat_ofNat, Nat.mod_eq_of_lt ha, Nat.mod_eq_of_lt hb]
theorem and64 {a b : Nat} (ha : a < 2 ^ 64) (hb : b < 2 ^ 64) : (BitVec.ofInt 64 (a : Int) &&& BitVec.ofInt 64 (b : Int)).toNat = a &&& b := by
  rw [BitVec.toNat_and, BitVec.ofInt_natCast, BitVec.ofInt_natCast, BitVec.toNat_ofNat, BitVec.toNat_ofNat, Nat.mod_eq_of_lt ha, Nat.mod_eq_of_lt hb]

theorem both_le (a b : Int) (hb : 0 ≤ b) : both a b ≤ b := by
  have : a.toNat &&& b.toNat ≤ b.toNat := Nat.and_le_right
  unfold both
  omega
theorem both_nn (a b : Int) : 0 ≤ both a b := by unfold both; omega

theorem mask64 {y m : Int} (hy : inR .u64 y) (hm : inR .u64 m) : IntKind.u64.wrap ((BitVec.ofInt 64 y &&& BitVec.ofInt 64 m).toNat : Int) = both y m := by
  obtain ⟨Y, rfl, hY⟩ := natU hy
  obtain ⟨M, rfl, hM⟩ := natU hm
  rw [and64 hY hM, wrapU]
  have : Y &&& M ≤ M := Nat.and_le_right
  unfold both
  simp only [Int.toNat_natCast]
  omega

theorem mask32 {y m : Int} (hy : inR .u32 y) (hm : inR .u32 m) : IntKind.u64.wrap (IntKind.u32.wrap ((BitVec.ofInt 32 y &&& BitVec.ofInt 32 m).toNat : Int)) = both y m := by
  obtain ⟨Y, rfl, hY⟩ := natW hy
  obtain ⟨M, rfl, hM⟩ := natW hm
  rw [and32 hY hM, wrapW, wrapU]
  have : Y &&& M ≤ M := Nat.and_le_right
  unfold both
  simp only [Int.toNat_natCast]
  omega

theorem part_in (hi : Bool) {y : Int} (hy : inR .u64 y) : inR .u32 (part hi y) := by
  obtain ⟨h1, h2⟩ := ofU hy
  unfold part
  cases hi
  · exact inW (by simp; omega) (by simp; omega)
  · exact inW (by simp; omega) (by simp; omega)

theorem high_part {y : Int} (hy : inR .u64 y) : IntKind.u32.wrap (Int.fdiv y (2 ^ 32)) = part true y := by
  obtain ⟨h1, h2⟩ := ofU hy
  rw [wrapW, Int.fdiv_eq_ediv_of_nonneg _ (by decide)]
  unfold part
  have e : (2 : Int) ^ 32 = 4294967296 := by decide
  rw [e, if_pos rfl]
  omega

theorem low_part (y : Int) : IntKind.u32.wrap y = part false y := by rw [wrapW]; rfl

theorem low_part' {y : Int} (hy : inR .u64 y) : IntKind.u32.wrap (IntKind.u64.wrap ((BitVec.ofInt 64 y &&& BitVec.ofInt 64 4294967295).toNat : Int)) = part false y := by
  obtain ⟨Y, rfl, hY⟩ := natU hy
  have h := and64 (b := 4294967295) hY (by decide)
  have e : ((4294967295 : Nat) : Int) = 4294967295 := rfl
  rw [e] at h
  have h2 : Y &&& 4294967295 = Y % 2 ^ 32 := Nat.and_two_pow_sub_one_eq_mod Y 32
  rw [h, h2, wrapU, wrapW]
  unfold part
  have e2 : Y % 2 ^ 32 < 4294967296 := Nat.mod_lt _ (by decide)
  generalize hz : Y % 2 ^ 32 = z at e2
  have e3 : (Y : Int) % 4294967296 = z := by omega
  rw [if_neg (by simp), e3]
  omega

theorem word_same {v : Int} (h : inR .u32 v) : IntKind.u64.wrap v = v := by
  obtain ⟨h1, h2⟩ := ofW h
  rw [wrapU]
  omega

theorem sub_of {v m : Int} (hv : inR .u32 v) (hm : inR .u32 m) : (IntKind.u32.wrap ((BitVec.ofInt 32 v &&& ~~~BitVec.ofInt 32 m).toNat : Int) != 0) = !subB v m := by
  obtain ⟨V, rfl, hV⟩ := natW hv
  obtain ⟨M, rfl, hM⟩ := natW hm
  have hlt : (BitVec.ofInt 32 (V : Int) &&& ~~~BitVec.ofInt 32 (M : Int)).toNat < 2 ^ 32 := BitVec.isLt _
  have e1 : IntKind.u32.wrap ((BitVec.ofInt 32 (V : Int) &&& ~~~BitVec.ofInt 32 (M : Int)).toNat : Int) = ((BitVec.ofInt 32 (V : Int) &&& ~~~BitVec.ofInt 32 (M : Int)).toNat : Int) := by rw [wrapW]; omega
  rw [e1]
  have h3 := and32 hV hM
  have hVn : (BitVec.ofInt 32 (V : Int)).toNat = V := by rw [BitVec.ofInt_natCast, BitVec.toNat_ofNat, Nat.mod_eq_of_lt hV]
  have key : (BitVec.ofInt 32 (V : Int) &&& ~~~BitVec.ofInt 32 (M : Int)).toNat = 0 ↔ V &&& M = V := by
    rw [← h3]
    generalize BitVec.ofInt 32 (M : Int) = B
    generalize hA : BitVec.ofInt 32 (V : Int) = A at hVn ⊢
    rw [← hVn]
    constructor
    · intro h
      have hz : A &&& ~~~B = 0#32 := BitVec.eq_of_toNat_eq (by rw [h]; rfl)
      have : A &&& B = A := by
        apply BitVec.eq_of_getLsbD_eq
        intro i hi
        have hb := congrArg (fun X => BitVec.getLsbD X i) hz
        simp [hi] at hb
        cases h1 : A.getLsbD i <;> simp_all
      rw [this]
    · intro h
      have hs : A &&& B = A := BitVec.eq_of_toNat_eq h
      have : A &&& ~~~B = 0#32 := by
        apply BitVec.eq_of_getLsbD_eq
        intro i hi
        have hb := congrArg (fun X => BitVec.getLsbD X i) hs
        simp at hb
        simp [hi]
        cases h1 : A.getLsbD i <;> simp_all
      rw [this]
      rfl
  unfold subB
  simp only [Int.toNat_natCast]
  by_cases hk : V &&& M = V
  · rw [key.2 hk]; simp [hk]
  · have : ¬ (BitVec.ofInt 32 (V : Int) &&& ~~~BitVec.ofInt 32 (M : Int)).toNat = 0 := fun h => hk (key.1 h)
    generalize (BitVec.ofInt 32 (V : Int) &&& ~~~BitVec.ofInt 32 (M : Int)).toNat = z at this
    have h2 : ((z : Int) != 0) = true := by rw [bne_iff_ne]; omega
    rw [h2]
    simp [hk]

/-- The two halves of what both have. -/
theorem both_parts {y m : Int} (hy : inR .u64 y) (hm : inR .u64 m) : both y m = both (part true y) (part true m) * 4294967296 + both (part false y) (part false m) ∧ both (part false y) (part false m) < 4294967296 := by
  obtain ⟨Y, rfl, hY⟩ := natU hy
  obtain ⟨M, rfl, hM⟩ := natU hm
  have h1 : (Y &&& M) / 2 ^ 32 = (Y / 2 ^ 32) &&& (M / 2 ^ 32) := by rw [← Nat.shiftRight_eq_div_pow, ← Nat.shiftRight_eq_div_pow, ← Nat.shiftRight_eq_div_pow, Nat.shiftRight_and_distrib]
  have h2 : (Y &&& M) % 2 ^ 32 = (Y % 2 ^ 32) &&& (M % 2 ^ 32) := by rw [Nat.and_mod_two_pow]
  have p1 : ∀ N : Nat, (part true (N : Int)).toNat = N / 2 ^ 32 := by intro N; unfold part; simp; omega
  have p2 : ∀ N : Nat, (part false (N : Int)).toNat = N % 2 ^ 32 := by intro N; unfold part; simp; omega
  unfold both
  rw [p1, p1, p2, p2, ← h1, ← h2]
  simp only [Int.toNat_natCast]
  omega

theorem sub_both {v m : Int} : subB v m = true ↔ both v m = both v v := by
  unfold subB both
  simp
  constructor
  · intro h; omega
  · intro h; omega

end Go.Ab.S3
