/-
The laws of chapter 2.
-/
import Derived.Test.YtgjceiomfccbbaaRecord
namespace Go.Ab.S3
open Go Go.Proofs Go.Ab

/-! ### bytes read -/

/-- So many bytes from a place on. -/
def cut (bs : List Int) (a k : Nat) : Int := val ((bs.drop a).take k)

theorem cut_bound (bs : List Int) (hb : ∀ x ∈ bs, isB x) (a k : Nat) : 0 ≤ cut bs a k ∧ cut bs a k < 256 ^ k := by
  have h := val_bound ((bs.drop a).take k) fun x hx => hb x (List.mem_of_mem_drop (List.mem_of_mem_take hx))
  refine ⟨h.1, Int.lt_of_lt_of_le h.2 ?_⟩
  have hl : ((bs.drop a).take k).length ≤ k := by simp; omega
  have h2 : (256 : Nat) ^ ((bs.drop a).take k).length ≤ 256 ^ k := Nat.pow_le_pow_right (by decide) hl
  have h3 := Int.ofNat_le.2 h2
  rw [Int.natCast_pow, Int.natCast_pow] at h3
  exact h3

def dec (bs : List Int) : Da := ⟨IntKind.u32.wrap (cut bs 0 4), IntKind.u32.wrap (cut bs 4 4), cut bs 8 8, cut bs 16 8, cut bs 24 8, cut bs 32 8, cut bs 40 8, cut bs 48 8, cut bs 56 8⟩
def noDa : Da := ⟨0, 0, 0, 0, 0, 0, 0, 0, 0⟩

theorem slice_cut (bs : List Int) (a k : Nat) : ((bs.map brow).take (a + k)).drop a = (((bs.drop a).take k)).map brow := by
  rw [List.drop_take, ← List.map_drop, Nat.add_sub_cancel_left, ← List.map_take]

theorem value_cut (bs : List Int) (hb : ∀ x ∈ bs, isB x) (a k : Nat) (hk : k = 4 ∨ k = 8) (h : a + k ≤ bs.length) : EvF Try.prog prim 27 [.v (.sl (((bs.map brow).take (a + k)).drop a))] [] [] [.v (.int .u64 (cut bs a k))] [] := by
  rw [slice_cut]
  refine value_ev _ (fun x hx => hb x (List.mem_of_mem_drop (List.mem_of_mem_take hx))) ?_
  have : ((bs.drop a).take k).length = k := by simp; omega
  omega

theorem read_ev (bs : List Int) (hb : ∀ x ∈ bs, isB x) : EvF Try.prog prim 15 [.v (.sl (bs.map brow))] [] [] [.agg (if bs.length = 64 then dec bs else noDa).row, .v (.int .i64 (if bs.length = 64 then 0 else 2))] [] := by
  by_cases hl : bs.length = 64
  · rw [if_pos hl, if_pos hl]
    have e : ((bs.map brow).length : Int) = 64 := by rw [List.length_map]; omega
    have one := brow_one bs
    exact F15.p1 (bs.map brow) _ _ _ _ _ _ _ _ _ (by rw [e]; rfl) ⟨by omega, by omega, by omega, .inl rfl⟩ ⟨by omega, by omega, by omega, .inr one⟩ ⟨by omega, by omega, by omega, .inr one⟩ ⟨by omega, by omega, by omega, .inr one⟩ ⟨by omega, by omega, by omega, .inr one⟩ ⟨by omega, by omega, by omega, .inr one⟩
      ⟨by omega, by omega, by omega, .inr one⟩ ⟨by omega, by omega, by omega, .inr one⟩ ⟨by omega, by omega, by omega, .inr one⟩
      (value_cut bs hb 0 4 (.inl rfl) (by omega)) (value_cut bs hb 4 4 (.inl rfl) (by omega)) (value_cut bs hb 8 8 (.inr rfl) (by omega)) (value_cut bs hb 16 8 (.inr rfl) (by omega)) (value_cut bs hb 24 8 (.inr rfl) (by omega)) (value_cut bs hb 32 8 (.inr rfl) (by omega))
      (value_cut bs hb 40 8 (.inr rfl) (by omega)) (value_cut bs hb 48 8 (.inr rfl) (by omega)) (value_cut bs hb 56 8 (.inr rfl) (by omega))
  · rw [if_neg hl, if_neg hl]
    exact F15.p0 (bs.map brow) (by rw [List.length_map, bne_iff_ne]; omega)

theorem readdata_ev (bs : List Int) (hb : ∀ x ∈ bs, isB x) : EvF Try.prog prim 16 [.v (.sl (bs.map brow))] [] [] [.agg (if bs.length = 64 then dec bs else noDa).row, .v (.int .i64 (if bs.length = 64 then 0 else 2))] [] := by
  by_cases hl : bs.length = 64
  · rw [if_pos hl, if_pos hl]
    have e : ((bs.map brow).length : Int) = 64 := by rw [List.length_map]; omega
    exact F16.p1 (bs.map brow) _ _ _ _ _ _ _ _ _ (by rw [e]; rfl) (get4 bs hb 0 (by omega) (by omega)) (get4 bs hb 4 (by omega) (by omega)) (get8 bs hb 8 (by omega) (by omega)) (get8 bs hb 16 (by omega) (by omega)) (get8 bs hb 24 (by omega) (by omega)) (get8 bs hb 32 (by omega) (by omega))
      (get8 bs hb 40 (by omega) (by omega)) (get8 bs hb 48 (by omega) (by omega)) (get8 bs hb 56 (by omega) (by omega))
  · rw [if_neg hl, if_neg hl]
    exact F16.p0 (bs.map brow) (by rw [List.length_map, bne_iff_ne]; omega)

theorem wrapI {n : Int} (h : 0 ≤ n) (h' : n < 9223372036854775808) : IntKind.i64.wrap n = n := by
  have e : n % 18446744073709551616 = n := by omega
  have e2 : IntKind.i64.wrap n = if (true && decide (n % 18446744073709551616 ≥ 9223372036854775808)) = true then n % 18446744073709551616 - 18446744073709551616 else n % 18446744073709551616 := rfl
  rw [e2, e, if_neg]
  simp
  omega

/-! ### words -/

def Da.hasWord (off : Int) : Bool := decide (off % 4 = 0 ∧ off ≤ 60)
def Da.word (d : Da) (off : Int) : Int := if Da.hasWord off then cut d.bytes off.toNat 4 else 0

theorem bytes_soft (d : Da) (hd : d.ok) : EvF Try.prog prim 19 [.agg d.row] [] [] [.v (.sl (d.bytes.map brow))] [] := (bytes_ev d hd).soft
theorem dbytes_soft (d : Da) (hd : d.ok) : EvF Try.prog prim 20 [.agg d.row] [] [] [.v (.sl (d.bytes.map brow))] [] := (dbytes_ev d hd).soft

theorem off_guard {off : Int} (h : inR .u32 off) : (bif ((Int.tmod off 4) != 0) then true else (decide (off > 60))) = !Da.hasWord off := by
  have h0 := (ofW h).1
  rw [Int.tmod_eq_emod_of_nonneg h0]
  unfold Da.hasWord
  by_cases h1 : off % 4 = 0 <;> by_cases h2 : off ≤ 60 <;> simp [h1, h2] <;> omega

theorem cut_word (d : Da) (a : Nat) : IntKind.u32.wrap (cut d.bytes a 4) = cut d.bytes a 4 := by
  have := cut_bound d.bytes d.bytes_isB a 4
  rw [wrapW]
  omega

theorem word_ev (d : Da) (hd : d.ok) {off : Int} (ho : inR .u32 off) : EvF Try.prog prim 17 [.agg d.row, .v (.int .u32 off)] [] [] [.v (.int .u32 (d.word off)), .v (.bool (Da.hasWord off))] [] := by
  have hg := off_guard ho
  unfold Da.word
  cases hw : Da.hasWord off with
  | false => rw [hw] at hg; exact F17.p0 d.nr d.arch d.ip d.a0 d.a1 d.a2 d.a3 d.a4 d.a5 off hg
  | true =>
    rw [hw] at hg
    have h0 := (ofW ho).1
    have h1 : off % 4 = 0 ∧ off ≤ 60 := by simpa [Da.hasWord] using hw
    obtain ⟨n, rfl⟩ := Int.eq_ofNat_of_zero_le h0
    have hl := d.bytes_len
    have e : IntKind.u32.wrap ((n : Int) + 4) = ((n + 4 : Nat) : Int) := by rw [wrapW]; omega
    have hv := value_cut d.bytes d.bytes_isB n 4 (.inl rfl) (by omega)
    have := F17.p1 d.nr d.arch d.ip d.a0 d.a1 d.a2 d.a3 d.a4 d.a5 n (d.bytes.map brow) (cut d.bytes n 4) hg ⟨by omega, by rw [e]; omega, by rw [e, List.length_map, hl]; omega, .inr (brow_one _)⟩ (bytes_soft d hd) (by rw [e]; exact hv)
    rw [cut_word] at this
    rw [if_pos rfl]
    exact this

theorem rword_ev (d : Da) (hd : d.ok) {off : Int} (ho : inR .u32 off) : EvF Try.prog prim 18 [.agg d.row, .v (.int .u32 off)] [] [] [.v (.int .u32 (d.word off)), .v (.bool (Da.hasWord off))] [] := by
  have hg := off_guard ho
  unfold Da.word
  cases hw : Da.hasWord off with
  | false => rw [hw] at hg; exact F18.p0 d.nr d.arch d.ip d.a0 d.a1 d.a2 d.a3 d.a4 d.a5 off hg
  | true =>
    rw [hw] at hg
    have h0 := (ofW ho).1
    have h1 : off % 4 = 0 ∧ off ≤ 60 := by simpa [Da.hasWord] using hw
    obtain ⟨n, rfl⟩ := Int.eq_ofNat_of_zero_le h0
    have hl := d.bytes_len
    have e : IntKind.i64.wrap (n : Int) = n := wrapI (by omega) (by omega)
    have hv := get4 d.bytes d.bytes_isB n (by omega) (by omega)
    have := F18.p1 d.nr d.arch d.ip d.a0 d.a1 d.a2 d.a3 d.a4 d.a5 n (d.bytes.map brow) (cut d.bytes n 4) hg (dbytes_soft d hd) (by rw [e]; exact hv)
    rw [cut_word] at this
    rw [if_pos rfl]
    exact this

/-! ### what was written is read -/

theorem dec_bytes (d : Da) (hd : d.ok) : dec d.bytes = d := by
  obtain ⟨h0, h1, h2, h3, h4, h5, h6, h7, h8⟩ := hd
  have w : ∀ {n : Int}, inR .u32 n → IntKind.u32.wrap (val (le 4 n)) = n := fun h => by
    have := ofW h
    rw [val_le 4 _ this.1 (by simp; omega), wrapW]
    omega
  have u : ∀ {n : Int}, inR .u64 n → val (le 8 n) = n := fun h => by
    have := ofU h
    exact val_le 8 _ this.1 (by simp; omega)
  have e : dec d.bytes = ⟨IntKind.u32.wrap (val (le 4 d.nr)), IntKind.u32.wrap (val (le 4 d.arch)), val (le 8 d.ip), val (le 8 d.a0), val (le 8 d.a1), val (le 8 d.a2), val (le 8 d.a3), val (le 8 d.a4), val (le 8 d.a5)⟩ := rfl
  rw [e, w h0, w h1, u h2, u h3, u h4, u h5, u h6, u h7, u h8]

theorem bytesOf_rows : ∀ (l : List Int), bytesOf (l.map brow) = some (l.map fun n => UInt8.ofNat n.toNat)
  | [] => rfl
  | x :: l => by
    show bytesOf ([.int .u8 x] :: l.map brow) = _
    rw [bytesOf, bytesOf_rows l]
    rfl

theorem small32 {n : Int} (h : 0 ≤ n) (h' : n ≤ 4294967295) : inR .u32 n := inW h h'

theorem alive2 : EvF Try.prog prim 14 [] [] [] [.v (.bool true)] [] := by
  have z : inR .u64 0 := inU (by decide) (by decide)
  have d9 : (Da.mk 0 9 0 0 0 0 0 0 0).ok := ⟨inW (by decide) (by decide), inW (by decide) (by decide), z, z, z, z, z, z, z⟩
  have d7 : (Da.mk 7 0 0 0 0 0 0 0 0).ok := ⟨inW (by decide) (by decide), inW (by decide) (by decide), z, z, z, z, z, z, z⟩
  have h0 := word_ev _ d9 (off := 4) (inW (by decide) (by decide))
  have e0 : (Da.mk 0 9 0 0 0 0 0 0 0).word 4 = 9 := by decide +kernel
  have e1 : Da.hasWord 4 = true := by decide +kernel
  rw [e0, e1] at h0
  have h1 := bytes_soft _ d7
  have h2 := read_ev (Da.mk 7 0 0 0 0 0 0 0 0).bytes (Da.bytes_isB _)
  rw [if_pos (Da.bytes_len _), if_pos (Da.bytes_len _), dec_bytes _ d7] at h2
  exact F14.p0 9 true _ 7 0 0 0 0 0 0 0 0 0 0 h0 h1 h2 (fun _ => F21.p0 0)

theorem recordTells (d : Da) (bs : List Int) (off : Int) (hd : d.ok) (hb : ∀ x ∈ bs, isB x) (ho : inR .u32 off) : EvF Try.prog prim 3 [.agg d.row, .v (.sl (bs.map brow)), .v (.int .u32 off)] [] [] [.v (.bool true)] [] := by
  by_cases hl : bs.length > 200
  · exact F3.p0 d.nr d.arch d.ip d.a0 d.a1 d.a2 d.a3 d.a4 d.a5 (bs.map brow) off true (by simp; omega) alive2
  · have h1 := read_ev bs hb
    have h2 := readdata_ev bs hb
    have h3 := word_ev d hd ho
    have h4 := rword_ev d hd ho
    have h5 := bytes_soft d hd
    have h6 := read_ev d.bytes d.bytes_isB
    rw [if_pos d.bytes_len, if_pos d.bytes_len, dec_bytes d hd] at h6
    have h8 := dbytes_soft d hd
    generalize (if bs.length = 64 then dec bs else noDa) = x at h1 h2
    generalize (if bs.length = 64 then (0 : Int) else 2) = e at h1 h2
    generalize d.word off = w at h3 h4
    generalize Da.hasWord off = t at h3 h4
    have := F3.p1 d.nr d.arch d.ip d.a0 d.a1 d.a2 d.a3 d.a4 d.a5 (bs.map brow) off true x.nr x.arch x.ip x.a0 x.a1 x.a2 x.a3 x.a4 x.a5 e x.nr x.arch x.ip x.a0 x.a1 x.a2 x.a3 x.a4 x.a5 e w t w t (d.bytes.map brow) d.nr d.arch d.ip d.a0 d.a1 d.a2 d.a3 d.a4 d.a5 0
      (d.bytes.map brow) _ (d.bytes.map brow) _ e 0 (by simp; omega) (by simp; omega) (brow_one bs) (bytesOf_rows d.bytes) (bytesOf_rows d.bytes) alive2 h1 h2 h3 h4 h5 h6 h5 h8 (fun _ => F21.p0 e) (fun _ => F21.p0 0)
    simp only [beq_self_eq_true, Bool.and_self, Bool.cond_self, cond_true] at this
    exact this

/-! ### each argument as two words -/

def Da.arg (d : Da) (i : Nat) : Int := [d.a0, d.a1, d.a2, d.a3, d.a4, d.a5].getD i 0

theorem le4_of (n : Int) : (le 8 n).take 4 = le 4 n ∧ ((le 8 n).drop 4).take 4 = le 4 (n / 256 / 256 / 256 / 256) := ⟨rfl, rfl⟩

theorem arg_words (d : Da) (i : Nat) (hi : i < 6) : (d.bytes.drop (16 + 8 * i)).take 4 = le 4 (d.arg i) ∧ (d.bytes.drop (20 + 8 * i)).take 4 = le 4 (d.arg i / 256 / 256 / 256 / 256) := by
  match i, hi with
  | 0, _ => exact ⟨rfl, rfl⟩
  | 1, _ => exact ⟨rfl, rfl⟩
  | 2, _ => exact ⟨rfl, rfl⟩
  | 3, _ => exact ⟨rfl, rfl⟩
  | 4, _ => exact ⟨rfl, rfl⟩
  | 5, _ => exact ⟨rfl, rfl⟩

theorem arg_in (d : Da) (hd : d.ok) (i : Nat) (hi : i < 6) : inR .u64 (d.arg i) := by
  obtain ⟨h0, h1, h2, h3, h4, h5, h6, h7, h8⟩ := hd
  match i, hi with
  | 0, _ => exact h3
  | 1, _ => exact h4
  | 2, _ => exact h5
  | 3, _ => exact h6
  | 4, _ => exact h7
  | 5, _ => exact h8

theorem arg_at (d : Da) (i : Nat) (hi : i < 6) : ([.v (.int .u32 d.nr), .v (.int .u32 d.arch), .v (.int .u64 d.ip), .v (.int .u64 d.a0), .v (.int .u64 d.a1), .v (.int .u64 d.a2), .v (.int .u64 d.a3), .v (.int .u64 d.a4), .v (.int .u64 d.a5)] : List AV)[(3 + Int.toNat (i : Int) * 1)]? = some (.v (.int .u64 (d.arg i))) := by
  match i, hi with
  | 0, _ => rfl
  | 1, _ => rfl
  | 2, _ => rfl
  | 3, _ => rfl
  | 4, _ => rfl
  | 5, _ => rfl

theorem val4 {n : Int} (h0 : 0 ≤ n) : val (le 4 n) = n % 4294967296 := by simp only [le, val]; omega

theorem two_words {a b : Int} (ha : 0 ≤ a ∧ a < 4294967296) (hb : 0 ≤ b ∧ b < 4294967296) :
    IntKind.u64.wrap ((BitVec.ofInt 64 (IntKind.u64.wrap ((IntKind.u64.wrap b) * 2 ^ 32)) ||| BitVec.ofInt 64 (IntKind.u64.wrap a)).toNat : Int) = b * 4294967296 + a := by
  obtain ⟨A, rfl⟩ := Int.eq_ofNat_of_zero_le ha.1
  obtain ⟨B, rfl⟩ := Int.eq_ofNat_of_zero_le hb.1
  have e1 : IntKind.u64.wrap (A : Int) = (A : Int) := by rw [wrapU]; omega
  have e2 : IntKind.u64.wrap (B : Int) = (B : Int) := by rw [wrapU]; omega
  have e3 : IntKind.u64.wrap ((B : Int) * 2 ^ 32) = ((2 ^ 32 * B : Nat) : Int) := by rw [wrapU]; omega
  rw [e1, e2, e3, or64 (by omega) (by omega), ← Nat.two_pow_add_eq_or_of_lt (show A < 2 ^ 32 by omega), wrapU]
  omega

theorem recordHalves (d : Da) (i : Int) (hd : d.ok) (hi : inR .i64 i) : EvF Try.prog prim 4 [.agg d.row, .v (.int .i64 i)] [] [] [.v (.bool true)] [] := by
  cases hg : (bif (bif (!true) then true else (decide (i < 0))) then true else (decide (i > 5))) with
  | true => exact F4.p0 d.nr d.arch d.ip d.a0 d.a1 d.a2 d.a3 d.a4 d.a5 i true hg alive2
  | false =>
    have h1 : ¬ i < 0 := fun h => by simp [h] at hg
    have h2 : ¬ i > 5 := fun h => by simp [h] at hg
    obtain ⟨n, rfl⟩ := Int.eq_ofNat_of_zero_le (show 0 ≤ i by omega)
    have hn : n < 6 := by omega
    have e16 : IntKind.u32.wrap (16 + 8 * (n : Int)) = ((16 + 8 * n : Nat) : Int) := by rw [wrapW]; omega
    have e20 : IntKind.u32.wrap (20 + 8 * (n : Int)) = ((20 + 8 * n : Nat) : Int) := by rw [wrapW]; omega
    have e17 : IntKind.u32.wrap (17 + 8 * (n : Int)) = ((17 + 8 * n : Nat) : Int) := by rw [wrapW]; omega
    have w16 := word_ev d hd (off := ((16 + 8 * n : Nat) : Int)) (inW (by omega) (by omega))
    have w20 := word_ev d hd (off := ((20 + 8 * n : Nat) : Int)) (inW (by omega) (by omega))
    have w17 := word_ev d hd (off := ((17 + 8 * n : Nat) : Int)) (inW (by omega) (by omega))
    have w0 := word_ev d hd (off := 0) (inW (by omega) (by omega))
    have w64 := word_ev d hd (off := 64) (inW (by omega) (by omega))
    have b16 : Da.hasWord ((16 + 8 * n : Nat) : Int) = true := by simp [Da.hasWord]; omega
    have b20 : Da.hasWord ((20 + 8 * n : Nat) : Int) = true := by simp [Da.hasWord]; omega
    have b17 : Da.hasWord ((17 + 8 * n : Nat) : Int) = false := by simp [Da.hasWord]; omega
    have b0 : Da.hasWord 0 = true := by decide
    have b64 : Da.hasWord 64 = false := by decide
    have ain := arg_in d hd n hn
    have au := ofU ain
    obtain ⟨a1, a2⟩ := arg_words d n hn
    have v16 : d.word ((16 + 8 * n : Nat) : Int) = d.arg n % 4294967296 := by
      unfold Da.word cut
      rw [b16, if_pos rfl, Int.toNat_natCast, a1, val4 au.1]
    have v20 : d.word ((20 + 8 * n : Nat) : Int) = d.arg n / 4294967296 := by
      unfold Da.word cut
      rw [b20, if_pos rfl, Int.toNat_natCast, a2, val4 (by omega)]
      omega
    have v0 : d.word 0 = d.nr := by
      have e : d.word 0 = val (le 4 d.nr) := rfl
      have := ofW hd.1
      rw [e, val4 this.1]
      omega
    rw [b16, v16] at w16
    rw [b20, v20] at w20
    rw [b17] at w17
    rw [b0, v0] at w0
    rw [b64] at w64
    rw [← e16] at w16
    rw [← e20] at w20
    rw [← e17] at w17
    have := F4.p1 d.nr d.arch d.ip d.a0 d.a1 d.a2 d.a3 d.a4 d.a5 n true _ true _ true _ true _ false _ false (d.arg n) hg (in64 (by omega) (by omega)) (in64 (by omega) (by omega)) (in64 (by omega) (by omega)) (in64 (by omega) (by omega)) (fun _ => by omega) (fun _ => arg_at d n hn) alive2 w16 w20 w0 w64 w17
    rw [two_words (by omega) (by omega)] at this
    have e : (d.arg n / 4294967296 * 4294967296 + d.arg n % 4294967296 == d.arg n) = true := by rw [beq_iff_eq]; omega
    rw [e] at this
    simp only [beq_self_eq_true, cond_true, Bool.not_false] at this
    exact this

end Go.Ab.S3
