/-
Data as bytes, bytes as data, words: both answers.
-/
import Derived.Test.YtgjceiomfccbbaaBits
import Derived.Test.YtgjceiomfccbbaaRA
namespace Go.Ab.S3
open Go Go.Proofs Go.Ab

/-! ### numbers and bytes -/

def le : Nat → Int → List Int
  | 0, _ => []
  | k + 1, n => n % 256 :: le k (n / 256)

def val : List Int → Int
  | [] => 0
  | b :: l => b + 256 * val l

def brow (x : Int) : List PV := [.int .u8 x]
def isB (x : Int) : Prop := 0 ≤ x ∧ x < 256

theorem val_le : ∀ (k : Nat) (n : Int), 0 ≤ n → n < 256 ^ k → val (le k n) = n
  | 0, n, h0, h1 => by simp [le, val] at *; omega
  | k + 1, n, h0, h1 => by
    have h2 : n / 256 < 256 ^ k := by
      rw [Int.pow_succ] at h1
      omega
    simp only [le, val]
    rw [val_le k (n / 256) (by omega) h2]
    omega

theorem le_isB : ∀ (k : Nat) (n : Int), ∀ x ∈ le k n, isB x
  | 0, n, x, h => by simp [le] at h
  | k + 1, n, x, h => by
    rcases List.mem_cons.1 h with rfl | h
    · exact ⟨by omega, by omega⟩
    · exact le_isB k _ x h

theorem val_bound : ∀ (l : List Int), (∀ x ∈ l, isB x) → 0 ≤ val l ∧ val l < 256 ^ l.length
  | [], _ => by simp [val]
  | b :: l, h => by
    have h1 := h b (List.mem_cons_self ..)
    have h2 := val_bound l fun x hx => h x (List.mem_cons_of_mem _ hx)
    unfold isB at h1
    simp only [val, List.length_cons, Int.pow_succ]
    omega

theorem wrapB (n : Int) : IntKind.u8.wrap n = n % 256 := by simp [IntKind.wrap, IntKind.signed, IntKind.bits]

theorem or64 {a b : Nat} (ha : a < 2 ^ 64) (hb : b < 2 ^ 64) : (BitVec.ofInt 64 (a : Int) ||| BitVec.ofInt 64 (b : Int)).toNat = a ||| b := by
  rw [BitVec.toNat_or, BitVec.ofInt_natCast, BitVec.ofInt_natCast, BitVec.toNat_ofNat, BitVec.toNat_ofNat, Nat.mod_eq_of_lt ha, Nat.mod_eq_of_lt hb]

/-- Bytes put above. -/
theorem or_up {e : Nat} (he : e ≤ 56) {a c : Int} (ha : 0 ≤ a ∧ a < 2 ^ e) (hc : isB c) :
    IntKind.u64.wrap ((BitVec.ofInt 64 a ||| BitVec.ofInt 64 (IntKind.u64.wrap (IntKind.u64.wrap c * 2 ^ e))).toNat : Int) = a + c * 2 ^ e := by
  obtain ⟨h1, h2⟩ := hc
  obtain ⟨A, rfl⟩ := Int.eq_ofNat_of_zero_le ha.1
  obtain ⟨C, rfl⟩ := Int.eq_ofNat_of_zero_le h1
  have hA : A < 2 ^ e := by have := ha.2; exact_mod_cast this
  have hC : C < 256 := by omega
  have hp : (2 : Nat) ^ e ≤ 2 ^ 56 := Nat.pow_le_pow_right (by decide) he
  have hm : C * 2 ^ e < 2 ^ 64 := by
    have : C * 2 ^ e ≤ 255 * 2 ^ 56 := Nat.mul_le_mul (by omega) hp
    omega
  have hA64 : A < 2 ^ 64 := by omega
  have e1 : IntKind.u64.wrap (C : Int) = (C : Int) := by rw [wrapU]; omega
  have e2 : IntKind.u64.wrap ((C : Int) * 2 ^ e) = ((C * 2 ^ e : Nat) : Int) := by
    have : ((C : Int) * 2 ^ e) = ((C * 2 ^ e : Nat) : Int) := by push_cast; rfl
    rw [this, wrapU]
    omega
  rw [e1, e2, or64 hA64 hm]
  have e3 : A ||| C * 2 ^ e = A + C * 2 ^ e := by
    rw [Nat.or_comm, Nat.mul_comm, ← Nat.two_pow_add_eq_or_of_lt hA, Nat.add_comm]
  have hs : A + C * 2 ^ e < 2 ^ 64 := by
    have h3 : (C + 1) * 2 ^ e ≤ 256 * 2 ^ 56 := Nat.mul_le_mul (by omega) hp
    have h4 : (C + 1) * 2 ^ e = C * 2 ^ e + 2 ^ e := by rw [Nat.add_mul]; simp
    omega
  rw [e3, wrapU]
  have : ((A : Int) + (C : Int) * 2 ^ e) = ((A + C * 2 ^ e : Nat) : Int) := by push_cast; rfl
  rw [this]
  omega

/-- A byte put below. -/
theorem or_down {n y : Int} (hn : 0 ≤ n ∧ n < 2 ^ 56) (hy : isB y) :
    IntKind.u64.wrap ((BitVec.ofInt 64 (IntKind.u64.wrap (n * 2 ^ 8)) ||| BitVec.ofInt 64 (IntKind.u64.wrap y)).toNat : Int) = y + 256 * n := by
  obtain ⟨h1, h2⟩ := hy
  obtain ⟨A, rfl⟩ := Int.eq_ofNat_of_zero_le hn.1
  obtain ⟨C, rfl⟩ := Int.eq_ofNat_of_zero_le h1
  have hC : C < 2 ^ 8 := by omega
  have e1 : IntKind.u64.wrap (C : Int) = (C : Int) := by rw [wrapU]; omega
  have e2 : IntKind.u64.wrap ((A : Int) * 2 ^ 8) = ((2 ^ 8 * A : Nat) : Int) := by rw [wrapU]; omega
  rw [e1, e2, or64 (by omega) (by omega), ← Nat.two_pow_add_eq_or_of_lt hC, wrapU]
  omega

theorem first (y : Int) (hy : isB y) : IntKind.u64.wrap ((BitVec.ofInt 64 0 ||| BitVec.ofInt 64 (IntKind.u64.wrap y)).toNat : Int) = y := by
  have h := or_down (n := 0) ⟨by omega, by omega⟩ hy
  have e : IntKind.u64.wrap (0 * 2 ^ 8) = 0 := by rw [wrapU]; omega
  rw [e] at h
  omega

/-! ### a number as bytes -/

theorem byte_at {n : Int} (hn : inR .u64 n) : IntKind.u8.wrap (Int.fdiv n (2 ^ 0)) = n % 256 ∧ IntKind.u8.wrap (Int.fdiv n (2 ^ 8)) = n / 256 % 256 ∧ IntKind.u8.wrap (Int.fdiv n (2 ^ 16)) = n / 256 / 256 % 256 ∧ IntKind.u8.wrap (Int.fdiv n (2 ^ 24)) = n / 256 / 256 / 256 % 256 ∧
    IntKind.u8.wrap (Int.fdiv n (2 ^ 32)) = n / 256 / 256 / 256 / 256 % 256 ∧ IntKind.u8.wrap (Int.fdiv n (2 ^ 40)) = n / 256 / 256 / 256 / 256 / 256 % 256 ∧ IntKind.u8.wrap (Int.fdiv n (2 ^ 48)) = n / 256 / 256 / 256 / 256 / 256 / 256 % 256 ∧ IntKind.u8.wrap (Int.fdiv n (2 ^ 56)) = n / 256 / 256 / 256 / 256 / 256 / 256 / 256 % 256 := by
  have h0 := (ofU hn).1
  simp only [wrapB]
  refine ⟨?_, ?_, ?_, ?_, ?_, ?_, ?_, ?_⟩ <;> rw [Int.fdiv_eq_ediv_of_nonneg _ (by decide)] <;> simp <;> omega

theorem number4 {n : Int} (hn : inR .u64 n) : EvF Try.prog prim 29 [.v (.int .u64 n), .v (.int .i64 4)] [] [] [.own 0 ((le 4 n).map brow)] [] := by
  obtain ⟨h0, h1, h2, h3, -⟩ := byte_at hn
  have := F29_4.p0 n
  rw [h0, h1, h2, h3] at this
  exact this

theorem number8 {n : Int} (hn : inR .u64 n) : EvF Try.prog prim 29 [.v (.int .u64 n), .v (.int .i64 8)] [] [] [.own 0 ((le 8 n).map brow)] [] := by
  obtain ⟨h0, h1, h2, h3, h4, h5, h6, h7⟩ := byte_at hn
  have := F29_8.p0 n
  rw [h0, h1, h2, h3, h4, h5, h6, h7] at this
  exact this

def dig (n : Int) : Nat → Int
  | 0 => n % 256
  | i + 1 => dig (n / 256) i

theorem le_snoc : ∀ (i : Nat) (n : Int), le (i + 1) n = le i n ++ [dig n i]
  | 0, n => rfl
  | i + 1, n => by
    have := le_snoc i (n / 256)
    rw [le, this]
    rfl

theorem dig_eq : ∀ (i N : Nat), dig (N : Int) i = ((N / 256 ^ i % 256 : Nat) : Int)
  | 0, N => by simp [dig]
  | i + 1, N => by
    have e : (N : Int) / 256 = ((N / 256 : Nat) : Int) := by omega
    rw [dig, e, dig_eq i (N / 256), Nat.div_div_eq_div_mul, Nat.pow_succ, Nat.mul_comm]

theorem byte_num {n : Int} (hn : inR .u64 n) {i : Nat} (hi : i < 8) :
    IntKind.u8.wrap (IntKind.u64.wrap ((BitVec.ofInt 64 (Int.fdiv n (2 ^ (min (Int.toNat (IntKind.u64.wrap (8 * (i : Int)))) (IntKind.bits .u64)))) &&& BitVec.ofInt 64 255).toNat : Int)) = dig n i := by
  obtain ⟨N, rfl, hN⟩ := natU hn
  have e1 : min (Int.toNat (IntKind.u64.wrap (8 * (i : Int)))) (IntKind.bits .u64) = 8 * i := by
    rw [wrapU]
    simp only [IntKind.bits]
    omega
  have e2 : (2 : Int) ^ (8 * i) = ((256 ^ i : Nat) : Int) := by
    rw [Int.pow_mul, Int.natCast_pow]
    rfl
  rw [e1, e2, dig_eq, Int.fdiv_eq_ediv_of_nonneg _ (Int.natCast_nonneg _), ← Int.natCast_ediv]
  have hle : N / 256 ^ i ≤ N := Nat.div_le_self ..
  have h255 : ((255 : Nat) : Int) = 255 := rfl
  have ha := and64 (a := N / 256 ^ i) (b := 255) (by omega) (by decide)
  rw [h255] at ha
  have hm : (N / 256 ^ i) &&& 255 = (N / 256 ^ i) % 2 ^ 8 := Nat.and_two_pow_sub_one_eq_mod _ 8
  rw [ha, hm, wrapU, wrapB]
  omega

theorem num_loop {n : Int} (hn : inR .u64 n) (size : Nat) (hs : size ≤ 8) (b : List Int) (hb : b.length ≤ 1000) : ∀ (k i : Nat), i + k = size →
    EvK Try.prog prim Try.f30 (loopAt Try.f30 0) (F30.h0 n size ((b ++ le i n).map brow) i) [.own 0 ((b ++ le size n).map brow)] []
  | 0, i, hk => by
    have : i = size := by omega
    subst this
    exact F30.l0_2 n i _ i (by simp)
  | k + 1, i, hk => by
    have hrec := num_loop hn size hs b hb k (i + 1) (by omega)
    have hbyte := byte_num hn (show i < 8 by omega)
    have hlen : (le i n).length = i := by
      have : ∀ (i : Nat) (n : Int), (le i n).length = i := by intro i; induction i with | zero => intro n; rfl | succ i ih => intro n; simp [le, ih]
      exact this i n
    have e : (b ++ le (i + 1) n).map brow = (b ++ le i n).map brow ++ [[.int .u8 (dig n i)]] := by rw [le_snoc, ← List.append_assoc, List.map_append]; rfl
    rw [e] at hrec
    have h1 : ∀ r ∈ (b ++ le i n).map brow ++ [[.int .u8 (dig n i)]], r.length = 1 := by
      intro r hr
      rw [← e] at hr
      obtain ⟨x, -, rfl⟩ := List.mem_map.1 hr
      rfl
    refine F30.l0_1 n size _ i (by simp; omega) (in64 (by omega) (by omega)) (by rw [wrapU]; omega) (by simp; omega) (by rw [hbyte]; exact h1) (in64 (by omega) (by omega)) ?_
    rw [hbyte]
    exact hrec

theorem num_ev {n : Int} (hn : inR .u64 n) (size : Nat) (hs : size ≤ 8) (b : List Int) (hb : b.length ≤ 1000) : EvF Try.prog prim 30 [.own 0 (b.map brow), .v (.int .u64 n), .v (.int .i64 size)] [some (b.map brow).length] [] [.own 0 ((b ++ le size n).map brow)] [] := by
  have := num_loop hn size hs b hb size 0 (by omega)
  have e : b ++ le 0 n = b := by simp [le]
  rw [e] at this
  exact F30.p0 (b.map brow) n size this

/-! ### data -/

structure Da where
  nr : Int
  arch : Int
  ip : Int
  a0 : Int
  a1 : Int
  a2 : Int
  a3 : Int
  a4 : Int
  a5 : Int

def Da.row (d : Da) : List PV := [.int .u32 d.nr, .int .u32 d.arch, .int .u64 d.ip, .int .u64 d.a0, .int .u64 d.a1, .int .u64 d.a2, .int .u64 d.a3, .int .u64 d.a4, .int .u64 d.a5]
def Da.ok (d : Da) : Prop := inR .u32 d.nr ∧ inR .u32 d.arch ∧ inR .u64 d.ip ∧ inR .u64 d.a0 ∧ inR .u64 d.a1 ∧ inR .u64 d.a2 ∧ inR .u64 d.a3 ∧ inR .u64 d.a4 ∧ inR .u64 d.a5
def Da.bytes (d : Da) : List Int := ((((((((le 4 d.nr ++ le 4 d.arch) ++ le 8 d.ip) ++ le 8 d.a0) ++ le 8 d.a1) ++ le 8 d.a2) ++ le 8 d.a3) ++ le 8 d.a4) ++ le 8 d.a5)

theorem Da.bytes_len (d : Da) : d.bytes.length = 64 := rfl

theorem isB_app {a b : List Int} (ha : ∀ x ∈ a, isB x) (hb : ∀ x ∈ b, isB x) : ∀ x ∈ a ++ b, isB x := fun x hx => by
  rcases List.mem_append.1 hx with h | h
  · exact ha x h
  · exact hb x h

theorem Da.bytes_isB (d : Da) : ∀ x ∈ d.bytes, isB x :=
  isB_app (isB_app (isB_app (isB_app (isB_app (isB_app (isB_app (isB_app (le_isB _ _) (le_isB _ _)) (le_isB _ _)) (le_isB _ _)) (le_isB _ _)) (le_isB _ _)) (le_isB _ _)) (le_isB _ _)) (le_isB _ _)

theorem wide {n : Int} (h : inR .u32 n) : IntKind.u64.wrap n = n ∧ inR .u64 n := by
  obtain ⟨h1, h2⟩ := ofW h
  exact ⟨by rw [wrapU]; omega, inU h1 (by omega)⟩

theorem map_app (a b : List Int) : a.map brow ++ b.map brow = (a ++ b).map brow := by simp
theorem brow_one (l : List Int) : ∀ r ∈ l.map brow, r.length = 1 := by
  intro r hr
  obtain ⟨x, -, rfl⟩ := List.mem_map.1 hr
  rfl

theorem bytes_ev (d : Da) (hd : d.ok) : EvF Try.prog prim 19 [.agg d.row] [] [] [.own 0 (d.bytes.map brow)] [] := by
  obtain ⟨h0, h1, h2, h3, h4, h5, h6, h7, h8⟩ := hd
  have n0 := number4 (wide h0).2
  have n1 := number4 (wide h1).2
  have e0 := (wide h0).1
  have e1 := (wide h1).1
  have := F19.p0 d.nr d.arch d.ip d.a0 d.a1 d.a2 d.a3 d.a4 d.a5 ((le 4 d.nr).map brow) ((le 4 d.arch).map brow) ((le 8 d.ip).map brow) ((le 8 d.a0).map brow) ((le 8 d.a1).map brow) ((le 8 d.a2).map brow) ((le 8 d.a3).map brow) ((le 8 d.a4).map brow) ((le 8 d.a5).map brow)
  simp only [map_app] at this
  exact this (Nat.le_of_ble_eq_true rfl) (brow_one _) (Nat.le_of_ble_eq_true rfl) (brow_one _) (Nat.le_of_ble_eq_true rfl) (brow_one _) (Nat.le_of_ble_eq_true rfl) (brow_one _) (Nat.le_of_ble_eq_true rfl) (brow_one _) (Nat.le_of_ble_eq_true rfl) (brow_one _) (Nat.le_of_ble_eq_true rfl) (brow_one _) (Nat.le_of_ble_eq_true rfl) (brow_one _)
    (e0.symm ▸ n0) (e1.symm ▸ n1) (number8 h2) (number8 h3) (number8 h4) (number8 h5) (number8 h6) (number8 h7) (number8 h8)

theorem dbytes_ev (d : Da) (hd : d.ok) : EvF Try.prog prim 20 [.agg d.row] [] [] [.own 0 (d.bytes.map brow)] [] := by
  obtain ⟨h0, h1, h2, h3, h4, h5, h6, h7, h8⟩ := hd
  have e0 := (wide h0).1
  have e1 := (wide h1).1
  have n0 : EvF Try.prog prim 30 [.own 0 [], .v (.int .u64 (IntKind.u64.wrap d.nr)), .v (.int .i64 4)] [some 0] [] [.own 0 ((le 4 d.nr).map brow)] [] := by
    rw [e0]
    exact num_ev (wide h0).2 4 (by omega) [] (by simp)
  have n1 : EvF Try.prog prim 30 [.own 0 ((le 4 d.nr).map brow), .v (.int .u64 (IntKind.u64.wrap d.arch)), .v (.int .i64 4)] [some ((le 4 d.nr).map brow).length] [] [.own 0 ((le 4 d.nr ++ le 4 d.arch).map brow)] [] := by
    rw [e1]
    exact num_ev (wide h1).2 4 (by omega) (le 4 d.nr) (Nat.le_of_ble_eq_true rfl)
  have n2 := num_ev h2 8 (by omega) (le 4 d.nr ++ le 4 d.arch) (Nat.le_of_ble_eq_true rfl)
  have n3 := num_ev h3 8 (by omega) ((le 4 d.nr ++ le 4 d.arch) ++ le 8 d.ip) (Nat.le_of_ble_eq_true rfl)
  have n4 := num_ev h4 8 (by omega) (((le 4 d.nr ++ le 4 d.arch) ++ le 8 d.ip) ++ le 8 d.a0) (Nat.le_of_ble_eq_true rfl)
  have n5 := num_ev h5 8 (by omega) ((((le 4 d.nr ++ le 4 d.arch) ++ le 8 d.ip) ++ le 8 d.a0) ++ le 8 d.a1) (Nat.le_of_ble_eq_true rfl)
  have n6 := num_ev h6 8 (by omega) (((((le 4 d.nr ++ le 4 d.arch) ++ le 8 d.ip) ++ le 8 d.a0) ++ le 8 d.a1) ++ le 8 d.a2) (Nat.le_of_ble_eq_true rfl)
  have n7 := num_ev h7 8 (by omega) ((((((le 4 d.nr ++ le 4 d.arch) ++ le 8 d.ip) ++ le 8 d.a0) ++ le 8 d.a1) ++ le 8 d.a2) ++ le 8 d.a3) (Nat.le_of_ble_eq_true rfl)
  have n8 := num_ev h8 8 (by omega) (((((((le 4 d.nr ++ le 4 d.arch) ++ le 8 d.ip) ++ le 8 d.a0) ++ le 8 d.a1) ++ le 8 d.a2) ++ le 8 d.a3) ++ le 8 d.a4) (Nat.le_of_ble_eq_true rfl)
  exact F20.p0 d.nr d.arch d.ip d.a0 d.a1 d.a2 d.a3 d.a4 d.a5 _ _ _ _ _ _ _ _ _ n0 n1 n2 n3 n4 n5 n6 n7 n8

/-! ### the number that some bytes are -/

theorem value4 {y0 y1 y2 y3 : Int} (h0 : isB y0) (h1 : isB y1) (h2 : isB y2) (h3 : isB y3) : EvF Try.prog prim 27 [.v (.sl ([y0, y1, y2, y3].map brow))] [] [] [.v (.int .u64 (val [y0, y1, y2, y3]))] [] := by
  have := F27_4.p0 y0 y1 y2 y3
  have b0 := h0
  have b1 := h1
  have b2 := h2
  unfold isB at b0 b1 b2
  rw [or_up (e := 0) (by omega) ⟨by omega, by omega⟩ h0, or_up (e := 8) (by omega) ⟨by simp; omega, by simp; omega⟩ h1, or_up (e := 16) (by omega) ⟨by simp; omega, by simp; omega⟩ h2, or_up (e := 24) (by omega) ⟨by simp; omega, by simp; omega⟩ h3] at this
  have e : val [y0, y1, y2, y3] = 0 + y0 * 2 ^ 0 + y1 * 2 ^ 8 + y2 * 2 ^ 16 + y3 * 2 ^ 24 := by simp only [val]; omega
  rw [e]
  exact this

theorem value8 {y0 y1 y2 y3 y4 y5 y6 y7 : Int} (h0 : isB y0) (h1 : isB y1) (h2 : isB y2) (h3 : isB y3) (h4 : isB y4) (h5 : isB y5) (h6 : isB y6) (h7 : isB y7) : EvF Try.prog prim 27 [.v (.sl ([y0, y1, y2, y3, y4, y5, y6, y7].map brow))] [] [] [.v (.int .u64 (val [y0, y1, y2, y3, y4, y5, y6, y7]))] [] := by
  have := F27_8.p0 y0 y1 y2 y3 y4 y5 y6 y7
  have b0 := h0
  have b1 := h1
  have b2 := h2
  have b3 := h3
  have b4 := h4
  have b5 := h5
  have b6 := h6
  unfold isB at b0 b1 b2 b3 b4 b5 b6
  rw [or_up (e := 0) (by omega) ⟨by omega, by omega⟩ h0, or_up (e := 8) (by omega) ⟨by simp; omega, by simp; omega⟩ h1, or_up (e := 16) (by omega) ⟨by simp; omega, by simp; omega⟩ h2, or_up (e := 24) (by omega) ⟨by simp; omega, by simp; omega⟩ h3,
    or_up (e := 32) (by omega) ⟨by simp; omega, by simp; omega⟩ h4, or_up (e := 40) (by omega) ⟨by simp; omega, by simp; omega⟩ h5, or_up (e := 48) (by omega) ⟨by simp; omega, by simp; omega⟩ h6, or_up (e := 56) (by omega) ⟨by simp; omega, by simp; omega⟩ h7] at this
  have e : val [y0, y1, y2, y3, y4, y5, y6, y7] = 0 + y0 * 2 ^ 0 + y1 * 2 ^ 8 + y2 * 2 ^ 16 + y3 * 2 ^ 24 + y4 * 2 ^ 32 + y5 * 2 ^ 40 + y6 * 2 ^ 48 + y7 * 2 ^ 56 := by simp only [val]; omega
  rw [e]
  exact this

theorem value_ev (l : List Int) (h : ∀ x ∈ l, isB x) (hl : l.length = 4 ∨ l.length = 8) : EvF Try.prog prim 27 [.v (.sl (l.map brow))] [] [] [.v (.int .u64 (val l))] [] := by
  rcases hl with hl | hl
  · match l, hl with
    | [y0, y1, y2, y3], _ => exact value4 (h _ (by simp)) (h _ (by simp)) (h _ (by simp)) (h _ (by simp))
  · match l, hl with
    | [y0, y1, y2, y3, y4, y5, y6, y7], _ => exact value8 (h _ (by simp)) (h _ (by simp)) (h _ (by simp)) (h _ (by simp)) (h _ (by simp)) (h _ (by simp)) (h _ (by simp)) (h _ (by simp))

theorem get4 (bs : List Int) (hb : ∀ x ∈ bs, isB x) (at_ : Nat) (h : at_ + 4 ≤ bs.length) (hl : bs.length ≤ 1000) : EvF Try.prog prim 28 [.v (.sl (bs.map brow)), .v (.int .i64 at_), .v (.int .i64 4)] [] [] [.v (.int .u64 (val ((bs.drop at_).take 4)))] [] := by
  have hget : ∀ (i : Nat) y, (bs.drop at_)[i]? = some y → (bs.map brow)[Int.toNat ((at_ : Int) + (i : Int))]? = some [.int .u8 y] := by
    intro i y hy
    rw [List.getElem?_drop] at hy
    have e : Int.toNat ((at_ : Int) + (i : Int)) = at_ + i := by omega
    rw [e, List.getElem?_map, hy]
    rfl
  have hm : ∀ y ∈ bs.drop at_, isB y := fun y hy => hb y (List.mem_of_mem_drop hy)
  have hlen : 4 ≤ (bs.drop at_).length := by simp; omega
  match hd : bs.drop at_, hlen with
  | y0 :: y1 :: y2 :: y3 :: l, _ =>
    rw [hd] at hget hm
    have b0 := hm y0 (by simp)
    have b1 := hm y1 (by simp)
    have b2 := hm y2 (by simp)
    have b3 := hm y3 (by simp)
    have := F28_4.p0 (bs.map brow) at_ y3 y2 y1 y0 (in64 (by omega) (by omega)) (by omega) (hget 3 y3 rfl) (in64 (by omega) (by omega)) (by omega) (hget 2 y2 rfl) (in64 (by omega) (by omega)) (by omega) (hget 1 y1 rfl) (in64 (by omega) (by omega)) (by omega) (hget 0 y0 rfl)
    have c0 := b0
    have c1 := b1
    have c2 := b2
    have c3 := b3
    unfold isB at c0 c1 c2 c3
    rw [first y3 b3, or_down ⟨by omega, by omega⟩ b2, or_down ⟨by omega, by omega⟩ b1, or_down ⟨by omega, by omega⟩ b0] at this
    have e : val (List.take 4 (y0 :: y1 :: y2 :: y3 :: l)) = y0 + 256 * (y1 + 256 * (y2 + 256 * y3)) := by simp [val]
    rw [e]
    exact this

theorem get8 (bs : List Int) (hb : ∀ x ∈ bs, isB x) (at_ : Nat) (h : at_ + 8 ≤ bs.length) (hl : bs.length ≤ 1000) : EvF Try.prog prim 28 [.v (.sl (bs.map brow)), .v (.int .i64 at_), .v (.int .i64 8)] [] [] [.v (.int .u64 (val ((bs.drop at_).take 8)))] [] := by
  have hget : ∀ (i : Nat) y, (bs.drop at_)[i]? = some y → (bs.map brow)[Int.toNat ((at_ : Int) + (i : Int))]? = some [.int .u8 y] := by
    intro i y hy
    rw [List.getElem?_drop] at hy
    have e : Int.toNat ((at_ : Int) + (i : Int)) = at_ + i := by omega
    rw [e, List.getElem?_map, hy]
    rfl
  have hm : ∀ y ∈ bs.drop at_, isB y := fun y hy => hb y (List.mem_of_mem_drop hy)
  have hlen : 8 ≤ (bs.drop at_).length := by simp; omega
  match hd : bs.drop at_, hlen with
  | y0 :: y1 :: y2 :: y3 :: y4 :: y5 :: y6 :: y7 :: l, _ =>
    rw [hd] at hget hm
    have b0 := hm y0 (by simp)
    have b1 := hm y1 (by simp)
    have b2 := hm y2 (by simp)
    have b3 := hm y3 (by simp)
    have b4 := hm y4 (by simp)
    have b5 := hm y5 (by simp)
    have b6 := hm y6 (by simp)
    have b7 := hm y7 (by simp)
    have := F28_8.p0 (bs.map brow) at_ y7 y6 y5 y4 y3 y2 y1 y0 (in64 (by omega) (by omega)) (by omega) (hget 7 y7 rfl) (in64 (by omega) (by omega)) (by omega) (hget 6 y6 rfl) (in64 (by omega) (by omega)) (by omega) (hget 5 y5 rfl) (in64 (by omega) (by omega)) (by omega) (hget 4 y4 rfl)
      (in64 (by omega) (by omega)) (by omega) (hget 3 y3 rfl) (in64 (by omega) (by omega)) (by omega) (hget 2 y2 rfl) (in64 (by omega) (by omega)) (by omega) (hget 1 y1 rfl) (in64 (by omega) (by omega)) (by omega) (hget 0 y0 rfl)
    have c0 := b0
    have c1 := b1
    have c2 := b2
    have c3 := b3
    have c4 := b4
    have c5 := b5
    have c6 := b6
    have c7 := b7
    unfold isB at c0 c1 c2 c3 c4 c5 c6 c7
    rw [first y7 b7, or_down ⟨by omega, by omega⟩ b6, or_down ⟨by omega, by omega⟩ b5, or_down ⟨by omega, by omega⟩ b4, or_down ⟨by omega, by omega⟩ b3, or_down ⟨by omega, by omega⟩ b2, or_down ⟨by omega, by omega⟩ b1, or_down ⟨by omega, by omega⟩ b0] at this
    have e : val (List.take 8 (y0 :: y1 :: y2 :: y3 :: y4 :: y5 :: y6 :: y7 :: l)) = y0 + 256 * (y1 + 256 * (y2 + 256 * (y3 + 256 * (y4 + 256 * (y5 + 256 * (y6 + 256 * y7)))))) := by simp [val]
    rw [e]
    exact this

end Go.Ab.S3
