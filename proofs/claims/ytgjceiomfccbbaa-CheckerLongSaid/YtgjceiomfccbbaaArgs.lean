/-
Data, bytes, numbers: as arguments.
-/
import Derived.Test.YtgjceiomfccbbaaRecordLaw
namespace Go.Ab.S3
open Go Go.Proofs Go.Ab

def int64 (p : List PV) : Prop := ∃ n, inR .i64 n ∧ p = [.int .i64 n]
def uint64 (p : List PV) : Prop := ∃ n, inR .u64 n ∧ p = [.int .u64 n]
def uint32 (p : List PV) : Prop := ∃ n, inR .u32 n ∧ p = [.int .u32 n]
def uint8 (p : List PV) : Prop := ∃ n, inR .u8 n ∧ p = [.int .u8 n]

theorem read64 {W : World} (m : Nat) : ReadsAt Try.prog W m 3 int64 := ReadsAt.int Try.underlying3
theorem readU {W : World} (m : Nat) : ReadsAt Try.prog W m 23 uint64 := ReadsAt.int Try.underlying23
theorem readW {W : World} (m : Nat) : ReadsAt Try.prog W m 22 uint32 := ReadsAt.int Try.underlying22
theorem read8 {W : World} (m : Nat) : ReadsAt Try.prog W m 5 uint8 := ReadsAt.int Try.underlying5

def six (p : List PV) : Prop := InTurn [uint64, uint64, uint64, uint64, uint64, uint64] p
def isDa (p : List PV) : Prop := ∃ d : Da, d.ok ∧ p = d.row

theorem reads_da {W : World} (fuel : Nat) : ReadsAt Try.prog W fuel 26 isDa :=
  (ReadsAt.struct' (Qs := [uint32, uint32, uint64, six]) Try.underlying26 rfl (by kernel_rfl) fun m _ i f Q hf hQ => by
    match i with
    | 0 => simp at hf hQ; subst hf; subst hQ; exact readW m
    | 1 => simp at hf hQ; subst hf; subst hQ; exact readW m
    | 2 => simp at hf hQ; subst hf; subst hQ; exact readU m
    | 3 => simp at hf hQ; subst hf; subst hQ; exact ReadsAt.array (n := 6) Try.underlying24 (fun k _ => readU k) (by kernel_rfl)
    | i + 4 => simp at hf).mono fun p h => by
  obtain ⟨_, _, rfl, ⟨n, hn, rfl⟩, _, _, rfl, ⟨a, ha, rfl⟩, _, _, rfl, ⟨ip, hip, rfl⟩, _, _, rfl, ⟨_, _, rfl, ⟨a0, h0, rfl⟩, _, _, rfl, ⟨a1, h1, rfl⟩, _, _, rfl, ⟨a2, h2, rfl⟩, _, _, rfl, ⟨a3, h3, rfl⟩, _, _, rfl, ⟨a4, h4, rfl⟩, _, _, rfl, ⟨a5, h5, rfl⟩, rfl⟩, rfl⟩ := h
  exact ⟨⟨n, a, ip, a0, a1, a2, a3, a4, a5⟩, ⟨hn, ha, hip, h0, h1, h2, h3, h4, h5⟩, rfl⟩

def isBytes (p : List PV) : Prop := ∃ bs : List Int, (∀ x ∈ bs, isB x) ∧ p = [.sl (bs.map brow)]

theorem bytes_of : ∀ (rs : List (List PV)), (∀ r ∈ rs, uint8 r) → ∃ bs : List Int, rs = bs.map brow ∧ ∀ x ∈ bs, isB x
  | [], _ => ⟨[], rfl, by simp⟩
  | r :: rs, h => by
    obtain ⟨x, hx, rfl⟩ := h r (List.mem_cons_self ..)
    obtain ⟨bs, rfl, hb⟩ := bytes_of rs fun q hq => h q (List.mem_cons_of_mem _ hq)
    have hx1 : 0 ≤ x := by simpa [IntKind.min, IntKind.signed, IntKind.bits] using hx.1
    have hx2 : x ≤ 255 := by simpa [IntKind.max, IntKind.signed, IntKind.bits] using hx.2
    exact ⟨x :: bs, rfl, fun y hy => by rcases List.mem_cons.1 hy with rfl | hy; exact ⟨hx1, by omega⟩; exact hb y hy⟩

theorem reads_bytes {W : World} (fuel : Nat) : ReadsAt Try.prog W fuel 27 isBytes :=
  (ReadsAt.slice (n := 1) Try.underlying27 (by kernel_rfl) (by decide) (fun m _ => read8 m) fun p ⟨x, _, hp⟩ => by rw [hp]; rfl).mono fun p h => by
  obtain ⟨rs, rfl, hr, -⟩ := h
  obtain ⟨bs, rfl, hb⟩ := bytes_of rs hr
  exact ⟨bs, hb, rfl⟩

end Go.Ab.S3
