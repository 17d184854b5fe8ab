/-
Halves, atoms, clauses, six numbers: as arguments.
-/
import Derived.Test.YtdddimnfhgmadaaHalfLaw
namespace Go.Ab.S2
open Go Go.Proofs Go.Ab

def int64 (p : List PV) : Prop := ∃ n, inR .i64 n ∧ p = [.int .i64 n]
def uint64 (p : List PV) : Prop := ∃ n, inR .u64 n ∧ p = [.int .u64 n]
def uint32 (p : List PV) : Prop := ∃ n, inR .u32 n ∧ p = [.int .u32 n]
def isBool (p : List PV) : Prop := ∃ b : Bool, p = [.bool b]

theorem read64 {W : World} (m : Nat) : ReadsAt Try.prog W m 3 int64 := ReadsAt.int Try.underlying3
theorem readU {W : World} (m : Nat) : ReadsAt Try.prog W m 22 uint64 := ReadsAt.int Try.underlying22
theorem readW {W : World} (m : Nat) : ReadsAt Try.prog W m 32 uint32 := ReadsAt.int Try.underlying32
theorem readB {W : World} (m : Nat) : ReadsAt Try.prog W m 4 isBool := ReadsAt.bool Try.underlying4

def isAt (p : List PV) : Prop := ∃ x : At, x.ok ∧ p = x.row

theorem reads_at {W : World} (fuel : Nat) : ReadsAt Try.prog W fuel 24 isAt :=
  (ReadsAt.struct' (Qs := [int64, int64, uint64, uint64]) Try.underlying24 rfl (by kernel_rfl) fun m _ i f Q hf hQ => by
    match i with
    | 0 => simp at hf hQ; subst hf; subst hQ; exact read64 m
    | 1 => simp at hf hQ; subst hf; subst hQ; exact read64 m
    | 2 => simp at hf hQ; subst hf; subst hQ; exact readU m
    | 3 => simp at hf hQ; subst hf; subst hQ; exact readU m
    | i + 4 => simp at hf).mono fun p h => by
  obtain ⟨_, _, rfl, ⟨a, ha, rfl⟩, _, _, rfl, ⟨o, ho, rfl⟩, _, _, rfl, ⟨m, hm, rfl⟩, _, _, rfl, ⟨v, hv, rfl⟩, rfl⟩ := h
  exact ⟨⟨a, o, m, v⟩, ⟨ha, ho, hm, hv⟩, rfl⟩

def isHf (p : List PV) : Prop := ∃ x : Hf, x.ok ∧ p = x.row

theorem reads_hf {W : World} (fuel : Nat) : ReadsAt Try.prog W fuel 34 isHf :=
  (ReadsAt.struct' (Qs := [int64, int64, isBool, uint32, uint32]) Try.underlying34 rfl (by kernel_rfl) fun m _ i f Q hf hQ => by
    match i with
    | 0 => simp at hf hQ; subst hf; subst hQ; exact read64 m
    | 1 => simp at hf hQ; subst hf; subst hQ; exact read64 m
    | 2 => simp at hf hQ; subst hf; subst hQ; exact readB m
    | 3 => simp at hf hQ; subst hf; subst hQ; exact readW m
    | 4 => simp at hf hQ; subst hf; subst hQ; exact readW m
    | i + 5 => simp at hf).mono fun p h => by
  obtain ⟨_, _, rfl, ⟨a, ha, rfl⟩, _, _, rfl, ⟨o, ho, rfl⟩, _, _, rfl, ⟨b, rfl⟩, _, _, rfl, ⟨m, hm, rfl⟩, _, _, rfl, ⟨v, hv, rfl⟩, rfl⟩ := h
  exact ⟨⟨a, o, b, m, v⟩, ⟨ha, ho, hm, hv⟩, rfl⟩

/-- Clauses, as an argument. -/
def isClause (p : List PV) : Prop := ∃ c : List Hf, (∀ h ∈ c, h.ok) ∧ c.length < 2 ^ 62 ∧ p = crow c
def isClauses (p : List PV) : Prop := ∃ L : List (List Hf), (∀ c ∈ L, (∀ h ∈ c, h.ok) ∧ c.length < 2 ^ 62) ∧ L.length < 2 ^ 62 ∧ p = [.sl (crows L)]

theorem rows_of : ∀ (rs : List (List PV)), (∀ r ∈ rs, isHf r) → ∃ c : List Hf, rs = c.map Hf.row ∧ ∀ h ∈ c, h.ok
  | [], _ => ⟨[], rfl, by simp⟩
  | r :: rs, h => by
    obtain ⟨x, hx, rfl⟩ := h r (List.mem_cons_self ..)
    obtain ⟨c, rfl, hc⟩ := rows_of rs fun q hq => h q (List.mem_cons_of_mem _ hq)
    exact ⟨x :: c, rfl, fun y hy => by rcases List.mem_cons.1 hy with rfl | hy; exact hx; exact hc y hy⟩

theorem reads_clause {W : World} (fuel : Nat) : ReadsAt Try.prog W fuel 30 isClause :=
  (ReadsAt.slice (n := 5) Try.underlying30 (by kernel_rfl) (by decide) (fun m _ => reads_hf m) fun p ⟨x, _, hp⟩ => by rw [hp]; rfl).mono fun p h => by
  obtain ⟨rs, rfl, hr, hl⟩ := h
  obtain ⟨c, rfl, hc⟩ := rows_of rs hr
  refine ⟨c, hc, ?_, rfl⟩
  have h2 := hl.2
  have e : Try.prog.bytesOf 34 = 32 := by kernel_rfl
  rw [e, List.length_map] at h2
  unfold reachBytes at h2
  omega

theorem clauses_of : ∀ (rs : List (List PV)), (∀ r ∈ rs, isClause r) → ∃ L : List (List Hf), rs = crows L ∧ ∀ c ∈ L, (∀ h ∈ c, h.ok) ∧ c.length < 2 ^ 62
  | [], _ => ⟨[], rfl, by simp⟩
  | r :: rs, h => by
    obtain ⟨c, hc, hl, rfl⟩ := h r (List.mem_cons_self ..)
    obtain ⟨L, rfl, hL⟩ := clauses_of rs fun q hq => h q (List.mem_cons_of_mem _ hq)
    exact ⟨c :: L, rfl, fun y hy => by rcases List.mem_cons.1 hy with rfl | hy; exact ⟨hc, hl⟩; exact hL y hy⟩

theorem reads_clauses {W : World} (fuel : Nat) : ReadsAt Try.prog W fuel 28 isClauses :=
  (ReadsAt.slice (n := 1) Try.underlying28 (by kernel_rfl) (by decide) (fun m _ => reads_clause m) fun p ⟨c, _, _, hp⟩ => by rw [hp]; rfl).mono fun p h => by
  obtain ⟨rs, rfl, hr, hl⟩ := h
  obtain ⟨L, rfl, hL⟩ := clauses_of rs hr
  refine ⟨L, hL, ?_, rfl⟩
  have h2 := hl.2
  have e : Try.prog.bytesOf 30 = 24 := by kernel_rfl
  rw [e, crows_len] at h2
  unfold reachBytes at h2
  omega

def isSix (p : List PV) : Prop := ∃ s : Six, s.ok ∧ p = s.pv

theorem reads_six {W : World} (fuel : Nat) : ReadsAt Try.prog W fuel 25 isSix :=
  (ReadsAt.array (n := 6) Try.underlying25 (fun m _ => readU m) (by kernel_rfl)).mono fun p h => by
  obtain ⟨_, _, rfl, ⟨a, ha, rfl⟩, _, _, rfl, ⟨b, hb, rfl⟩, _, _, rfl, ⟨c, hc, rfl⟩, _, _, rfl, ⟨d, hd, rfl⟩, _, _, rfl, ⟨e, he, rfl⟩, _, _, rfl, ⟨f, hf, rfl⟩, rfl⟩ := h
  exact ⟨⟨a, b, c, d, e, f⟩, ⟨ha, hb, hc, hd, he, hf⟩, rfl⟩

end Go.Ab.S2
