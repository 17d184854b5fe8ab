/-
Instructions, numbers: as arguments.
-/
import Derived.Test.YtgjceiomfccbbaaArgs
import Derived.Test.YtgjceiomfccbbaaMachine
namespace Go.Ab.S3
open Go Go.Proofs Go.Ab

def isIn (p : List PV) : Prop := ∃ q : In, q.ok ∧ p = q.row

theorem reads_in {W : World} (fuel : Nat) : ReadsAt Try.prog W fuel 42 isIn :=
  (ReadsAt.struct' (Qs := [int64, int64, int64, uint32]) Try.underlying42 rfl (by kernel_rfl) fun m _ i f Q hf hQ => by
    match i with
    | 0 => simp at hf hQ; subst hf; subst hQ; exact read64 m
    | 1 => simp at hf hQ; subst hf; subst hQ; exact read64 m
    | 2 => simp at hf hQ; subst hf; subst hQ; exact read64 m
    | 3 => simp at hf hQ; subst hf; subst hQ; exact readW m
    | i + 4 => simp at hf).mono fun p h => by
  obtain ⟨_, _, rfl, ⟨a, ha, rfl⟩, _, _, rfl, ⟨o, ho, rfl⟩, _, _, rfl, ⟨m, hm, rfl⟩, _, _, rfl, ⟨v, hv, rfl⟩, rfl⟩ := h
  exact ⟨⟨a, o, m, v⟩, ⟨ha, ho, hm, hv⟩, rfl⟩

def isIns (p : List PV) : Prop := ∃ l : List In, (∀ q ∈ l, q.ok) ∧ l.length < 2 ^ 60 ∧ p = [.sl (l.map In.row)]

theorem ins_of : ∀ (rs : List (List PV)), (∀ r ∈ rs, isIn r) → ∃ l : List In, rs = l.map In.row ∧ ∀ q ∈ l, q.ok
  | [], _ => ⟨[], rfl, by simp⟩
  | r :: rs, h => by
    obtain ⟨x, hx, rfl⟩ := h r (List.mem_cons_self ..)
    obtain ⟨l, rfl, hl⟩ := ins_of rs fun q hq => h q (List.mem_cons_of_mem _ hq)
    exact ⟨x :: l, rfl, fun y hy => by rcases List.mem_cons.1 hy with rfl | hy; exact hx; exact hl y hy⟩

theorem reads_ins {W : World} (fuel : Nat) : ReadsAt Try.prog W fuel 43 isIns :=
  (ReadsAt.slice (n := 4) Try.underlying43 (by kernel_rfl) (by decide) (fun m _ => reads_in m) fun p ⟨x, _, hp⟩ => by rw [hp]; rfl).mono fun p h => by
  obtain ⟨rs, rfl, hr, hl⟩ := h
  obtain ⟨c, rfl, hc⟩ := ins_of rs hr
  refine ⟨c, hc, ?_, rfl⟩
  have h2 := hl.2
  have e : Try.prog.bytesOf 42 = 32 := by kernel_rfl
  rw [e, List.length_map] at h2
  unfold reachBytes at h2
  omega

def isInts (p : List PV) : Prop := ∃ l : List Int, (∀ n ∈ l, inR .i64 n) ∧ p = [.sl (l.map fun n => [.int .i64 n])]
def isWords (p : List PV) : Prop := ∃ l : List Int, (∀ n ∈ l, inR .u32 n) ∧ p = [.sl (l.map fun n => [.int .u32 n])]

theorem ints_of {k : IntKind} : ∀ (rs : List (List PV)), (∀ r ∈ rs, ∃ n, inR k n ∧ r = [.int k n]) → ∃ l : List Int, rs = l.map (fun n => [.int k n]) ∧ ∀ n ∈ l, inR k n
  | [], _ => ⟨[], rfl, by simp⟩
  | r :: rs, h => by
    obtain ⟨x, hx, rfl⟩ := h r (List.mem_cons_self ..)
    obtain ⟨l, rfl, hl⟩ := ints_of rs fun q hq => h q (List.mem_cons_of_mem _ hq)
    exact ⟨x :: l, rfl, fun y hy => by rcases List.mem_cons.1 hy with rfl | hy; exact hx; exact hl y hy⟩

theorem reads_ints {W : World} (fuel : Nat) : ReadsAt Try.prog W fuel 45 isInts :=
  (ReadsAt.slice (n := 1) Try.underlying45 (by kernel_rfl) (by decide) (fun m _ => read64 m) fun p ⟨x, _, hp⟩ => by rw [hp]; rfl).mono fun p h => by
  obtain ⟨rs, rfl, hr, -⟩ := h
  obtain ⟨l, rfl, hl⟩ := ints_of rs hr
  exact ⟨l, hl, rfl⟩

theorem reads_words {W : World} (fuel : Nat) : ReadsAt Try.prog W fuel 56 isWords :=
  (ReadsAt.slice (n := 1) Try.underlying56 (by kernel_rfl) (by decide) (fun m _ => readW m) fun p ⟨x, _, hp⟩ => by rw [hp]; rfl).mono fun p h => by
  obtain ⟨rs, rfl, hr, -⟩ := h
  obtain ⟨l, rfl, hl⟩ := ints_of rs hr
  exact ⟨l, hl, rfl⟩

end Go.Ab.S3
