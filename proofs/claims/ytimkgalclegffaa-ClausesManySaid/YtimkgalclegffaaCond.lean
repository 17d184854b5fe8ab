/-
Conditions: what they are, how they lie in memory, how an argument is one.
-/
import Derived.Test.YtimkgalclegffaaRead
import Derived.Test.YtimkgalclegffaaBase
namespace Go.Ab.S1
open Go Go.Proofs Go.Ab

/-- A condition: kind, argument, comparison, mask, value, kids. -/
inductive Co where
  | mk (k a o m v : Int) (l : List Co)

mutual
def Co.row : Co → List PV
  | .mk k a o m v l => [.int .i64 k, .int .i64 a, .int .i64 o, .int .u64 m, .int .u64 v, .sl (rows l)]
def rows : List Co → List (List PV)
  | [] => []
  | c :: l => c.row :: rows l
end

mutual
def Co.ok : Co → Prop
  | .mk k a o m v l => inR .i64 k ∧ inR .i64 a ∧ inR .i64 o ∧ inR .u64 m ∧ inR .u64 v ∧ l.length < 2 ^ 63 ∧ oks l
def oks : List Co → Prop
  | [] => True
  | c :: l => c.ok ∧ oks l
end

theorem rows_map : ∀ (l : List Co), rows l = l.map Co.row
  | [] => rfl
  | c :: l => by rw [rows, rows_map l]; rfl

theorem rows_len (l : List Co) : (rows l).length = l.length := by rw [rows_map]; simp

theorem rows_get {l : List Co} {i : Nat} {c : Co} (h : l[i]? = some c) : (rows l)[i]? = some c.row := by rw [rows_map, List.getElem?_map, h]; rfl

theorem oks_all : ∀ (l : List Co), (∀ c ∈ l, c.ok) → oks l
  | [], _ => trivial
  | c :: l, h => ⟨h c (List.mem_cons_self ..), oks_all l fun d hd => h d (List.mem_cons_of_mem _ hd)⟩

/-- A condition, as an argument. -/
def isCo (p : List PV) : Prop := ∃ c : Co, c.ok ∧ p = c.row

theorem isCo_rows : ∀ (rs : List (List PV)), (∀ r ∈ rs, isCo r) → ∃ l : List Co, rs = rows l ∧ oks l
  | [], _ => ⟨[], rfl, trivial⟩
  | r :: rs, h => by
    obtain ⟨c, hc, rfl⟩ := h r (List.mem_cons_self ..)
    obtain ⟨l, rfl, hl⟩ := isCo_rows rs fun q hq => h q (List.mem_cons_of_mem _ hq)
    exact ⟨c :: l, rfl, hc, hl⟩

theorem row_len (c : Co) : c.row.length = 6 := by cases c; rfl

theorem turn2 {p : List PV} {A B : List PV → Prop} (h : InTurn [A, B] p) : ∃ a b, p = a ++ b ∧ A a ∧ B b := by
  obtain ⟨a, q, rfl, ha, b, r, rfl, hb, rfl⟩ := h
  exact ⟨a, b, by simp, ha, hb⟩

def int64 (p : List PV) : Prop := ∃ n, inR .i64 n ∧ p = [.int .i64 n]
def uint64 (p : List PV) : Prop := ∃ n, inR .u64 n ∧ p = [.int .u64 n]
def isAtom (p : List PV) : Prop := InTurn [int64, int64, uint64, uint64] p

theorem read64 {W : World} (m : Nat) : ReadsAt Try.prog W m 3 int64 := ReadsAt.int Try.underlying3
theorem readU {W : World} (m : Nat) : ReadsAt Try.prog W m 22 uint64 := ReadsAt.int Try.underlying22

theorem reads_atom {W : World} (fuel : Nat) : ReadsAt Try.prog W fuel 24 isAtom :=
  ReadsAt.struct' Try.underlying24 rfl (by kernel_rfl) fun m _ i f Q hf hQ => by
    match i with
    | 0 => simp at hf hQ; subst hf; subst hQ; exact read64 m
    | 1 => simp at hf hQ; subst hf; subst hQ; exact read64 m
    | 2 => simp at hf hQ; subst hf; subst hQ; exact readU m
    | 3 => simp at hf hQ; subst hf; subst hQ; exact readU m
    | i + 4 => simp at hf

def isKids (p : List PV) : Prop := ∃ rs : List (List PV), p = [.sl rs] ∧ (∀ r ∈ rs, isCo r) ∧ rs.length < 2 ^ 63

theorem co_of {p : List PV} (h : InTurn [int64, isAtom, isKids] p) : isCo p := by
  obtain ⟨_, _, rfl, ⟨k, hk, rfl⟩, _, _, rfl, ⟨_, _, rfl, ⟨a, ha, rfl⟩, _, _, rfl, ⟨o, ho, rfl⟩, _, _, rfl, ⟨m, hm, rfl⟩, _, _, rfl, ⟨v, hv, rfl⟩, rfl⟩, _, _, rfl, ⟨rs, rfl, hr, hl⟩, rfl⟩ := h
  obtain ⟨l, rfl, hok⟩ := isCo_rows rs hr
  exact ⟨.mk k a o m v l, ⟨hk, ha, ho, hm, hv, by rw [← rows_len]; exact hl, hok⟩, rfl⟩

theorem reads_cond {W : World} : ∀ (fuel : Nat), ReadsAt Try.prog W fuel 27 isCo := by
  intro fuel
  induction fuel using Nat.strongRecOn with
  | _ fuel ih =>
    refine (ReadsAt.struct' (Qs := [int64, isAtom, isKids]) Try.underlying27 rfl (by kernel_rfl) fun m hm i f Q hf hQ => ?_).mono fun p => co_of
    match i with
    | 0 => simp at hf hQ; subst hf; subst hQ; exact read64 m
    | 1 => simp at hf hQ; subst hf; subst hQ; exact reads_atom m
    | 2 =>
      simp at hf hQ
      subst hf
      subst hQ
      exact (ReadsAt.slice (n := 6) Try.underlying25 (by kernel_rfl) (by decide) (fun k hk => ih k (by omega)) fun p ⟨c, _, hp⟩ => by rw [hp, row_len]).mono fun p ⟨rs, h1, h2, h3⟩ => ⟨rs, h1, h2, h3.1⟩
    | i + 3 => simp at hf

/-- Six numbers. -/
def isSix (p : List PV) : Prop := ∃ l : List Int, l.length = 6 ∧ (∀ n ∈ l, inR .u64 n) ∧ p = l.map (PV.int .u64)

theorem six_of : ∀ (n : Nat) (p : List PV), InTurn (List.replicate n uint64) p → ∃ l : List Int, l.length = n ∧ (∀ n ∈ l, inR .u64 n) ∧ p = l.map (PV.int .u64)
  | 0, p, h => ⟨[], rfl, by simp, h⟩
  | n + 1, p, h => by
    obtain ⟨_, q, rfl, ⟨x, hx, rfl⟩, hq⟩ := h
    obtain ⟨l, h1, h2, rfl⟩ := six_of n q hq
    refine ⟨x :: l, by simp [h1], fun y hy => ?_, rfl⟩
    rcases List.mem_cons.1 hy with rfl | hy
    · exact hx
    · exact h2 y hy

theorem reads_six {W : World} (fuel : Nat) : ReadsAt Try.prog W fuel 32 isSix :=
  (ReadsAt.array (n := 6) Try.underlying32 (fun m _ => readU m) (by kernel_rfl)).mono fun p hp => six_of 6 p hp

end Go.Ab.S1
