/-
What the checker does.
-/
import Derived.Test.YtgjceiomfccbbaaRefRun
import Derived.Test.YtgjceiomfccbbaaRE
namespace Go.Ab.S3
open Go Go.Proofs Go.Ab

/-! ### which codes have a name -/

def kn : List (Int × ByteArray) := [(0, ⟨#[108, 100, 105, 109, 109]⟩), (1, ⟨#[108, 100, 120, 105, 109, 109]⟩), (2, ⟨#[115, 116]⟩), (3, ⟨#[115, 116, 120]⟩), (4, ⟨#[97, 100, 100, 107]⟩), (5, ⟨#[106, 97]⟩), (6, ⟨#[114, 101, 116, 107]⟩), (7, ⟨#[116, 97, 120]⟩), (12, ⟨#[97, 100, 100, 120]⟩), (20, ⟨#[115, 117, 98, 107]⟩), (21, ⟨#[106, 101, 113, 107]⟩), (22, ⟨#[114, 101, 116, 97]⟩), (28, ⟨#[115, 117, 98, 120]⟩), (29, ⟨#[106, 101, 113, 120]⟩), (32, ⟨#[108, 100, 97, 98, 115]⟩), (36, ⟨#[109, 117, 108, 107]⟩), (37, ⟨#[106, 103, 116, 107]⟩), (44, ⟨#[109, 117, 108, 120]⟩), (45, ⟨#[106, 103, 116, 120]⟩), (52, ⟨#[100, 105, 118, 107]⟩), (53, ⟨#[106, 103, 101, 107]⟩), (60, ⟨#[100, 105, 118, 120]⟩), (61, ⟨#[106, 103, 101, 120]⟩), (68, ⟨#[111, 114, 107]⟩), (69, ⟨#[106, 115, 101, 116, 107]⟩), (76, ⟨#[111, 114, 120]⟩), (77, ⟨#[106, 115, 101, 116, 120]⟩), (84, ⟨#[97, 110, 100, 107]⟩), (92, ⟨#[97, 110, 100, 120]⟩), (96, ⟨#[108, 100, 109, 101, 109]⟩), (97, ⟨#[108, 100, 120, 109, 101, 109]⟩), (100, ⟨#[108, 115, 104, 107]⟩), (108, ⟨#[108, 115, 104, 120]⟩), (116, ⟨#[114, 115, 104, 107]⟩), (124, ⟨#[114, 115, 104, 120]⟩), (128, ⟨#[108, 100, 108, 101, 110]⟩), (129, ⟨#[108, 100, 120, 108, 101, 110]⟩), (132, ⟨#[110, 101, 103]⟩), (135, ⟨#[116, 120, 97]⟩), (164, ⟨#[120, 111, 114, 107]⟩), (172, ⟨#[120, 111, 114, 120]⟩)]
def krow (p : Int × ByteArray) : List PV := [.int .i64 p.1, .str p.2]
def nameB (c : Int) : Bool := kn.any fun p => p.1 == c

theorem names_ev : EvF Try.prog prim 55 [] [] [] [.v (.sl (kn.map krow))] [] := F55.p0

theorem index_loop (zs : List (Int × ByteArray)) (hz : zs.length < 1000) (code : Int) (H : List (List AV)) (b : Nat) (hH : H[b]? = some [.v (.int .i64 code)]) : ∀ (k i : Nat), i + k = zs.length → (∀ (j : Nat) p, j < i → zs[j]? = some p → (p.1 == code) = false) →
    ∃ x : Int, EvK Try.prog prim Try.f56 (loopAt Try.f56 0) (F56.h0 b H (zs.map krow) i) [.v (.int .i64 x)] H ∧ ((x = -1 ∧ zs.any (fun p => p.1 == code) = false) ∨ (0 ≤ x ∧ x.toNat < zs.length ∧ zs.any (fun p => p.1 == code) = true))
  | 0, i, h, hn => by
    refine ⟨-1, F56.l0_3 b H (zs.map krow) i (by simp; omega), .inl ⟨rfl, ?_⟩⟩
    rw [List.any_eq_false]
    intro p hp
    obtain ⟨j, hj⟩ := List.mem_iff_getElem?.1 hp
    have := hn j p (by have := (List.getElem?_eq_some_iff.1 hj).1; omega) hj
    simp [this]
  | k + 1, i, h, hn => by
    have hlt : i < zs.length := by omega
    have hg := List.getElem?_eq_getElem hlt
    have hmem : zs[i] ∈ zs := List.getElem_mem hlt
    generalize zs[i] = p at hg hmem
    have hg' : (zs.map krow)[Int.toNat (i : Int)]? = some [.int .i64 p.1, .str p.2] := by
      have : Int.toNat (i : Int) = i := by omega
      rw [this, List.getElem?_map, hg]
      rfl
    have hc : EvF Try.prog prim 57 [.agg [.int .i64 p.1, .str p.2], .optr b 0] [] (H ++ []) [.v (.bool (p.1 == code))] (H ++ []) := by
      rw [List.append_nil]
      exact F57.p0 b code H p.1 p.2 hH
    have go : (decide ((i : Int) < ((zs.map krow).length : Int))) = true := by simp; omega
    cases hp : (p.1 == code) with
    | true =>
      rw [hp] at hc
      refine ⟨i, F56.l0_1 b H (zs.map krow) i p.1 p.2 true go (by omega) hg' rfl hc, .inr ⟨by omega, by omega, ?_⟩⟩
      rw [List.any_eq_true]
      exact ⟨p, hmem, hp⟩
    | false =>
      rw [hp] at hc
      obtain ⟨x, hx, hr⟩ := index_loop zs hz code H b hH k (i + 1) (by omega) (fun j q hj hq => by
        rcases Nat.lt_or_ge j i with h1 | h1
        · exact hn j q h1 hq
        · have : j = i := by omega
          subst this
          rw [hg] at hq
          obtain rfl := Option.some.inj hq
          exact hp)
      exact ⟨x, F56.l0_2 b H (zs.map krow) i p.1 p.2 false go (by omega) hg' rfl (in64 (by omega) (by omega)) hc hx, hr⟩

theorem name_ev (c : Int) : ∃ s, EvF Try.prog prim 48 [.v (.int .i64 c)] [] [] [.v (.str s), .v (.bool (nameB c))] [] := by
  obtain ⟨x, hx, hr⟩ := index_loop kn (by decide) c ([] ++ [[.v (.int .i64 c)]]) 0 rfl kn.length 0 (by omega) (fun j p h => by omega)
  have h56 : EvF Try.prog prim 56 [.v (.sl (kn.map krow)), .fn (.func 57) [] [.optr 0 0]] [] ([] ++ [[.v (.int .i64 c)]]) [.v (.int .i64 x)] ([] ++ [[.v (.int .i64 c)]]) := F56.p0 0 _ (kn.map krow) hx
  unfold nameB
  rcases hr with ⟨rfl, hf⟩ | ⟨h0, h1, ht⟩
  · rw [hf]
    exact ⟨_, F48.p0 c (kn.map krow) (-1) (by decide) names_ev h56⟩
  · rw [ht]
    have hg := List.getElem?_eq_getElem h1
    exact ⟨_, F48.p1 c (kn.map krow) x (kn[x.toNat]).1 (kn[x.toNat]).2 (by simp; omega) h0 (by rw [List.getElem?_map, hg]; rfl) names_ev h56⟩

/-! ### what an instruction may be, and where it goes on -/

def rightX (q : In) : Bool := bif (bif (bif (bif (bif (decide (q.code ≥ 0)) then (decide (q.code ≤ 65535)) else false) then (decide (q.jt ≥ 0)) else false) then (decide (q.jt ≤ 255)) else false) then (decide (q.jf ≥ 0)) else false) then (decide (q.jf ≤ 255)) else false
def endsC (c : Int) : Bool := bif (c == 6) then true else (c == 22)
def loadsC (c : Int) : Bool := bif (c == 96) then true else (c == 97)
def storesC (c : Int) : Bool := bif (c == 2) then true else (c == 3)
def mayB (q : In) : Bool :=
  if q.code = 32 then (bif ((Int.tmod q.k 4) == 0) then (decide (q.k ≤ 60)) else false)
  else if (bif storesC q.code then true else loadsC q.code) = true then decide (q.k < 16)
  else if q.code = 52 then (q.k != 0)
  else if (bif (q.code == 100) then true else (q.code == 116)) = true then decide (q.k < 32)
  else true
def jumpC (c : Int) : Bool := if c = 21 then true else if c = 37 then true else if c = 53 then true else if c = 69 then true else if c = 29 then true else if c = 45 then true else if c = 61 then true else if c = 77 then true else false
def nextI (q : In) (i : Nat) : List Int :=
  if endsC q.code then [] else if q.code = 5 then [(i : Int) + 1 + IntKind.i64.wrap q.k] else if jumpC q.code then [(i : Int) + 1 + q.jt, (i : Int) + 1 + q.jf] else [(i : Int) + 1]
def flowI (q : In) (s : Int) : Int := if storesC q.code then IntKind.i64.wrap ((BitVec.ofInt 64 s ||| BitVec.ofInt 64 (IntKind.i64.wrap (1 * 2 ^ (min (Int.toNat q.k) (IntKind.bits .i64))))).toNat : Int) else s

theorem jumpC_ev (c : Int) : EvF Try.prog prim 52 [.v (.int .i64 c)] [] [] [.v (.bool (jumpC c))] [] := by
  unfold jumpC
  by_cases h0 : c = 21
  · rw [if_pos h0]; exact F52.p0 c  (eq_of h0)
  by_cases h1 : c = 37
  · rw [if_neg h0, if_pos h1]; exact F52.p1 c (ne_of h0) (eq_of h1)
  by_cases h2 : c = 53
  · rw [if_neg h0, if_neg h1, if_pos h2]; exact F52.p2 c (ne_of h0) (ne_of h1) (eq_of h2)
  by_cases h3 : c = 69
  · rw [if_neg h0, if_neg h1, if_neg h2, if_pos h3]; exact F52.p3 c (ne_of h0) (ne_of h1) (ne_of h2) (eq_of h3)
  by_cases h4 : c = 29
  · rw [if_neg h0, if_neg h1, if_neg h2, if_neg h3, if_pos h4]; exact F52.p4 c (ne_of h0) (ne_of h1) (ne_of h2) (ne_of h3) (eq_of h4)
  by_cases h5 : c = 45
  · rw [if_neg h0, if_neg h1, if_neg h2, if_neg h3, if_neg h4, if_pos h5]; exact F52.p5 c (ne_of h0) (ne_of h1) (ne_of h2) (ne_of h3) (ne_of h4) (eq_of h5)
  by_cases h6 : c = 61
  · rw [if_neg h0, if_neg h1, if_neg h2, if_neg h3, if_neg h4, if_neg h5, if_pos h6]; exact F52.p6 c (ne_of h0) (ne_of h1) (ne_of h2) (ne_of h3) (ne_of h4) (ne_of h5) (eq_of h6)
  by_cases h7 : c = 77
  · rw [if_neg h0, if_neg h1, if_neg h2, if_neg h3, if_neg h4, if_neg h5, if_neg h6, if_pos h7]; exact F52.p7 c (ne_of h0) (ne_of h1) (ne_of h2) (ne_of h3) (ne_of h4) (ne_of h5) (ne_of h6) (eq_of h7)
  rw [if_neg h0, if_neg h1, if_neg h2, if_neg h3, if_neg h4, if_neg h5, if_neg h6, if_neg h7]
  exact F52.p8 c (ne_of h0) (ne_of h1) (ne_of h2) (ne_of h3) (ne_of h4) (ne_of h5) (ne_of h6) (ne_of h7)

theorem may_ev (q : In) : EvF Try.prog prim 50 [.agg q.row] [] [] [.v (.bool (mayB q))] [] := by
  unfold mayB
  have hs := F53.p0 q.code
  have hl := F40.p0 q.code
  by_cases h0 : q.code = 32
  · rw [if_pos h0]; exact F50.p0 q.code q.jt q.jf q.k (eq_of h0)
  rw [if_neg h0]
  cases h1 : (bif storesC q.code then true else loadsC q.code) with
  | true => rw [if_pos rfl]; exact F50.p1 q.code q.jt q.jf q.k (storesC q.code) (loadsC q.code) (ne_of h0) h1 hs (fun _ => hl)
  | false =>
    rw [if_neg (by simp)]
    by_cases h2 : q.code = 52
    · rw [if_pos h2]; exact F50.p2 q.code q.jt q.jf q.k (storesC q.code) (loadsC q.code) (ne_of h0) h1 (eq_of h2) hs (fun _ => hl)
    rw [if_neg h2]
    cases h3 : (bif (q.code == 100) then true else (q.code == 116)) with
    | true => rw [if_pos rfl]; exact F50.p3 q.code q.jt q.jf q.k (storesC q.code) (loadsC q.code) (ne_of h0) h1 (ne_of h2) h3 hs (fun _ => hl)
    | false => rw [if_neg (by simp)]; exact F50.p4 q.code q.jt q.jf q.k (storesC q.code) (loadsC q.code) (ne_of h0) h1 (ne_of h2) h3 hs (fun _ => hl)

theorem flow_ev (q : In) (hq : q.ok) (s : Int) : EvF Try.prog prim 42 [.agg q.row, .v (.int .i64 s)] [] [] [.v (.int .i64 (flowI q s))] [] := by
  unfold flowI
  have hs := F53.p0 q.code
  cases h : storesC q.code with
  | true => rw [if_pos rfl]; exact F42.p0 q.code q.jt q.jf q.k s (storesC q.code) h (ofW hq.2.2.2).1 hs
  | false => rw [if_neg (by simp)]; exact F42.p1 q.code q.jt q.jf q.k s (storesC q.code) h hs

theorem rightX_of {q : In} (h : rightX q = true) : 0 ≤ q.code ∧ q.code ≤ 65535 ∧ 0 ≤ q.jt ∧ q.jt ≤ 255 ∧ 0 ≤ q.jf ∧ q.jf ≤ 255 := by
  unfold rightX at h
  by_cases h0 : q.code ≥ 0 <;> by_cases h1 : q.code ≤ 65535 <;> by_cases h2 : q.jt ≥ 0 <;> by_cases h3 : q.jt ≤ 255 <;> by_cases h4 : q.jf ≥ 0 <;> by_cases h5 : q.jf ≤ 255 <;> simp [h0, h1, h2, h3, h4, h5] at h <;> omega

def irow (n : Int) : List PV := [.int .i64 n]

theorem next_ev (q : In) (hq : q.ok) (i : Nat) (hi : i < 1000000) (hr : rightX q = true) : EvF Try.prog prim 41 [.agg q.row, .v (.int .i64 i)] [] [] [.v (.sl ((nextI q i).map irow))] [] := by
  have hb := rightX_of hr
  have hk := ofW hq.2.2.2
  have he := F51.p0 q.code
  have hj := jumpC_ev q.code
  have wk : IntKind.i64.wrap q.k = q.k := by rw [wrap64]; omega
  unfold nextI
  cases h0 : endsC q.code with
  | true => rw [if_pos rfl]; exact F41.p0 q.code q.jt q.jf q.k i (endsC q.code) h0 he
  | false =>
    rw [if_neg (by simp)]
    by_cases h1 : q.code = 5
    · rw [if_pos h1]
      exact F41.p1 q.code q.jt q.jf q.k i (endsC q.code) h0 (eq_of h1) (in64 (by omega) (by omega)) (by rw [wk]; exact in64 (by omega) (by omega)) he
    rw [if_neg h1]
    cases h2 : jumpC q.code with
    | true =>
      rw [if_pos rfl]
      rw [h2] at hj
      exact F41.p2 q.code q.jt q.jf q.k i (endsC q.code) true h0 (ne_of h1) rfl (in64 (by omega) (by omega)) (in64 (by omega) (by omega)) (in64 (by omega) (by omega)) he hj
    | false =>
      rw [if_neg (by simp)]
      rw [h2] at hj
      exact F41.p3 q.code q.jt q.jf q.k i (endsC q.code) false h0 (ne_of h1) rfl (in64 (by omega) (by omega)) he hj

/-! ### may an instruction be where it is -/

def rightF (len : Nat) (i : Nat) (q : In) : Bool := nameB q.code && rightX q && mayB q && !(decide (i + 1 = len) && !endsC q.code) && (nextI q i).all fun n => decide (n < (len : Int))

theorem right_loop (l : List In) (q : In) (ns : List Int) (hn : ns.length < 1000) : ∀ (k j : Nat), j + k = ns.length → EvK Try.prog prim Try.f39 (loopAt Try.f39 0) (F39.h0 (l.map In.row) q.code q.jt q.jf q.k (ns.map irow) j) [.v (.bool ((ns.drop j).all fun n => decide (n < (l.length : Int))))] []
  | 0, j, h => by
    rw [List.drop_of_length_le (by omega)]
    exact F39.l0_4 (l.map In.row) q.code q.jt q.jf q.k (ns.map irow) j (by simp; omega)
  | k + 1, j, h => by
    have hlt : j < ns.length := by omega
    have hg := List.getElem?_eq_getElem hlt
    rw [List.drop_eq_getElem_cons hlt, List.all_cons]
    generalize ns[j] = n at hg
    have hg' : (ns.map irow)[Int.toNat (j : Int)]? = some [.int .i64 n] := by
      have : Int.toNat (j : Int) = j := by omega
      rw [this, List.getElem?_map, hg]
      rfl
    have go : (decide ((j : Int) < ((ns.map irow).length : Int))) = true := by simp; omega
    by_cases hd : n ≥ (l.length : Int)
    · have e : decide (n < (l.length : Int)) = false := by simp; omega
      rw [e, Bool.false_and]
      exact F39.l0_2 (l.map In.row) q.code q.jt q.jf q.k (ns.map irow) j n go (by omega) hg' (by rw [List.length_map]; simpa using hd)
    · have e : decide (n < (l.length : Int)) = true := by simp; omega
      rw [e, Bool.true_and]
      exact F39.l0_3 (l.map In.row) q.code q.jt q.jf q.k (ns.map irow) j n go (by omega) hg' (by rw [List.length_map]; simpa using hd) (in64 (by omega) (by omega)) (right_loop l q ns hn k (j + 1) (by omega))

theorem nextI_len (q : In) (i : Nat) : (nextI q i).length ≤ 2 := by
  unfold nextI
  repeat' split
  all_goals simp

theorem right_ev (l : List In) (hl : l.length < 1000000) (i : Nat) (q : In) (hq : q.ok) (hg : l[i]? = some q) : EvF Try.prog prim 39 [.v (.sl (l.map In.row)), .v (.int .i64 i)] [] [] [.v (.bool (rightF l.length i q))] [] := by
  obtain ⟨s, h48⟩ := name_ev q.code
  have hlt : i < l.length := (List.getElem?_eq_some_iff.1 hg).1
  have hg' : (l.map In.row)[Int.toNat (i : Int)]? = some [.int .i64 q.code, .int .i64 q.jt, .int .i64 q.jf, .int .u32 q.k] := by
    have : Int.toNat (i : Int) = i := by omega
    rw [this]
    exact rows_get hg
  have h49 := F49.p0 q.code q.jt q.jf q.k
  have h50 := may_ev q
  have h51 := F51.p0 q.code
  have hlast : ((i : Int) == ((l.map In.row).length : Int) - 1) = decide (i + 1 = l.length) := by
    rw [List.length_map]
    by_cases h : i + 1 = l.length
    · rw [decide_eq_true h]; simp; omega
    · rw [decide_eq_false h]; simp; omega
  have hi1 : inR .i64 (((l.map In.row).length : Int) - 1) := by rw [List.length_map]; exact in64 (by omega) (by omega)
  have e3 : (bif (bif (bif (!nameB q.code) then true else (!rightX q)) then true else (!mayB q)) then true else (bif ((i : Int) == (((l.map In.row).length : Int) - 1)) then (!endsC q.code) else false)) = !(nameB q.code && rightX q && mayB q && !(decide (i + 1 = l.length) && !endsC q.code)) := by
    rw [hlast]
    cases nameB q.code <;> cases rightX q <;> cases mayB q <;> cases decide (i + 1 = l.length) <;> cases endsC q.code <;> rfl
  unfold rightF
  cases hA : (nameB q.code && rightX q && mayB q && !(decide (i + 1 = l.length) && !endsC q.code)) with
  | false =>
    rw [hA] at e3
    rw [Bool.false_and]
    exact F39.p0 (l.map In.row) i q.code q.jt q.jf q.k s (nameB q.code) (rightX q) (mayB q) (endsC q.code) (by omega) hg' (fun _ => hi1) e3 h48 (fun _ => h49) (fun _ => h50) (fun _ => h51)
  | true =>
    rw [hA] at e3
    rw [Bool.true_and]
    have hr : rightX q = true := by
      simp only [Bool.and_eq_true] at hA
      exact hA.1.1.2
    have h41 := next_ev q hq i (by omega) hr
    have hlp := right_loop l q (nextI q i) (by have := nextI_len q i; omega) (nextI q i).length 0 (by omega)
    rw [List.drop_zero] at hlp
    exact F39.p1 (l.map In.row) i q.code q.jt q.jf q.k s (nameB q.code) (rightX q) (mayB q) (endsC q.code) ((nextI q i).map irow) (by omega) hg' (fun _ => hi1) e3 h48 (fun _ => h49) (fun _ => h50) (fun _ => h51) h41 hlp

/-! ### what is stored -/

def cellsL (st : List Int) : List AV := st.map fun n => AV.v (PV.int .i64 n)

theorem cells_flat (st : List Int) : ∀ a ∈ cellsL st, AV.flat a := by
  intro a ha
  obtain ⟨n, _, rfl⟩ := List.mem_map.1 ha
  exact ⟨_, rfl⟩

theorem cells_get {st : List Int} {i : Nat} {n : Int} (h : st[i]? = some n) : (cellsL st)[Int.toNat (i : Int) * 1]? = some (.v (.int .i64 n)) := by
  have : Int.toNat (i : Int) * 1 = i := by omega
  rw [this]
  unfold cellsL
  rw [List.getElem?_map, h]
  rfl

theorem cells_put {st : List Int} {x : Int} (h0 : 0 ≤ x) (h : x.toNat < st.length) (v : Int) : storeIn Try.prog 3 (cellsL st) (Int.toNat x * 1) (.v (.int .i64 v)) = some (cellsL (st.set x.toNat v)) := by
  have hs : sizeT Try.prog 3 = some 1 := by kernel_rfl
  unfold storeIn
  simp only [hs]
  have hl : (cellsL st).length = st.length := by simp [cellsL]
  rw [Nat.mul_one]
  have hc : ((AV.v (PV.int .i64 v)).cells.length == 1 && decide (x.toNat + 1 ≤ (cellsL st).length)) = true := by
    rw [hl]
    have : decide (x.toNat + 1 ≤ st.length) = true := by simp; omega
    rw [this]
    rfl
  simp only [AV.cells, List.length_singleton, beq_self_eq_true, Bool.true_and, decide_eq_true_eq, hl]
  have hc2 : (decide True && decide (x.toNat + 1 ≤ st.length)) = true := by simp; exact h
  rw [if_pos hc2]
  simp [putAt, cellsL, List.map_set]

def andI (a b : Int) : Int := IntKind.i64.wrap ((BitVec.ofInt 64 a &&& BitVec.ofInt 64 b).toNat : Int)
def upd1 (q : In) (i : Nat) (st : List Int) (n : Int) : List Int := st.set n.toNat (andI (st.getD n.toNat 0) (flowI q (st.getD i 0)))
def unstored (s : Int) (k : Int) : Bool := (IntKind.i64.wrap ((BitVec.ofInt 64 (Int.fdiv s (2 ^ (min (Int.toNat k) (IntKind.bits .i64)))) &&& BitVec.ofInt 64 1).toNat : Int)) == 0
def refused (len i : Nat) (q : In) (st : List Int) : Bool := bif !rightF len i q then true else (bif loadsC q.code then unstored (st.getD i 0) q.k else false)

def ckF (l : List In) : Nat → Nat → List Int → Int
  | 0, _, _ => -1
  | k + 1, i, st => match l[i]? with
    | none => -1
    | some q => if refused l.length i q st then i else ckF l k (i + 1) ((nextI q i).foldl (upd1 q i) st)

theorem upd1_len (q : In) (i : Nat) (st : List Int) (n : Int) : (upd1 q i st n).length = st.length := by simp [upd1]
theorem upds_len (q : In) (i : Nat) : ∀ (ns : List Int) (st : List Int), (ns.foldl (upd1 q i) st).length = st.length
  | [], st => rfl
  | n :: ns, st => by rw [List.foldl_cons, upds_len q i ns, upd1_len]

theorem getD_some {st : List Int} {i : Nat} (h : i < st.length) : st[i]? = some (st.getD i 0) := by
  rw [List.getD_eq_getElem?_getD, List.getElem?_eq_getElem h]
  rfl

theorem next_loop (l : List In) (hl : l.length < 1000000) (q : In) (hq : q.ok) (i : Nat) (hi : i < l.length) (ns : List Int) (hns : ∀ n ∈ ns, 0 ≤ n ∧ n < l.length) (hnl : ns.length < 1000) {r : List AV} {h : List (List AV)} :
    ∀ (k j : Nat) (st : List Int), j + k = ns.length → st.length = l.length → EvK Try.prog prim Try.f32 (loopAt Try.f32 1) (F32.h1 (l.map In.row) true (cellsL ((ns.drop j).foldl (upd1 q i) st)) (i + 1)) r h →
      EvK Try.prog prim Try.f32 (loopAt Try.f32 2) (F32.h2 (l.map In.row) true (cellsL st) j i i (ns.map irow) (((ns.map irow).length : Int)) q.code q.jt q.jf q.k) r h
  | 0, j, st, hj, hs, hk => by
    rw [List.drop_of_length_le (by omega)] at hk
    exact F32.l2_7 (l.map In.row) true (cellsL st) j i i (ns.map irow) _ q.code q.jt q.jf q.k (by simp; omega) (in64 (by omega) (by omega)) (cells_flat st) hk
  | k + 1, j, st, hj, hs, hk => by
    have hlt : j < ns.length := by omega
    have hg := List.getElem?_eq_getElem hlt
    have hn := hns _ (List.getElem_mem hlt)
    rw [List.drop_eq_getElem_cons hlt, List.foldl_cons] at hk
    generalize ns[j] = n at hg hn hk
    have hg' : (ns.map irow)[Int.toNat (j : Int)]? = some [.int .i64 n] := by
      have : Int.toNat (j : Int) = j := by omega
      rw [this, List.getElem?_map, hg]
      rfl
    have hlen : ((Int.toNat ((l.map In.row).length : Int) : Nat) : Int) = l.length := by rw [List.length_map]; omega
    have hnn : n = ((n.toNat : Nat) : Int) := by omega
    have g1 : (cellsL st)[Int.toNat n * 1]? = some (.v (.int .i64 (st.getD n.toNat 0))) := by
      have := cells_get (getD_some (st := st) (i := n.toNat) (by omega))
      rwa [← hnn] at this
    have ih := next_loop l hl q hq i hi ns hns hnl k (j + 1) (upd1 q i st n) (by omega) (by rw [upd1_len, hs]) hk
    refine F32.l2_6 (l.map In.row) true (cellsL st) j i i (ns.map irow) _ q.code q.jt q.jf q.k n (st.getD n.toNat 0) (st.getD i 0) (flowI q (st.getD i 0)) (cellsL (upd1 q i st n)) (by simp; omega) (by omega) hg' (by rw [hlen]; omega) g1 (by rw [hlen]; omega) (cells_get (getD_some (by omega)))
      (cells_put hn.1 (by omega) _) (in64 (by omega) (by omega)) (cells_flat _) (flow_ev q hq _) ih

theorem next_nn {q : In} {i : Nat} (hq : q.ok) (hr : rightX q = true) : ∀ n ∈ nextI q i, (i : Int) + 1 ≤ n := by
  have hb := rightX_of hr
  have hk := ofW hq.2.2.2
  have wk : IntKind.i64.wrap q.k = q.k := by rw [wrap64]; omega
  intro n hn
  unfold nextI at hn
  rw [wk] at hn
  repeat' split at hn
  all_goals
    simp at hn
    try omega

theorem right_of {len i : Nat} {q : In} (h : rightF len i q = true) : nameB q.code = true ∧ rightX q = true ∧ mayB q = true ∧ (i + 1 = len → endsC q.code = true) ∧ ∀ n ∈ nextI q i, n < (len : Int) := by
  unfold rightF at h
  simp only [Bool.and_eq_true, Bool.not_eq_true', Bool.and_eq_false_iff, Bool.not_eq_false', decide_eq_false_iff_not, List.all_eq_true, decide_eq_true_eq] at h
  obtain ⟨⟨⟨⟨a, b⟩, c⟩, d⟩, e⟩ := h
  exact ⟨a, b, c, fun h => by rcases d with d | d; exact absurd h d; exact d, e⟩

theorem check_loop (l : List In) (hl : l.length < 1000000) (hlo : ∀ q ∈ l, q.ok) : ∀ (k i : Nat) (st : List Int), i + k = l.length → st.length = l.length →
    EvK Try.prog prim Try.f32 (loopAt Try.f32 1) (F32.h1 (l.map In.row) true (cellsL st) i) [.v (.int .i64 (ckF l k i st)), (if ckF l k i st = -1 then .none else .v (.sl []))] []
  | 0, i, st, h, hs => by
    unfold ckF
    rw [if_pos rfl]
    exact F32.l1_5 (l.map In.row) true (cellsL st) i (by simp; omega)
  | k + 1, i, st, h, hs => by
    have hlt : i < l.length := by omega
    have hg := List.getElem?_eq_getElem hlt
    have hq := hlo _ (List.getElem_mem hlt)
    generalize l[i] = q at hg hq
    have hg' : (l.map In.row)[Int.toNat (i : Int)]? = some [.int .i64 q.code, .int .i64 q.jt, .int .i64 q.jf, .int .u32 q.k] := by
      have : Int.toNat (i : Int) = i := by omega
      rw [this]
      exact rows_get hg
    have hlen : ((Int.toNat ((l.map In.row).length : Int) : Nat) : Int) = l.length := by rw [List.length_map]; omega
    have hri := right_ev l hl i q hq hg
    have hld := F40.p0 q.code
    have go : (decide ((i : Int) < ((l.map In.row).length : Int))) = true := by simp; omega
    have hk0 := (ofW hq.2.2.2).1
    have hst := cells_get (getD_some (st := st) (i := i) (by omega))
    have hunf : ckF l (k + 1) i st = if refused l.length i q st then (i : Int) else ckF l k (i + 1) ((nextI q i).foldl (upd1 q i) st) := by
      show (match l[i]? with | none => -1 | some q => if refused l.length i q st then (i : Int) else ckF l k (i + 1) ((nextI q i).foldl (upd1 q i) st)) = _
      rw [hg]
    rw [hunf]
    cases hb : refused l.length i q st with
    | true =>
      rw [if_pos rfl, if_neg (by omega)]
      exact F32.l1_3 (l.map In.row) true (cellsL st) i q.code q.jt q.jf q.k (rightF l.length i q) (loadsC q.code) (st.getD i 0) go (by omega) hg' (fun _ => by rw [hlen]; omega) (fun _ => hst) (fun _ => hk0) hb hri (fun _ => hld)
    | false =>
      rw [if_neg (by simp)]
      have hR : rightF l.length i q = true := by
        unfold refused at hb
        cases h : rightF l.length i q with
        | true => rfl
        | false => rw [h] at hb; simp at hb
      obtain ⟨_, hx, _, _, hlt'⟩ := right_of hR
      have hnn := next_nn (i := i) hq hx
      refine F32.l1_4 (l.map In.row) true (cellsL st) i q.code q.jt q.jf q.k (rightF l.length i q) (loadsC q.code) (st.getD i 0) ((nextI q i).map irow) go (by omega) hg' (fun _ => by rw [hlen]; omega) (fun _ => hst) (fun _ => hk0) hb (cells_flat st) hri (fun _ => hld) (next_ev q hq i (by omega) hx) ?_
      refine next_loop l hl q hq i hlt (nextI q i) (fun n hn => ⟨by have := hnn n hn; omega, hlt' n hn⟩) (by have := nextI_len q i; omega) (nextI q i).length 0 st (by omega) hs ?_
      rw [List.drop_zero]
      exact check_loop l hl hlo k (i + 1) _ (by omega) (by rw [upds_len, hs])

/-! ### a filter -/

theorem rep_cells (n : Nat) : ((List.replicate n [PV.int .i64 0]).flatten.map AV.v) = cellsL (List.replicate n 0) := by
  induction n with
  | zero => rfl
  | succ n ih =>
    rw [List.replicate_succ, List.flatten_cons, List.map_append, ih]
    rfl

theorem fill_loop (l : List In) (hl : l.length < 1000000) (h0 : 0 < l.length) {r : List AV} {h : List (List AV)} (hk : EvK Try.prog prim Try.f32 (loopAt Try.f32 1) (F32.h1 (l.map In.row) true (cellsL ((List.replicate l.length (65535 : Int)).set 0 0)) 0) r h) :
    ∀ (k i : Nat), i + k = l.length → EvK Try.prog prim Try.f32 (loopAt Try.f32 0) (F32.h0 (l.map In.row) true i (cellsL (List.replicate i 65535 ++ List.replicate k 0))) r h
  | 0, i, hi => by
    have hlen : ((Int.toNat ((l.map In.row).length : Int) : Nat) : Int) = l.length := by rw [List.length_map]; omega
    have hii : i = l.length := by omega
    subst hii
    rw [List.replicate_zero, List.append_nil]
    exact F32.l0_2 (l.map In.row) true _ (cellsL (List.replicate l.length 65535)) (cellsL ((List.replicate l.length (65535 : Int)).set 0 0)) (by rw [hlen]; simp) (by rw [hlen]; omega) (cells_put (x := 0) (by omega) (by simpa using h0) 0) (cells_flat _) hk
  | k + 1, i, hi => by
    have hlen : ((Int.toNat ((l.map In.row).length : Int) : Nat) : Int) = l.length := by rw [List.length_map]; omega
    have e : (List.replicate i (65535 : Int) ++ List.replicate (k + 1) 0).set (Int.toNat (i : Int)) 65535 = List.replicate (i + 1) 65535 ++ List.replicate k 0 := by
      have : Int.toNat (i : Int) = i := by omega
      rw [this, List.set_append_right _ _ (by simp)]
      simp only [List.length_replicate, Nat.sub_self, List.replicate_succ (n := k), List.set_cons_zero]
      rw [List.replicate_succ', List.append_assoc]
      rfl
    have hp := cells_put (st := List.replicate i (65535 : Int) ++ List.replicate (k + 1) 0) (x := (i : Int)) (by omega) (by simp) 65535
    rw [e] at hp
    exact F32.l0_1 (l.map In.row) true i _ _ (by rw [hlen]; simp; omega) (by rw [hlen]; omega) hp (in64 (by omega) (by omega)) (cells_flat _) (fill_loop l hl h0 hk k (i + 1) (by omega))

def ck (l : List In) : Int := ckF l l.length 0 ((List.replicate l.length (65535 : Int)).set 0 0)

theorem check32_ev (l : List In) (h0 : 0 < l.length) (hl : l.length < 1000000) (hlo : ∀ q ∈ l, q.ok) : EvF Try.prog prim 32 [.v (.sl (l.map In.row)), .v (.bool true)] [] [] [.v (.int .i64 (ck l)), (if ck l = -1 then .none else .v (.sl []))] [] := by
  have hlen : (Int.toNat ((l.map In.row).length : Int) : Nat) = l.length := by rw [List.length_map]; omega
  refine F32.p0 (l.map In.row) true (by omega) (by rw [List.length_map]; omega) ?_ ?_
  · rw [rep_cells]
    exact cells_flat _
  · rw [rep_cells, hlen]
    have := fill_loop l hl h0 (check_loop l hl hlo l.length 0 ((List.replicate l.length (65535 : Int)).set 0 0) (by omega) (by simp)) l.length 0 (by omega)
    rw [List.replicate_zero, List.nil_append] at this
    exact this

def longB (l : List In) : Bool := decide (l.length = 0 ∨ l.length > 4096)
def checkF (l : List In) : Int × Bool := if longB l then (0, false) else (ck l, ck l == -1)

theorem check_ev (l : List In) (hl : l.length < 1000000) (hlo : ∀ q ∈ l, q.ok) : EvF Try.prog prim 23 [.v (.sl (l.map In.row))] [] [] [.v (.int .i64 (checkF l).1), .v (.bool (checkF l).2)] [] := by
  have h31 := F31.p0 (l.map In.row)
  have e : (bif (((l.map In.row).length : Int) == 0) then true else (decide (((l.map In.row).length : Int) > 4096))) = longB l := by
    rw [List.length_map]
    unfold longB
    by_cases h1 : l.length = 0
    · simp [h1]
    · by_cases h2 : l.length > 4096
      · have : (l.length : Int) > 4096 := by omega
        simp [h1, h2, this]
      · have : ¬ (l.length : Int) > 4096 := by omega
        simp [h1, h2, this]
  rw [e] at h31
  unfold checkF
  cases hb : longB l with
  | true =>
    rw [hb] at h31
    rw [if_pos rfl]
    exact F23.p0 (l.map In.row) true rfl h31
  | false =>
    rw [hb] at h31
    rw [if_neg (by simp)]
    have h0 : 0 < l.length := by
      have := of_decide_eq_false hb
      omega
    have h32 := check32_ev l h0 hl hlo
    by_cases hc : ck l = -1
    · rw [if_pos hc] at h32
      exact F23_n.p1 (l.map In.row) false (ck l) rfl h31 h32
    · rw [if_neg hc] at h32
      exact F23.p1 (l.map In.row) false (ck l) rfl h31 h32

end Go.Ab.S3
