/-
What the cells keep.
-/
import Derived.Test.YtgjceiomfccbbaaSteps
namespace Go.Ab.S3
open Go Go.Proofs Go.Ab

def cellOf (y : Int) : Int := IntKind.i64.wrap ((BitVec.ofInt 64 y &&& BitVec.ofInt 64 15).toNat : Int)
def toX (y : Int) : Bool := (IntKind.i64.wrap ((BitVec.ofInt 64 y &&& BitVec.ofInt 64 16).toNat : Int)) != 0

theorem cellOf_range (y : Int) : 0 ≤ cellOf y ∧ cellOf y < 16 := by
  unfold cellOf
  have h : (BitVec.ofInt 64 y &&& BitVec.ofInt 64 15).toNat ≤ 15 := by
    rw [BitVec.toNat_and]
    exact Nat.and_le_right
  rw [wrap64]
  omega

theorem cellOf_wrap (y : Int) : IntKind.u32.wrap (cellOf y) = cellOf y := by
  have := cellOf_range y
  rw [wrapW]
  omega

def pair (p : Int × Int) : List In := if toX p.1 then [⟨1, 0, 0, p.2⟩, ⟨3, 0, 0, cellOf p.1⟩] else [⟨0, 0, 0, p.2⟩, ⟨2, 0, 0, cellOf p.1⟩]
def pairs (zs : List (Int × Int)) : List In := zs.flatMap pair

theorem pair_len (p : Int × Int) : (pair p).length = 2 := by unfold pair; split <;> rfl
theorem pairs_len : ∀ (zs : List (Int × Int)), (pairs zs).length = 2 * zs.length
  | [] => rfl
  | p :: zs => by
    show (pair p ++ pairs zs).length = _
    rw [List.length_append, pair_len, pairs_len zs, List.length_cons]
    omega
theorem pairs_snoc (zs : List (Int × Int)) (p : Int × Int) : pairs (zs ++ [p]) = pairs zs ++ pair p := by simp [pairs]

def wantF (look : Int) (w : Int) (zs : List (Int × Int)) : Int := zs.foldl (fun w p => if cellOf p.1 = look then p.2 else w) w

theorem upd_look {c : Nat → Int} {look m v : Int} (h0 : 0 ≤ look) (h1 : 0 ≤ m) : upd c m.toNat v look.toNat = if m = look then v else c look.toNat := by
  unfold upd
  by_cases h : m = look
  · rw [h, if_pos rfl, if_pos rfl]
  · rw [if_neg (by omega), if_neg h]

theorem pair_run (done : List In) (p : Int × Int) (tail : List In) (d : Da) (s : Ms) (n k : Nat) (look : Int) (hl : 0 ≤ look) (hp : s.pc = done.length) (hb : done.length < 4000) :
    ∃ t : Ms, runF (done ++ (pair p ++ tail)) d (k + 2) n s = runF (done ++ (pair p ++ tail)) d k (n + 2) t ∧ t.pc = (done.length + 2 : Nat) ∧ t.c look.toNat = if cellOf p.1 = look then p.2 else s.c look.toNat := by
  obtain ⟨a, x, c, pc⟩ := s
  have hr := cellOf_range p.1
  simp only at hp
  have g0 : ∀ (q0 q1 : In), (done ++ ([q0, q1] ++ tail))[done.length]? = some q0 := fun q0 q1 => by
    rw [List.getElem?_append_right (by omega)]; simp
  have g1 : ∀ (q0 q1 : In), (done ++ ([q0, q1] ++ tail))[done.length + 1]? = some q1 := fun q0 q1 => by
    rw [List.getElem?_append_right (by omega)]; simp
  have w1 := wp_of done.length hp (by omega)
  have w2 := wp_of _ w1 (by omega)
  unfold pair
  cases toX p.1 with
  | true =>
    rw [if_pos rfl]
    refine ⟨⟨a, p.2, upd c (cellOf p.1).toNat p.2, wp (wp pc)⟩, ?_, w2, upd_look hl hr.1⟩
    refine Eq.trans (run_go (k := k + 1) done.length hp (g0 _ _) rfl (st1 ..)) ?_
    exact Eq.trans (run_go (k := k) (done.length + 1) w1 (g1 _ _) rfl (st3 _ _ _ _ _ _ (by omega))) rfl
  | false =>
    rw [if_neg (by simp)]
    refine ⟨⟨p.2, x, upd c (cellOf p.1).toNat p.2, wp (wp pc)⟩, ?_, w2, upd_look hl hr.1⟩
    refine Eq.trans (run_go (k := k + 1) done.length hp (g0 _ _) rfl (st0 ..)) ?_
    exact Eq.trans (run_go (k := k) (done.length + 1) w1 (g1 _ _) rfl (st2 _ _ _ _ _ _ (by omega))) rfl

theorem pairs_run (tail : List In) (d : Da) (look : Int) (hl : 0 ≤ look) : ∀ (zs : List (Int × Int)) (done : List In) (s : Ms) (n k : Nat), s.pc = done.length → done.length + 2 * zs.length < 4000 →
    ∃ t : Ms, runF (done ++ (pairs zs ++ tail)) d (k + 2 * zs.length) n s = runF (done ++ (pairs zs ++ tail)) d k (n + 2 * zs.length) t ∧ t.pc = (done.length + 2 * zs.length : Nat) ∧ t.c look.toNat = wantF look (s.c look.toNat) zs
  | [], done, s, n, k, hp, hb => ⟨s, rfl, hp, rfl⟩
  | p :: zs, done, s, n, k, hp, hb => by
    rw [List.length_cons] at hb
    have e : pairs (p :: zs) ++ tail = pair p ++ (pairs zs ++ tail) := by simp [pairs]
    rw [e]
    obtain ⟨t, h1, h2, h3⟩ := pair_run done p (pairs zs ++ tail) d s n (k + 2 * zs.length) look hl hp (by omega)
    have hl2 : (done ++ pair p).length = done.length + 2 := by rw [List.length_append, pair_len]
    obtain ⟨u, h4, h5, h6⟩ := pairs_run tail d look hl zs (done ++ pair p) t (n + 2) k (by rw [hl2]; exact h2) (by rw [hl2]; omega)
    rw [List.append_assoc] at h4
    refine ⟨u, ?_, ?_, ?_⟩
    · have a1 : k + 2 * (p :: zs).length = k + 2 * zs.length + 2 := by rw [List.length_cons]; omega
      have a2 : n + 2 * (p :: zs).length = n + 2 + 2 * zs.length := by rw [List.length_cons]; omega
      rw [a1, a2, h1, h4]
    · rw [h5, hl2, List.length_cons]
      congr 1
      omega
    · rw [h6, h3]
      rfl

/-- Behind all stores: what is loaded. -/
theorem cells_a (zs : List (Int × Int)) (hz : zs.length ≤ 60) (look : Int) (hl : 0 ≤ look) (hl' : look ≤ 15) : run (pairs zs ++ [⟨96, 0, 0, look⟩, ⟨22, 0, 0, 0⟩]) noDa = (wantF look 0 zs, ((2 * zs.length + 2 : Nat) : Int), true) := by
  obtain ⟨t, h1, h2, h3⟩ := pairs_run [⟨96, 0, 0, look⟩, ⟨22, 0, 0, 0⟩] noDa look hl zs [] ⟨0, 0, c0, 0⟩ 0 (4094 - 2 * zs.length + 2) rfl (by simp; omega)
  simp only [List.nil_append, List.length_nil, Nat.zero_add] at h1 h2
  have e : 4094 - 2 * zs.length + 2 + 2 * zs.length = 4096 := by omega
  rw [e] at h1
  rw [run_start, h1]
  obtain ⟨a, x, c, pc⟩ := t
  have g0 : (pairs zs ++ [(⟨96, 0, 0, look⟩ : In), ⟨22, 0, 0, 0⟩])[2 * zs.length]? = some ⟨96, 0, 0, look⟩ := by
    rw [List.getElem?_append_right (by rw [pairs_len]; omega), pairs_len]; simp
  have g1 : (pairs zs ++ [(⟨96, 0, 0, look⟩ : In), ⟨22, 0, 0, 0⟩])[2 * zs.length + 1]? = some ⟨22, 0, 0, 0⟩ := by
    rw [List.getElem?_append_right (by rw [pairs_len]; omega), pairs_len]; simp
  simp only at h2 h3
  have w1 := wp_of _ h2 (by omega)
  refine Eq.trans (run_go (k := 4094 - 2 * zs.length + 1) _ h2 g0 rfl (st96 _ _ _ _ _ _ (by omega))) ?_
  refine Eq.trans (run_end (k := 4094 - 2 * zs.length) _ w1 g1 rfl) ?_
  rw [ev22 rfl]
  show (c look.toNat, _, _) = _
  rw [h3]
  simp [c0]
  omega

theorem cells_x (zs : List (Int × Int)) (hz : zs.length ≤ 60) (look : Int) (hl : 0 ≤ look) (hl' : look ≤ 15) : run (pairs zs ++ [⟨97, 0, 0, look⟩, ⟨135, 0, 0, 0⟩, ⟨22, 0, 0, 0⟩]) noDa = (wantF look 0 zs, ((2 * zs.length + 3 : Nat) : Int), true) := by
  obtain ⟨t, h1, h2, h3⟩ := pairs_run [⟨97, 0, 0, look⟩, ⟨135, 0, 0, 0⟩, ⟨22, 0, 0, 0⟩] noDa look hl zs [] ⟨0, 0, c0, 0⟩ 0 (4093 - 2 * zs.length + 3) rfl (by simp; omega)
  simp only [List.nil_append, List.length_nil, Nat.zero_add] at h1 h2
  have e : 4093 - 2 * zs.length + 3 + 2 * zs.length = 4096 := by omega
  rw [e] at h1
  rw [run_start, h1]
  obtain ⟨a, x, c, pc⟩ := t
  have g0 : (pairs zs ++ [(⟨97, 0, 0, look⟩ : In), ⟨135, 0, 0, 0⟩, ⟨22, 0, 0, 0⟩])[2 * zs.length]? = some ⟨97, 0, 0, look⟩ := by
    rw [List.getElem?_append_right (by rw [pairs_len]; omega), pairs_len]; simp
  have g1 : (pairs zs ++ [(⟨97, 0, 0, look⟩ : In), ⟨135, 0, 0, 0⟩, ⟨22, 0, 0, 0⟩])[2 * zs.length + 1]? = some ⟨135, 0, 0, 0⟩ := by
    rw [List.getElem?_append_right (by rw [pairs_len]; omega), pairs_len]; simp
  have g2 : (pairs zs ++ [(⟨97, 0, 0, look⟩ : In), ⟨135, 0, 0, 0⟩, ⟨22, 0, 0, 0⟩])[2 * zs.length + 1 + 1]? = some ⟨22, 0, 0, 0⟩ := by
    rw [List.getElem?_append_right (by rw [pairs_len]; omega), pairs_len]
    have : 2 * zs.length + 1 + 1 - 2 * zs.length = 2 := by omega
    rw [this]
    rfl
  simp only at h2 h3
  have w1 := wp_of _ h2 (by omega)
  have w2 := wp_of _ w1 (by omega)
  refine Eq.trans (run_go (k := 4093 - 2 * zs.length + 2) _ h2 g0 rfl (st97 _ _ _ _ _ _ (by omega))) ?_
  refine Eq.trans (run_go (k := 4093 - 2 * zs.length + 1) _ w1 g1 rfl (st135 ..)) ?_
  refine Eq.trans (run_end (k := 4093 - 2 * zs.length) _ w2 g2 rfl) ?_
  rw [ev22 rfl]
  show (c look.toNat, _, _) = _
  rw [h3]
  simp [c0]
  omega

/-! ### the law -/

theorem pairs_ok (zs : List (Int × Int)) (h : ∀ p ∈ zs, inR .u32 p.2) : ∀ q ∈ pairs zs, q.ok := by
  intro q hq
  obtain ⟨p, hp, hq⟩ := List.mem_flatMap.1 hq
  have hv := h p hp
  have hr := cellOf_range p.1
  have hc : inR .u32 (cellOf p.1) := inW (by omega) (by omega)
  unfold pair at hq
  split at hq
  · simp only [List.mem_cons, List.not_mem_nil, or_false] at hq
    rcases hq with rfl | rfl
    · exact ok_in (in64 (by decide) (by decide)) z64 z64 hv
    · exact ok_in (in64 (by decide) (by decide)) z64 z64 hc
  · simp only [List.mem_cons, List.not_mem_nil, or_false] at hq
    rcases hq with rfl | rfl
    · exact ok_in (in64 (by decide) (by decide)) z64 z64 hv
    · exact ok_in (in64 (by decide) (by decide)) z64 z64 hc

theorem four_app (l : List In) (r : List (List PV)) (h : ∀ x ∈ r, x.length = 4) : ∀ x ∈ l.map In.row ++ r, x.length = 4 := fun x hx => by
  rcases List.mem_append.1 hx with h' | h'
  · exact rows_four _ x h'
  · exact h x h'

def ints (k : IntKind) (l : List Int) : List (List PV) := l.map fun n => [.int k n]

theorem ints_get {k : IntKind} {l : List Int} {i : Nat} {y : Int} (h : l[i]? = some y) : (ints k l)[i]? = some [.int k y] := by unfold ints; rw [List.getElem?_map, h]; rfl

theorem cells_loop (ats vs : List Int) (look : Int) (hl : 0 ≤ look) (hl' : look ≤ 15) (hn : ats.length ≤ 60) (hv : ats.length ≤ vs.length) (hvo : ∀ v ∈ vs, inR .u32 v) : ∀ (k n : Nat), n + k = ats.length →
    EvK Try.prog prim Try.f10 (loopAt Try.f10 0) (F10.h0 (ints .i64 ats) (ints .u32 vs) look ((pairs ((ats.zip vs).take n)).map In.row) (wantF look 0 ((ats.zip vs).take n)) n) [.v (.bool true)] []
  | 0, n, h => by
    have zl : (ats.zip vs).length = ats.length := by rw [List.length_zip]; omega
    have tk : (ats.zip vs).take n = ats.zip vs := List.take_of_length_le (by omega)
    rw [tk]
    have hzo : ∀ p ∈ ats.zip vs, inR .u32 p.2 := fun p hp => hvo _ (List.of_mem_zip hp).2
    have po := pairs_ok _ hzo
    have hlk : inR .u32 look := inW hl (by omega)
    have ra := cells_a (ats.zip vs) (by omega) look hl hl'
    have rx := cells_x (ats.zip vs) (by omega) look hl hl'
    have ha := run_ev (pairs (ats.zip vs) ++ [⟨96, 0, 0, look⟩, ⟨22, 0, 0, 0⟩]) (by
      intro q hq
      rcases List.mem_append.1 hq with hq | hq
      · exact po q hq
      · simp only [List.mem_cons, List.not_mem_nil, or_false] at hq
        rcases hq with rfl | rfl
        · exact ok_in (in64 (by decide) (by decide)) z64 z64 hlk
        · exact ok_in (in64 (by decide) (by decide)) z64 z64 zW) noDa noDa_ok
    have hx := run_ev (pairs (ats.zip vs) ++ [⟨97, 0, 0, look⟩, ⟨135, 0, 0, 0⟩, ⟨22, 0, 0, 0⟩]) (by
      intro q hq
      rcases List.mem_append.1 hq with hq | hq
      · exact po q hq
      · simp only [List.mem_cons, List.not_mem_nil, or_false] at hq
        rcases hq with rfl | rfl | rfl
        · exact ok_in (in64 (by decide) (by decide)) z64 z64 hlk
        · exact ok_in (in64 (by decide) (by decide)) z64 z64 zW
        · exact ok_in (in64 (by decide) (by decide)) z64 z64 zW) noDa noDa_ok
    rw [ra, List.map_append] at ha
    rw [rx, List.map_append] at hx
    generalize wantF look 0 (ats.zip vs) = w at ha hx
    have ew : IntKind.u32.wrap look = look := by rw [wrapW]; omega
    have pl := pairs_len (ats.zip vs)
    have := F10.l0_6 (ints .i64 ats) (ints .u32 vs) look ((pairs (ats.zip vs)).map In.row) w n w (2 * (ats.zip vs).length + 2 : Nat) true w (2 * (ats.zip vs).length + 3 : Nat) true (by simp [ints]; omega)
      (by rw [List.length_map]; omega) (rows_four _) (by simp; omega) (four_app _ _ (by simp)) (by simp; omega) (four_app _ _ (by simp)) (by rw [ew]; exact ha) (by rw [ew]; exact hx)
    have e : (bif (bif (bif (bif true then true else false) then (w == w) else false) then (w == w) else false) then (((2 * (ats.zip vs).length + 2 : Nat) : Int) == (IntKind.i64.wrap ((((pairs (ats.zip vs)).map In.row).length : Int) + 2))) else false) = true := by
      have : IntKind.i64.wrap ((((pairs (ats.zip vs)).map In.row).length : Int) + 2) = ((2 * (ats.zip vs).length + 2 : Nat) : Int) := by
        rw [wrap64, List.length_map, pl]
        omega
      rw [this]
      simp
    rw [e] at this
    exact this
  | k + 1, n, h => by
    have hna : n < ats.length := by omega
    have hnv : n < vs.length := by omega
    have zl : (ats.zip vs).length = ats.length := by rw [List.length_zip]; omega
    have ga := List.getElem?_eq_getElem hna
    have gv := List.getElem?_eq_getElem hnv
    have gz : (ats.zip vs)[n]? = some (ats[n], vs[n]) := by rw [List.getElem?_zip_eq_some]; exact ⟨ga, gv⟩
    generalize ats[n] = y at ga gz
    generalize vs[n] = v at gv gz
    have hnz : n < (ats.zip vs).length := by omega
    have tk : (ats.zip vs).take (n + 1) = (ats.zip vs).take n ++ [(y, v)] := by
      rw [List.take_add_one, gz]
      rfl
    have ih := cells_loop ats vs look hl hl' hn hv hvo k (n + 1) (by omega)
    rw [tk, pairs_snoc, List.map_append] at ih
    have wf : wantF look 0 ((ats.zip vs).take n ++ [(y, v)]) = if cellOf y = look then v else wantF look 0 ((ats.zip vs).take n) := by
      unfold wantF
      rw [List.foldl_append]
      rfl
    rw [wf] at ih
    have tl : ((ats.zip vs).take n).length = n := by rw [List.length_take]; omega
    have pl := pairs_len ((ats.zip vs).take n)
    rw [tl] at pl
    generalize (ats.zip vs).take n = zs at ih pl
    generalize wantF look 0 zs = w at ih
    have e1 : IntKind.i64.wrap ((n : Int) + 1) = ((n + 1 : Nat) : Int) := by rw [wrap64]; omega
    have go : (decide ((n : Int) < ((ints .i64 ats).length : Int))) = true := by simp [ints]; omega
    have len : ∀ (r : List (List PV)), r.length = 2 → ((pairs zs).map In.row ++ r).length * 32 ≤ 2 ^ 47 := fun r hr => by
      rw [List.length_append, List.length_map, hr]; omega
    unfold pair at ih
    cases hx : toX y with
    | true =>
      rw [hx, if_pos rfl] at ih
      by_cases hc : cellOf y = look
      · rw [if_pos hc] at ih
        refine F10.l0_2 (ints .i64 ats) (ints .u32 vs) look ((pairs zs).map In.row) w n y v go (by omega) (ints_get ga) hx (ints_get gv) (len _ rfl) (four_app _ _ (by simp)) (eq_of hc) ?_
        rw [e1, show IntKind.u32.wrap (IntKind.i64.wrap ((BitVec.ofInt 64 y &&& BitVec.ofInt 64 15).toNat : Int)) = cellOf y from cellOf_wrap y]
        exact ih
      · rw [if_neg hc] at ih
        refine F10.l0_3 (ints .i64 ats) (ints .u32 vs) look ((pairs zs).map In.row) w n y v go (by omega) (ints_get ga) hx (ints_get gv) (len _ rfl) (four_app _ _ (by simp)) (ne_of hc) ?_
        rw [e1, show IntKind.u32.wrap (IntKind.i64.wrap ((BitVec.ofInt 64 y &&& BitVec.ofInt 64 15).toNat : Int)) = cellOf y from cellOf_wrap y]
        exact ih
    | false =>
      rw [hx, if_neg (by simp)] at ih
      by_cases hc : cellOf y = look
      · rw [if_pos hc] at ih
        refine F10.l0_4 (ints .i64 ats) (ints .u32 vs) look ((pairs zs).map In.row) w n y v go (by omega) (ints_get ga) hx (ints_get gv) (len _ rfl) (four_app _ _ (by simp)) (eq_of hc) ?_
        rw [e1, show IntKind.u32.wrap (IntKind.i64.wrap ((BitVec.ofInt 64 y &&& BitVec.ofInt 64 15).toNat : Int)) = cellOf y from cellOf_wrap y]
        exact ih
      · rw [if_neg hc] at ih
        refine F10.l0_5 (ints .i64 ats) (ints .u32 vs) look ((pairs zs).map In.row) w n y v go (by omega) (ints_get ga) hx (ints_get gv) (len _ rfl) (four_app _ _ (by simp)) (ne_of hc) ?_
        rw [e1, show IntKind.u32.wrap (IntKind.i64.wrap ((BitVec.ofInt 64 y &&& BitVec.ofInt 64 15).toNat : Int)) = cellOf y from cellOf_wrap y]
        exact ih

theorem machineCells (ats vs : List Int) (look : Int) (hvo : ∀ v ∈ vs, inR .u32 v) : EvF Try.prog prim 10 [.v (.sl (ats.map fun n => [.int .i64 n])), .v (.sl (vs.map fun n => [.int .u32 n])), .v (.int .i64 look)] [] [] [.v (.bool true)] [] := by
  show EvF Try.prog prim 10 [.v (.sl (ints .i64 ats)), .v (.sl (ints .u32 vs)), .v (.int .i64 look)] [] [] [.v (.bool true)] []
  have la : (ints .i64 ats).length = ats.length := by simp [ints]
  have lv : (ints .u32 vs).length = vs.length := by simp [ints]
  by_cases h : ats.length > 60 ∨ vs.length < ats.length ∨ look < 0 ∨ look > 15
  · refine F10.p0 (ints .i64 ats) (ints .u32 vs) look true ?_ alive3
    rw [la, lv]
    by_cases h1 : (ats.length : Int) > 60 <;> by_cases h2 : (vs.length : Int) < ats.length <;> by_cases h3 : look < 0 <;> by_cases h4 : look > 15 <;> simp [h1, h2, h3, h4] <;> omega
  · refine F10.p1 (ints .i64 ats) (ints .u32 vs) look true ?_ alive3 (cells_loop ats vs look (by omega) (by omega) (by omega) (by omega) hvo ats.length 0 (by omega))
    rw [la, lv]
    have h1 : ¬ (ats.length : Int) > 60 := by omega
    have h2 : ¬ (vs.length : Int) < ats.length := by omega
    have h3 : ¬ look < 0 := by omega
    have h4 : ¬ look > 15 := by omega
    simp [h1, h2, h3, h4]

end Go.Ab.S3
