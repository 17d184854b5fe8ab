/-
New blocks: a new slice; variables in boxes: made, read, written.
-/
import Derived.Test.YtimkgalclegffaaOpD
namespace Go.Ab
open Go

section
variable {P : Program} {w0 : World} {lim0 : Nat → Nat} {O : Nat → Prop} {G : Gh} {toks : List (Option Nat)} {outer heap : List (List AV)} {w : World}

/-- The limits with a new block's. -/
def limAt (lim : Nat → Nat) (b m : Nat) : Nat → Nat := fun x => if x = b then m else lim x

theorem cell_alloc_old (w : World) (o : Obj) (b x : Nat) (h : b < w.heap.size) : (w.alloc o).cell? ⟨b, x, none⟩ = w.cell? ⟨b, x, none⟩ := by
  simp only [World.cell?, heap_alloc_old w o b h]

theorem cell_alloc_new (w : World) (c : Array Value) (t : TypeId) (x : Nat) : (w.alloc (.cells c t)).cell? ⟨w.heap.size, x, none⟩ = c[x]? := by
  simp only [World.cell?, heap_alloc_new]
  simp

theorem size_alloc (w : World) (o : Obj) : (w.alloc o).heap.size = w.heap.size + 1 := by show (w.heap.push o).size = _; simp

theorem Inv.lim_lt (hi : Inv w0 lim0 O G toks outer heap w) {b o : Nat} (h : o < G.lim b) : b < w.heap.size := by
  rcases Nat.lt_or_ge b w.heap.size with h' | h'
  · exact h'
  · rw [hi.frame.above b h'] at h; omega

/-- A box stays where its block, and the limits of the rest, stay. -/
theorem BoxOK.keep {G G' : Gh} {toks toks' : List (Option Nat)} {w w' : World} {lim lim' : Nat → Nat} {blk : Nat} {cs : List AV} (h : BoxOK G toks w lim blk cs) (k : Keep G toks w G' toks' w')
    (hh : w'.heap[blk]? = w.heap[blk]?) (hl : lim' blk = lim blk) : BoxOK G' toks' w' lim' blk cs := by
  obtain ⟨cells, elem, h1, h2, h3, h4⟩ := h
  exact ⟨cells, elem, hh.trans h1, h2, fun j v a hv ha => ⟨(h3 j v a hv ha).1, (h3 j v a hv ha).2.keep k⟩, hl.trans h4⟩

theorem Keep.low {G G' : Gh} {toks toks' : List (Option Nat)} {w w' : World} (k : Keep G toks w G' toks' w') : Keep G.low [] w G'.low [] w' :=
  ⟨k.grow, k.obs, fun b blk h => by simp [Gh.low] at h, Nat.le_refl _, fun t n h _ => by simp at h⟩

/-- A step that leaves all blocks that were there, and their limits, as they were. -/
theorem Inv.quiet (hi : Inv w0 lim0 O G toks outer heap w) {w' : World} {lim' : Nat → Nat} (hs : w.heap.size ≤ w'.heap.size) (ho : w'.os = w.os) (ht : w'.tape = w.tape) (hu : w'.output = w.output)
    (hb : ∀ b, b < w.heap.size → w'.heap[b]? = w.heap[b]? ∧ lim' b = G.lim b) (ha : ∀ b, w'.heap.size ≤ b → lim' b = 0) :
    Inv w0 lim0 O { G with lim := lim' } toks outer heap w' ∧ Keep G toks w { G with lim := lim' } toks w' := by
  have hg : Grow G.lim w lim' w' := by
    refine ⟨fun b => ?_, fun b o h => ?_⟩
    · rcases Nat.lt_or_ge b w.heap.size with h | h
      · exact Nat.le_of_eq (hb b h).2.symm
      · rw [hi.frame.above b h]; exact Nat.zero_le _
    · exact World.cell?_of_block (w := w) (hb b (hi.lim_lt h)).1
  have hk : Keep G toks w { G with lim := lim' } toks w' := by
    refine ⟨hg, fun b blk h => h, fun b blk h => h, Nat.le_refl _, fun t n h _ => ⟨n, h, .inr ⟨rfl, fun b hb' => ?_⟩⟩⟩
    have hlt := (hi.tok t b n hb' h).2.1
    exact ⟨hb', (hb b hlt).2, (hb b hlt).1⟩
  refine ⟨⟨⟨Nat.le_trans hi.frame.size hs, ho.trans hi.frame.os, ht.trans hi.frame.tape, hu.trans hi.frame.output, fun b hb0 hO => ?_, hi.frame.grow.trans hg, ha⟩, hi.hb, hi.ho, fun i blk cs h1 h2 => ?_, fun i blk cs h1 h2 => ?_, hi.nodup, hi.bnew, hi.oold, hi.tlen, fun t b n h1 h2 => ?_, hi.tdis⟩, hk⟩
  · obtain ⟨e1, e2⟩ := hi.frame.blk b hb0 hO
    obtain ⟨e3, e4⟩ := hb b (Nat.lt_of_lt_of_le hb0 hi.frame.size)
    exact ⟨e3.trans e1, e4.trans e2⟩
  · have hlt := (hi.blk_lt (List.mem_append_right _ (List.mem_of_getElem? h1))).1
    exact (hi.box i blk cs h1 h2).keep hk (hb blk hlt).1 (hb blk hlt).2
  · have hlt := (hi.blk_lt (List.mem_append_left _ (List.mem_of_getElem? h1))).1
    exact (hi.obox i blk cs h1 h2).keep hk.low (hb blk hlt).1 (hb blk hlt).2
  · obtain ⟨t1, t2, t3⟩ := hi.tok t b n h1 h2
    exact ⟨t1, Nat.lt_of_lt_of_le t2 hs, t3⟩

/-- A new block, of which so many cells nobody writes any more. -/
theorem Inv.alloc (hi : Inv w0 lim0 O G toks outer heap w) (o : Obj) (m : Nat) :
    Inv w0 lim0 O { G with lim := limAt G.lim w.heap.size m } toks outer heap (w.alloc o) ∧ Keep G toks w { G with lim := limAt G.lim w.heap.size m } toks (w.alloc o) := by
  refine hi.quiet (by rw [size_alloc]; omega) rfl rfl rfl (fun b hb => ⟨heap_alloc_old w o b hb, ?_⟩) fun b hb => ?_
  · simp [limAt]; omega
  · rw [size_alloc] at hb
    simp only [limAt]
    rw [if_neg (by omega)]
    exact hi.frame.above b (by omega)

/-! ### new slices -/

/-- A flat row of cells that reads as rows of n cells. -/
def Flat (lim : Nat → Nat) (w : World) (n : Nat) (X : Array Value) (rows : List (List PV)) : Prop :=
  X.size = rows.length * n ∧ (∀ r ∈ rows, r.length = n) ∧ ∀ i j p, at2 rows i j = some p → ∃ v, X[i * n + j]? = some v ∧ PRep lim w v p

theorem padd_spec (n : Nat) : ∀ (rows : List (List PV)) (i : Nat) (x : List PV) (rows' : List (List PV)), padd n rows i x = some rows' → rows' = rows.set i x ∧ i < rows.length ∧ x.length = n
  | [], i, x, rows', h => by simp [padd] at h
  | r :: rs, 0, x, rows', h => by
    simp only [padd] at h
    split at h <;> (try (simp at h; done))
    simp at h
    exact ⟨by simp [h], by simp, by assumption⟩
  | r :: rs, i + 1, x, rows', h => by
    simp only [padd] at h
    obtain ⟨m, hm, rfl⟩ := Option.map_eq_some_iff.1 h
    obtain ⟨e1, e2, e3⟩ := padd_spec n rs i x m hm
    exact ⟨by simp [e1], by simpa using e2, e3⟩

theorem Flat.put {lim : Nat → Nat} {n i : Nat} {X C : Array Value} {rows : List (List PV)} {r : List PV} (h : Flat lim w n X rows) (hc : Reps lim w C r) (hi : i < rows.length) (hr : r.length = n) :
    Flat lim w n (C.zipIdx.foldl (fun cs (c, j) => cs.setIfInBounds (i * n + j) c) X) (rows.set i r) := by
  obtain ⟨h1, h2, h3⟩ := h
  obtain ⟨c1, c2⟩ := hc
  have e : C.zipIdx.foldl (fun cs (c, j) => cs.setIfInBounds (i * n + j) c) X = (C.toList.zipIdx 0).foldl (fun cs (c, j) => cs.setIfInBounds (i * n + j) c) X := by
    rw [← Array.foldl_toList]; simp
  rw [e]
  obtain ⟨f1, f2⟩ := foldl_set X (i * n) C.toList 0
  have hle : i * n + n ≤ rows.length * n := by
    have : (i + 1) * n ≤ rows.length * n := Nat.mul_le_mul_right _ hi
    rwa [Nat.add_mul, Nat.one_mul] at this
  refine ⟨by rw [f1, h1]; simp, fun r' hr' => ?_, fun a b p hq => ?_⟩
  · rcases List.mem_or_eq_of_mem_set hr' with h | h
    · exact h2 _ h
    · rw [h, hr]
  · rw [f2]
    simp only [Nat.add_zero, Array.length_toList]
    unfold at2 at hq
    by_cases ha : a = i
    · subst ha
      rw [List.getElem?_set_self hi] at hq
      simp only [Option.bind_some] at hq
      have hb := (List.getElem?_eq_some_iff.1 hq).1
      rw [if_pos ⟨by omega, by omega, by omega⟩]
      have hbC : b < C.size := by omega
      refine ⟨C[b], ?_, c2 b _ p (Array.getElem?_eq_getElem hbC) hq⟩
      rw [show a * n + b - a * n = b from by omega]
      simp [hbC]
    · rw [List.getElem?_set_ne (fun h => ha h.symm)] at hq
      obtain ⟨v, hv, hp⟩ := h3 a b p hq
      refine ⟨v, ?_, hp⟩
      have hbn : b < n := by
        obtain ⟨r', hr', hb⟩ := Option.bind_eq_some_iff.1 hq
        rw [← h2 r' (List.mem_of_getElem? hr')]
        exact (List.getElem?_eq_some_iff.1 hb).1
      rw [if_neg ?_]
      · exact hv
      · rintro ⟨g1, g2, _⟩
        rw [c1, hr] at g2
        apply ha
        rcases Nat.lt_or_ge a i with hlt | hge
        · have : (a + 1) * n ≤ i * n := Nat.mul_le_mul_right _ hlt
          rw [Nat.add_mul, Nat.one_mul] at this
          omega
        · rcases Nat.lt_or_ge i a with hlt | hge'
          · have : (i + 1) * n ≤ a * n := Nat.mul_le_mul_right _ hlt
            rw [Nat.add_mul, Nat.one_mul] at this
            omega
          · omega

theorem fillRows_rep {n : Nat} {e : Operand → Value} {ρ : Operand → AV} : ∀ (ps : List (Nat × Operand)) (X : Array Value) (rows rows' : List (List PV)),
    fillRows n ρ ps rows = some rows' → Flat G.lim w n X rows → (∀ p ∈ ps, ARep G toks w (e p.2) (ρ p.2)) → ∃ X', Instr.fill (fun i => some (i * n, n)) X (ps.map fun p => (p.1, e p.2)) = some X' ∧ Flat G.lim w n X' rows' ∧ rows'.length = rows.length
  | [], X, rows, rows', h, hX, _ => by simp [fillRows] at h; subst h; exact ⟨X, rfl, hX, rfl⟩
  | (i, x) :: ps, X, rows, rows', h, hX, he => by
    unfold fillRows at h
    split at h <;> (try (simp at h; done))
    rename_i r hb
    split at h <;> (try (simp at h; done))
    rename_i rows1 hp
    obtain ⟨rfl, hlt, hlen⟩ := padd_spec n rows i r rows1 hp
    have hc := (he (i, x) (by simp)).row hb
    obtain ⟨X', h1, h2, h3⟩ := fillRows_rep ps _ _ rows' h (hX.put hc hlt hlen) (fun p hp => he p (List.mem_cons_of_mem _ hp))
    refine ⟨X', ?_, h2, by simpa using h3⟩
    have hs : (e x).cells.size = n := by rw [hc.1, hlen]
    have hle : ¬ (i * n + n > X.size) := by
      rw [hX.1]
      have : (i + 1) * n ≤ rows.length * n := Nat.mul_le_mul_right _ hlt
      rw [Nat.add_mul, Nat.one_mul] at this
      omega
    simp only [List.map_cons, Instr.fill, hs, ne_eq, not_true_eq_false, decide_false, Bool.false_or, decide_eq_true_eq]
    rw [if_neg hle]
    exact h1

/-- A slice over a whole new block. -/
theorem Flat.rep {n : Nat} {X : Array Value} {rows : List (List PV)} {elem : TypeId} (hi : Inv w0 lim0 O G toks outer heap w) (h : Flat G.lim w n X rows) :
    PRep (limAt G.lim w.heap.size X.size) (w.alloc (.cells X elem)) (.slice (some ⟨w.heap.size, 0, none⟩) rows.length rows.length) (.sl rows) := by
  obtain ⟨h1, h2, h3⟩ := h
  have hk := (hi.alloc (.cells X elem) X.size).2.grow
  refine .sl w.heap.size 0 _ _ n rows (fun i j => X.getD (i * n + j) undef) rfl (Nat.le_refl _) h2 (fun i j p hq => ?_) fun i j p hq => ?_
  · obtain ⟨v, hv, _⟩ := h3 i j p hq
    rw [Nat.zero_add, cell_alloc_new]
    have hlt := (Array.getElem?_eq_some_iff.1 hv).1
    exact ⟨by rw [hv]; simp [Array.getD_eq_getD_getElem?, hv], by simp [limAt]; omega⟩
  · obtain ⟨v, hv, hp⟩ := h3 i j p hq
    have e : X.getD (i * n + j) undef = v := by simp [Array.getD_eq_getD_getElem?, hv]
    rw [e]
    exact hp.grow hk

theorem flat_zero {n len : Nat} {Z : Array Value} {z : List PV} (hZ : Reps G.lim w Z z) (hz : z.length = n) (hn : n ≠ 0) :
    Flat G.lim w n ((Array.range (len * n)).map (Z[· % Z.size]!)) (List.replicate len z) := by
  refine ⟨by simp, fun r hr => by rw [(List.mem_replicate.1 hr).2, hz], fun i j p hq => ?_⟩
  unfold at2 at hq
  obtain ⟨r, hr, hj⟩ := Option.bind_eq_some_iff.1 hq
  have hi := (List.getElem?_eq_some_iff.1 hr).1
  simp only [List.length_replicate] at hi
  have hr' : r = z := by rw [List.getElem?_replicate, if_pos hi] at hr; exact (Option.some.inj hr).symm
  subst hr'
  have hjn := (List.getElem?_eq_some_iff.1 hj).1
  have hlt : i * n + j < len * n := by
    have : (i + 1) * n ≤ len * n := Nat.mul_le_mul_right _ hi
    rw [Nat.add_mul, Nat.one_mul] at this
    omega
  have hZn : Z.size = n := by rw [hZ.1, hz]
  have hmod : (i * n + j) % Z.size = j := by rw [hZn, Nat.mul_comm, Nat.mul_add_mod, Nat.mod_eq_of_lt (by omega)]
  have hjZ : j < Z.size := by omega
  refine ⟨Z[j], ?_, hZ.2 j _ p (Array.getElem?_eq_getElem hjZ) hj⟩
  rw [Array.getElem?_map, Array.getElem?_range, if_pos hlt]
  simp only [Option.map_some, hmod]
  rw [getElem!_pos Z j hjZ]

/-- The zero value of a type of slices' elements. -/
theorem zero_row {t : TypeId} {z : List PV} (h : (zeroT P t).bind AV.row = some z) : ∃ i zv, P.info? t = some i ∧ i.zero = some zv ∧ (∀ w, (zeroValue t).run P w = .ok zv w) ∧ ∀ lim w, Reps lim w zv.cells z := by
  obtain ⟨za, hza, hzr⟩ := Option.bind_eq_some_iff.1 h
  have hza' := hza
  unfold zeroT at hza'
  obtain ⟨zv, hv, rfl⟩ := Option.map_eq_some_iff.1 hza'
  obtain ⟨i, hi, hz⟩ := Option.bind_eq_some_iff.1 hv
  refine ⟨i, zv, hi, hz, fun w => by simp [zeroValue, typeInfo, hi, hz], fun lim w => ?_⟩
  have : ARep ⟨lim, [], [], []⟩ [] w zv (constOf zv) := by
    cases hc : constOf zv with
    | agg ps =>
      obtain ⟨cs, rfl, hr⟩ := constOf_agg hc
      exact .agg (hr lim w).1 (hr lim w).2
    | v p =>
      unfold constOf at hc
      split at hc
      · split at hc <;> simp at hc
      · split at hc <;> simp at hc
        subst hc
        exact .v (pvOf_rep (by assumption) _ _)
    | none => rw [hc] at hzr; simp [AV.row, AV.pv] at hzr
    | _ => unfold constOf at hc; split at hc <;> split at hc <;> simp at hc
  exact this.row hzr

theorem sem_buildSlice {e : Operand → Value} {ρ : Operand → AV} {t len : Nat} {parts : Array (Nat × Operand)} {rows : List (List PV)} {l : List Prop} (hi : Inv w0 lim0 O G toks outer heap w) (hx : ∀ p ∈ parts.toList, ARep G toks w (e p.2) (ρ p.2))
    (h : plain P (.buildSlice t len parts) .d ρ = some (.v (.sl rows), l)) :
    ∃ X elem n, (do pure (.value (← Instr.buildSlice t len (parts.map fun (i, x) => (i, e x)))) : Sem Next).run P w = .ok (.value (.slice (some ⟨w.heap.size, 0, none⟩) rows.length rows.length)) (w.alloc (.cells X elem)) ∧ Flat G.lim w n X rows := by
  simp only [plain] at h
  split at h <;> (try (simp at h; done))
  rename_i el hu
  split at h <;> (try (simp at h; done))
  rename_i n z hs hz
  split at h <;> (try (simp at h; done))
  rename_i hcond
  simp only [Bool.and_eq_true, decide_eq_true_eq, ne_eq] at hcond
  obtain ⟨⟨hzn, hn⟩, hsz⟩ := hcond
  obtain ⟨rows', hf, he⟩ := Option.map_eq_some_iff.1 h
  simp only [Prod.mk.injEq, AV.v.injEq, PV.sl.injEq] at he
  obtain ⟨rfl, rfl⟩ := he
  obtain ⟨i, zv, hinfo, hiz, hzrun, hZ⟩ := zero_row hz
  have hZ := hZ G.lim w
  obtain ⟨X', h1, h2, h3⟩ := fillRows_rep (e := e) parts.toList _ _ rows' hf (flat_zero (len := len) hZ hzn hn) hx
  refine ⟨X', el, n, ?_, h2⟩
  have hpm : (parts.map fun (i, x) => (i, e x)).toList = parts.toList.map fun p => (p.1, e p.2) := by simp
  have hlen : rows'.length = len := by rw [h3]; simp
  rw [hlen]
  apply run_pair
  have hnot : ¬ (len * n > 2 ^ 24) := by omega
  by_cases hl : len * n = 0
  · have hl0 : len = 0 := by rcases Nat.mul_eq_zero.1 hl with h | h <;> omega
    subst hl0
    have e0 : ((Array.range (0 * n)).map (zv.cells[· % zv.cells.size]!)) = #[] := by simp
    rw [e0] at h1
    have e1 : ∀ f : Nat → Value, ((Array.range (0 * n)).map f) = #[] := by intro f; simp
    simp only [Instr.buildSlice, Sem.run_bind, run_underlying hu, Result.andThen_ok, run_sizeOf' hs, if_neg hnot, if_pos hl, Sem.run_pure, hpm, e1, h1]
    simp [newRow]
  · simp only [Instr.buildSlice, Sem.run_bind, run_underlying hu, Result.andThen_ok, run_sizeOf' hs, hl, if_false, hzrun, hnot, Sem.run_pure, hpm, h1]
    simp [newRow]

theorem sem_buildSliceP {e : Operand → Value} {ρ : Operand → AV} {t len : Nat} {parts : Array (Nat × Operand)} {a : AV} {l : List Prop} (hi : Inv w0 lim0 O G toks outer heap w) (hx : ∀ p ∈ parts.toList, ARep G toks w (e p.2) (ρ p.2))
    (h : plain P (.buildSlice t len parts) .d ρ = some (a, l)) : Plain P w0 lim0 O G toks outer heap w (do pure (.value (← Instr.buildSlice t len (parts.map fun (i, x) => (i, e x))))) a := by
  have hform : ∃ rows, a = .v (.sl rows) := by
    simp only [plain] at h
    split at h <;> (try (simp at h; done))
    split at h <;> (try (simp at h; done))
    split at h <;> (try (simp at h; done))
    obtain ⟨rows', hf, he⟩ := Option.map_eq_some_iff.1 h
    simp only [Prod.mk.injEq] at he
    exact ⟨rows', he.1.symm⟩
  obtain ⟨rows, rfl⟩ := hform
  obtain ⟨X, elem, n, hr, hf⟩ := sem_buildSlice hi hx h
  obtain ⟨i1, k1⟩ := hi.alloc (.cells X elem) X.size
  exact ⟨_, _, _, hr, .v (hf.rep hi), i1, k1⟩

end
end Go.Ab
