/-
The plain operations that make values: numbers out of numbers, texts out of bytes, structs, slices' parts, new slices.
-/
import Derived.Test.YtimkgalclegffaaOpB
import Derived.Laws.Rows
namespace Go.Ab
open Go

section
variable {P : Program} {w0 : World} {lim0 : Nat → Nat} {O : Nat → Prop} {G : Gh} {toks : List (Option Nat)} {outer heap : List (List AV)} {w : World}

theorem sem_unOp {e : Operand → Value} {ρ : Operand → AV} {op : UnOp} {t : Nat} {x : Operand} {a : AV} {l : List Prop} (hi : Inv w0 lim0 O G toks outer heap w) (hx : ARep G toks w (e x) (ρ x)) {k : Kd}
    (h : plain P (.unOp op t x) k ρ = some (a, l)) : Plain P w0 lim0 O G toks outer heap w (do pure (.value (← Op.unary op (e x)))) a := by
  simp only [plain] at h
  generalize ρ x = A at hx h
  generalize e x = V at hx ⊢
  split at h <;> (try (simp at h; done))
  · have e1 := hx.bool_of
    subst e1
    simp only [Option.some.injEq, Prod.mk.injEq] at h
    obtain ⟨rfl, rfl⟩ := h
    exact .pure hi (run_pair _ (by simp [Op.unary])) (.mkBool _)
  · have e1 := hx.int_of
    subst e1
    simp only [Option.some.injEq, Prod.mk.injEq] at h
    obtain ⟨rfl, rfl⟩ := h
    exact .pure hi (run_pair _ (by simp [Op.unary, Op.intArith])) (.mkInt _ _)
  · have e1 := hx.int_of
    subst e1
    obtain ⟨m, hm, he⟩ := Option.map_eq_some_iff.1 h
    simp only [Prod.mk.injEq] at he
    obtain ⟨rfl, rfl⟩ := he
    exact .pure hi (run_pair _ (by simp only [Op.unary]; exact run_bitsI hm w)) (.mkInt _ _)

theorem bytesOf_ns : ∀ (rows : List (List PV)) (l : List UInt8), bytesOf rows = some l → ∃ ns : List Int, rows = ns.map (fun n => [PV.int .u8 n]) ∧ l = ns.map fun n => UInt8.ofNat n.toNat
  | [], l, h => by simp [bytesOf] at h; subst h; exact ⟨[], rfl, rfl⟩
  | r :: rs, l, h => by
    unfold bytesOf at h
    split at h
    · simp at *
    · rename_i n rs' heq
      obtain ⟨rfl, rfl⟩ := List.cons.inj heq
      obtain ⟨m, hm, he⟩ := Option.map_eq_some_iff.1 h
      obtain ⟨ns, rfl, rfl⟩ := bytesOf_ns rs m hm
      exact ⟨n :: ns, rfl, he.symm⟩
    · simp at h

theorem foldl_push (ns : List Int) : ∀ (s : ByteArray), ns.foldl (fun r n => r.push (UInt8.ofNat n.toNat)) s = ⟨s.data ++ (ns.map fun n => UInt8.ofNat n.toNat).toArray⟩ := by
  induction ns with
  | nil => intro s; simp
  | cons n ns ih =>
    intro s
    simp only [List.foldl_cons, ih, List.map_cons]
    congr 1
    simp [ByteArray.push]

theorem run_bytes {V : Value} {rows : List (List PV)} {l : List UInt8} (hP : PRep G.lim w V (.sl rows)) (hl : bytesOf rows = some l) :
    (Conv.bytesToString V).run P w = .ok (.string ⟨l.toArray⟩) w := by
  obtain ⟨ns, rfl, rfl⟩ := bytesOf_ns rows l hl
  generalize hR : ns.map (fun n => [PV.int .u8 n]) = R at hP
  cases hP with
  | nil0 =>
    have : ns = [] := by cases ns <;> simp_all
    subst this
    simp [Conv.bytesToString]
    rfl
  | sl0 a =>
    have : ns = [] := by cases ns <;> simp_all
    subst this
    have hld := run_loadCells (P := P) w a 0 (fun _ => .int .u8 0) (fun j hj => by omega)
    rw [run_bytesToString w _ _ _ [] hld]
    rfl
  | sl b off len cap esz rows u hlen hc hr hcell hp =>
    subst hR
    have hlen' : len = ns.length := by rw [← hlen]; simp
    subst hlen'
    have hu : ∀ i, i < ns.length → w.cell? ⟨b, off + i, none⟩ = some (.int .u8 (ns.getD i 0)) := by
      intro i hi
      have hq : at2 (ns.map (fun n => [PV.int .u8 n])) i 0 = some (.int .u8 (ns.getD i 0)) := by simp [at2, hi]
      have he : esz = 1 := by rw [← hr [PV.int .u8 (ns.getD i 0)] (List.mem_map.2 ⟨_, by simp [hi], rfl⟩)]; rfl
      subst he
      obtain ⟨hcl, _⟩ := hcell i 0 _ hq
      have hpp := hp i 0 _ hq
      cases hpu : u i 0 with
      | int k m =>
        rw [hpu] at hpp hcl
        cases hpp
        simpa using hcl
      | _ => rw [hpu] at hpp; cases hpp
    have hld := run_loadCells (P := P) w ⟨b, off, none⟩ ns.length (fun i => .int .u8 (ns.getD i 0)) (fun j hj => by rw [add_off]; exact hu j hj)
    have hns : (List.range ns.length).map (fun i => Value.int .u8 (ns.getD i 0)) = ns.map (Value.int .u8) := by
      apply List.ext_getElem?
      intro i
      by_cases hi : i < ns.length
      · simp [hi]
      · simp [hi, List.getElem?_eq_none (Nat.le_of_not_lt hi)]
    rw [hns] at hld
    rw [run_bytesToString w _ _ _ ns hld, foldl_push]
    congr 2
    simp

theorem sem_convert {e : Operand → Value} {ρ : Operand → AV} {s d : Nat} {x : Operand} {a : AV} {l : List Prop} (hi : Inv w0 lim0 O G toks outer heap w) (hx : ARep G toks w (e x) (ρ x)) {k : Kd}
    (h : plain P (.convert s d x) k ρ = some (a, l)) (ho : ∀ q ∈ l, q) : Plain P w0 lim0 O G toks outer heap w (do pure (.value (← convert s d (e x)))) a := by
  simp only [plain] at h
  generalize ρ x = A at hx h
  generalize e x = V at hx ⊢
  split at h <;> (try (simp at h; done))
  · rename_i hs hd
    have e1 := hx.int_of
    subst e1
    simp only [Option.some.injEq, Prod.mk.injEq] at h
    obtain ⟨rfl, rfl⟩ := h
    exact .pure hi (run_pair _ (by simp [convert, run_underlying hs, run_underlying hd, Conv.intToInt])) (.mkInt _ _)
  · rename_i hs hd
    split at h <;> (try (simp at h; done))
    rename_i rows he hrows
    have h' : ∃ l', bytesOf rows = some l' ∧ a = .v (.str ⟨l'.toArray⟩) := by
      split at h
      · simp only [Option.some.injEq, Prod.mk.injEq] at h
        obtain ⟨rfl, rfl⟩ := h
        exact ⟨_, ho _ (List.mem_singleton.2 rfl), rfl⟩
      · obtain ⟨l', hl, he'⟩ := Option.map_eq_some_iff.1 h
        simp only [Prod.mk.injEq] at he'
        obtain ⟨rfl, rfl⟩ := he'
        exact ⟨l', hl, rfl⟩
    obtain ⟨l', hl, rfl⟩ := h'
    have hV := hx.rows hrows
    refine .pure hi (run_pair _ ?_) (.v (.str _))
    have hb := run_bytes (P := P) hV hl
    cases hV with
    | nil0 => rw [run_convert_bytes_string w s d _ none 0 0 hs he hd]; exact hb
    | sl0 a => rw [run_convert_bytes_string w s d _ _ 0 0 hs he hd]; exact hb
    | sl b off len cap esz rows u hlen hc hr hcell hp => rw [run_convert_bytes_string w s d _ _ len cap hs he hd]; exact hb

/-! ### parts of slices -/

theorem sem_slice {e : Operand → Value} {ρ : Operand → AV} {t : Nat} {x : Operand} {lo hh mx : Option Operand} {a : AV} {l : List Prop} (hi : Inv w0 lim0 O G toks outer heap w) (hx : ARep G toks w (e x) (ρ x))
    (hlo : ∀ y ∈ lo, ARep G toks w (e y) (ρ y)) (hhi : ∀ y ∈ hh, ARep G toks w (e y) (ρ y)) {k : Kd}
    (h : plain P (.slice t x lo hh mx) k ρ = some (a, l)) (ho : ∀ q ∈ l, q) : Plain P w0 lim0 O G toks outer heap w (do pure (.value (← Instr.sliceAt t (e x) (lo.map e) (hh.map e) (mx.map e)))) a := by
  simp only [plain] at h
  split at h <;> (try (simp at h; done))
  rename_i e' hu
  split at h <;> (try (simp at h; done))
  rename_i rows n hrows hs
  split at h <;> (try (simp at h; done))
  rename_i lv hv hbl hbh
  obtain ⟨rfl, h0, h1, h2, h3⟩ := under_some h ho
  have hV := hx.rows hrows
  generalize e x = V at hV ⊢
  -- the bounds
  have bnd : ∀ (o : Option Operand) (d : Nat) (v : Int), (∀ y ∈ o, ARep G toks w (e y) (ρ y)) → plain.bound (o.map ρ) d = some v → (o = none ∧ v = d) ∨ ∃ k, o.map e = some (.int k v) := by
    intro o d v ho hb
    cases o with
    | none => simp [plain.bound] at hb; exact .inl ⟨rfl, hb.symm⟩
    | some y =>
      right
      simp only [Option.map_some, plain.bound] at hb
      split at hb
      · simp at *
      · rename_i kk i heq
        simp only [Option.some.injEq] at hb heq
        subst hb
        have := ho y rfl
        rw [heq] at this
        exact ⟨kk, by simp [this.int_of]⟩
      · simp at hb
  have hlow := bnd lo 0 lv hlo hbl
  have hhigh := bnd hh rows.length hv hhi hbh
  obtain ⟨ln, rfl⟩ := Int.eq_ofNat_of_zero_le h0
  obtain ⟨hn, rfl⟩ := Int.eq_ofNat_of_zero_le (Int.le_trans h0 h1)
  have hlh : ln ≤ hn := by omega
  have hhl : hn ≤ rows.length := by omega
  have run : ∀ (A : Option Addr) (cap : Nat), rows.length ≤ cap → (Instr.sliceAt t (.slice A rows.length cap) (lo.map e) (hh.map e) none).run P w = .ok (.slice (if cap = ln then A else A.map (·.add (ln * n))) (hn - ln) (cap - ln)) w := by
    intro A cap hcap
    have b1 : ∀ (y : Nat) (k : IntKind) (v : Nat) (c : BoundsCode), v ≤ y → (Instr.sliceBound (.int k (v : Int)) y c).run P w = .ok v w := by
      intro y k v c hvy
      have : (v : Int) ≤ (y : Int) := by omega
      simp [Instr.sliceBound, asIntOf, this]
    have hb : (Instr.sliceBounds true rows.length cap (lo.map e) (hh.map e) none).run P w = .ok (ln, hn, cap) w := by
      rcases hlow with ⟨rfl, hl0⟩ | ⟨kl, hl⟩ <;> rcases hhigh with ⟨rfl, hh0⟩ | ⟨kh, hh'⟩
      · have e1 : ln = 0 := by omega
        have e2 : hn = rows.length := by omega
        subst e1; subst e2
        simp [Instr.sliceBounds]
      · have e1 : ln = 0 := by omega
        subst e1
        rw [hh']
        simp [Instr.sliceBounds, b1 cap kh hn _ (by omega)]
      · have e2 : hn = rows.length := by omega
        subst e2
        rw [hl]
        simp [Instr.sliceBounds, b1 rows.length kl ln _ (by omega)]
      · rw [hl, hh']
        simp [Instr.sliceBounds, b1 cap kh hn _ (by omega), b1 hn kl ln _ hlh]
    simp [Instr.sliceAt, Instr.slice, run_underlying hu, hb, run_sizeOf' hs]
  simp only [Int.toNat_natCast, Option.map_none]
  cases hV with
  | nil0 =>
    have r0 := run none 0 (by simp)
    refine .pure hi (run_pair _ r0) (.v ?_)
    have : hn = 0 := by simpa using hhl
    subst this
    have : ln = 0 := by omega
    subst this
    exact .nil0
  | sl0 A =>
    have r0 := run (some A) 0 (by simp)
    refine .pure hi (run_pair _ r0) (.v ?_)
    have : hn = 0 := by simpa using hhl
    subst this
    have : ln = 0 := by omega
    subst this
    exact .sl0 _
  | sl b off len cap esz rows u hlen hc hr hcell hp =>
    subst hlen
    have r0 := run (some ⟨b, off, none⟩) cap hc
    refine .pure hi (run_pair _ r0) (.v ?_)
    have hl : ((rows.take hn).drop ln).length = hn - ln := by simp; omega
    have get : ∀ i, ((rows.take hn).drop ln)[i]? = if i < hn - ln then rows[ln + i]? else none := by
      intro i
      rw [List.getElem?_drop, List.getElem?_take]
      by_cases hh : i < hn - ln
      · rw [if_pos hh, if_pos (by omega)]
      · rw [if_neg hh, if_neg (by omega)]
    have at2' : ∀ i j p, at2 ((rows.take hn).drop ln) i j = some p → i < hn - ln ∧ at2 rows (ln + i) j = some p := by
      intro i j p hq
      unfold at2 at hq
      rw [get] at hq
      split at hq
      · rename_i hh; exact ⟨hh, hq⟩
      · simp at hq
    have sz : ln ≠ 0 → rows ≠ [] → esz = n := by
      intro hl0 hne
      rcases h3 with h3 | h3
      · omega
      · obtain ⟨r, hr'⟩ := List.exists_mem_of_ne_nil _ hne
        rw [← hr r hr', h3 r hr']
    by_cases hcl : cap = ln
    · rw [if_pos hcl]
      refine .sl b off _ _ esz _ (fun _ _ => undef) hl (by omega) (fun r hr' => hr r ?_) (fun i j p hq => ?_) fun i j p hq => ?_
      · exact List.mem_of_mem_take (List.mem_of_mem_drop hr')
      · have := (at2' i j p hq).1; omega
      · have := (at2' i j p hq).1; omega
    · rw [if_neg hcl]
      simp only [Option.map_some, add_off]
      refine .sl b (off + ln * n) _ _ esz _ (fun i j => u (ln + i) j) hl (by omega) (fun r hr' => hr r ?_) (fun i j p hq => ?_) fun i j p hq => hp _ _ _ (at2' i j p hq).2
      · exact List.mem_of_mem_take (List.mem_of_mem_drop hr')
      · obtain ⟨hil, hq'⟩ := at2' i j p hq
        have := hcell _ _ _ hq'
        have hne : rows ≠ [] := by intro h0; subst h0; simp at hhl; omega
        have he : off + ln * n + i * esz + j = off + (ln + i) * esz + j := by
          by_cases hl0 : ln = 0
          · subst hl0; simp
          · rw [sz hl0 hne, Nat.add_mul]; omega
        rw [he]
        exact this

theorem sem_len {e : Operand → Value} {ρ : Operand → AV} {o : Oper} {args : Array Operand} {ats : Array TypeId} {a : AV} {l : List Prop} (hi : Inv w0 lim0 O G toks outer heap w) (hx : ∀ x ∈ args.toList, ARep G toks w (e x) (ρ x))
    (hop : o.op = .call { callee := .builtin .len, args := args, argTypes := ats }) {k : Kd}
    (h : plain P (.call { callee := .builtin .len, args := args, argTypes := ats }) k ρ = some (a, l)) : Plain P w0 lim0 O G toks outer heap w (execOp e o) a := by
  simp only [plain] at h
  split at h <;> (try (simp at h; done))
  rename_i x t ha ht
  have hx' := hx x (by rw [ha]; simp)
  have e1 : args = #[x] := by rw [← Array.toList_inj, ha]
  have e2 : ats = #[t] := by rw [← Array.toList_inj, ht]
  subst e1
  subst e2
  have run : ∀ v, (Builtin.len_ #[t] o.type #[e x]).run P w = .ok v w → (execOp e o).run P w = .ok (.value v) w := by
    intro v hv
    simp [execOp, hop, resolve, invoke, builtin, hv]
  split at h
  · rename_i b n len hu hρ
    simp only [Option.some.injEq, Prod.mk.injEq] at h
    obtain ⟨rfl, rfl⟩ := h
    rw [hρ] at hx'
    refine .pure hi (run _ ?_) (.mkInt .i64 len)
    generalize e x = V at hx'
    cases hx' with
    | bsl hb hc => simp [Builtin.len_, run_underlying hu, goInt]
  · rename_i hu _
    obtain ⟨rows, hr, he⟩ := Option.map_eq_some_iff.1 h
    simp only [Prod.mk.injEq] at he
    obtain ⟨rfl, rfl⟩ := he
    have hV := hx'.rows hr
    refine .pure hi (run _ ?_) (.mkInt .i64 rows.length)
    generalize e x = V at hV
    cases hV with
    | nil0 => simp [Builtin.len_, run_underlying hu, goInt]
    | sl0 a => simp [Builtin.len_, run_underlying hu, goInt]
    | sl b off len cap esz rows u hlen hc hr hcell hp => simp [Builtin.len_, run_underlying hu, goInt, hlen]
  · rename_i n e' hu
    simp only [Option.some.injEq, Prod.mk.injEq] at h
    obtain ⟨rfl, rfl⟩ := h
    exact .pure hi (run _ (by simp [Builtin.len_, run_underlying hu, goInt])) (.mkInt .i64 n)
  · rename_i s hu hs
    simp only [Option.some.injEq, Prod.mk.injEq] at h
    obtain ⟨rfl, rfl⟩ := h
    rw [hs] at hx'
    have := hx'.str_of
    exact .pure hi (run _ (by simp [Builtin.len_, run_underlying hu, goInt, this])) (.mkInt .i64 s.size)
  · simp at h

end
end Go.Ab
