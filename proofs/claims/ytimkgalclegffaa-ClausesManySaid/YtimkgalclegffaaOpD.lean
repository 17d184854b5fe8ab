/-
The plain operations that build structs, arrays and new slices.
-/
import Derived.Test.YtimkgalclegffaaOpC
namespace Go.Ab
open Go

section
variable {P : Program} {w0 : World} {lim0 : Nat → Nat} {O : Nat → Prop} {G : Gh} {toks : List (Option Nat)} {outer heap : List (List AV)} {w : World}

/-- Cells that read as a list. -/
def Reps (lim : Nat → Nat) (w : World) (X : Array Value) (ps : List PV) : Prop := X.size = ps.length ∧ ∀ (i : Nat) v p, X[i]? = some v → ps[i]? = some p → PRep lim w v p

theorem pvOf_rep {v : Value} {p : PV} (h : pvOf v = some p) (lim : Nat → Nat) (w : World) : PRep lim w v p := by
  unfold pvOf at h
  split at h <;> simp at h <;> subst h
  · exact .bool _
  · exact .int _ _
  · exact .str _
  · exact .cplx _ _ _
  · exact .nil

theorem pvsOf_rep : ∀ (vs : List Value) (ps : List PV), pvsOf vs = some ps → ∀ (lim : Nat → Nat) (w : World), Reps lim w vs.toArray ps
  | [], ps, h, lim, w => by simp [pvsOf] at h; subst h; exact ⟨rfl, by simp⟩
  | v :: vs, ps, h, lim, w => by
    unfold pvsOf at h
    split at h <;> (try (simp at h; done))
    rename_i p ps' h1 h2
    simp at h
    subst h
    obtain ⟨e1, e2⟩ := pvsOf_rep vs ps' h2 lim w
    refine ⟨by simpa using e1, fun i u q hu hq => ?_⟩
    cases i with
    | zero => simp at hu hq; subst hu; subst hq; exact pvOf_rep h1 lim w
    | succ i => simp at hu hq; exact e2 i u q (by simpa using hu) hq

theorem constOf_agg {v : Value} {ps : List PV} (h : constOf v = .agg ps) : ∃ cs, v = .agg cs ∧ ∀ lim w, Reps lim w cs ps := by
  unfold constOf at h
  split at h
  · rename_i cs
    split at h <;> (try (simp at h; done))
    rename_i ps' hp
    simp at h
    subst h
    exact ⟨cs, rfl, fun lim w => by have := pvsOf_rep _ _ hp lim w; simpa using this⟩
  · split at h <;> simp at h

/-- The zero value of a type, by its cells. -/
theorem zero_rep {t : TypeId} {z : AV} (h : zeroT P t = some z) : ∃ v, (∀ w, (zeroValue t).run P w = .ok v w) ∧ z = constOf v := by
  unfold zeroT at h
  obtain ⟨v, hv, rfl⟩ := Option.map_eq_some_iff.1 h
  obtain ⟨i, hi, hz⟩ := Option.bind_eq_some_iff.1 hv
  exact ⟨v, fun w => by simp [zeroValue, typeInfo, hi, hz], rfl⟩

theorem ARep.bits {v : Value} {a : AV} {r : List PV} (h : ARep G toks w v a) (hb : a.bits = some r) : Reps G.lim w v.cells r := by
  cases h with
  | agg hs h => simp [AV.bits] at hb; subst hb; exact ⟨hs, h⟩
  | v h =>
    simp [AV.bits, AV.pv] at hb; subst hb
    rw [h.cells]
    refine ⟨rfl, fun i u q hu hq => ?_⟩
    cases i with
    | zero => simp at hu hq; subst hu; subst hq; exact h
    | succ i => simp at hq
  | own ht hle h hr =>
    simp [AV.bits, AV.pv] at hb; subst hb
    rw [h.cells]
    refine ⟨rfl, fun i u q hu hq => ?_⟩
    cases i with
    | zero => simp at hu hq; subst hu; subst hq; exact h
    | succ i => simp at hq
  | vac ht h hr =>
    simp [AV.bits, AV.pv] at hb; subst hb
    rw [h.cells]
    refine ⟨rfl, fun i u q hu hq => ?_⟩
    cases i with
    | zero => simp at hu hq; subst hu; subst hq; exact h
    | succ i => simp at hq
  | _ => simp [AV.bits, AV.pv] at hb

theorem ARep.row {v : Value} {a : AV} {r : List PV} (h : ARep G toks w v a) (hb : a.row = some r) : Reps G.lim w v.cells r := by
  cases h with
  | agg hs h =>
    simp [AV.row] at hb; subst hb
    refine ⟨by simpa [Value.cells] using hs, fun i u q hu hq => ?_⟩
    rw [List.getElem?_map] at hq
    obtain ⟨q', hq', rfl⟩ := Option.map_eq_some_iff.1 hq
    exact (h i u q' hu hq').norm
  | v h =>
    simp [AV.row, AV.pv] at hb; subst hb
    rw [h.cells]
    refine ⟨rfl, fun i u q hu hq => ?_⟩
    cases i with
    | zero => simp at hu hq; subst hu; subst hq; exact h.norm
    | succ i => simp at hq
  | own ht hle h hr =>
    simp [AV.row, AV.pv] at hb; subst hb
    rw [h.cells]
    refine ⟨rfl, fun i u q hu hq => ?_⟩
    cases i with
    | zero => simp at hu hq; subst hu; subst hq; exact h
    | succ i => simp at hq
  | vac ht h hr =>
    simp [AV.row, AV.pv] at hb; subst hb
    rw [h.cells]
    refine ⟨rfl, fun i u q hu hq => ?_⟩
    cases i with
    | zero => simp at hu hq; subst hu; subst hq; exact h
    | succ i => simp at hq
  | _ => simp [AV.row, AV.pv] at hb

theorem get_putAt {α : Type} : ∀ (xs : List α) (l : List α) (off k : Nat), off + xs.length ≤ l.length → (putAt l off xs)[k]? = if off ≤ k ∧ k < off + xs.length then xs[k - off]? else l[k]?
  | [], l, off, k, h => by rw [if_neg (by simp only [List.length_nil]; omega)]; rfl
  | x :: xs, l, off, k, h => by
    simp only [List.length_cons] at h
    rw [putAt, get_putAt xs (l.set off x) (off + 1) k (by simp; omega)]
    by_cases h1 : off + 1 ≤ k ∧ k < off + 1 + xs.length
    · rw [if_pos h1, if_pos ⟨by omega, by simp only [List.length_cons]; omega⟩]
      have : k - off = (k - (off + 1)) + 1 := by omega
      rw [this, List.getElem?_cons_succ]
    · rw [if_neg h1]
      by_cases h2 : k = off
      · subst h2
        rw [if_pos ⟨Nat.le_refl _, by simp only [List.length_cons]; omega⟩, List.getElem?_set_self (by omega), Nat.sub_self, List.getElem?_cons_zero]
      · rw [if_neg (by simp only [List.length_cons]; omega), List.getElem?_set_ne (by omega)]

theorem length_putAt {α : Type} : ∀ (xs : List α) (l : List α) (off : Nat), (putAt l off xs).length = l.length
  | [], l, off => rfl
  | x :: xs, l, off => by rw [putAt, length_putAt xs]; simp

theorem foldl_set (X : Array Value) (off : Nat) : ∀ (l : List Value) (i : Nat), ((l.zipIdx i).foldl (fun cs (c, j) => cs.setIfInBounds (off + j) c) X).size = X.size ∧
    ∀ k, ((l.zipIdx i).foldl (fun cs (c, j) => cs.setIfInBounds (off + j) c) X)[k]? = if off + i ≤ k ∧ k < off + i + l.length ∧ k < X.size then l[k - (off + i)]? else X[k]? := by
  intro l
  induction l generalizing X with
  | nil => intro i; refine ⟨rfl, fun k => ?_⟩; rw [if_neg (by simp; omega)]; rfl
  | cons x l ih =>
    intro i
    simp only [List.zipIdx_cons, List.foldl_cons]
    obtain ⟨h1, h2⟩ := ih (X.setIfInBounds (off + i) x) (i + 1)
    refine ⟨by rw [h1]; simp, fun k => ?_⟩
    rw [h2]
    simp only [Array.size_setIfInBounds, List.length_cons]
    by_cases hk : off + (i + 1) ≤ k ∧ k < off + (i + 1) + l.length ∧ k < X.size
    · rw [if_pos hk, if_pos ⟨by omega, by omega, hk.2.2⟩]
      have : k - (off + i) = (k - (off + (i + 1))) + 1 := by omega
      rw [this, List.getElem?_cons_succ]
    · rw [if_neg hk, Array.getElem?_setIfInBounds]
      by_cases he : off + i = k
      · subst he
        by_cases hlt : off + i < X.size
        · rw [if_pos rfl, if_pos hlt, if_pos ⟨by omega, by omega, hlt⟩]; simp
        · rw [if_pos rfl, if_neg hlt, if_neg (by omega)]
          exact (Array.getElem?_eq_none (by omega)).symm
      · rw [if_neg he, if_neg (by omega)]

theorem Reps.put {lim : Nat → Nat} {X C : Array Value} {ps r : List PV} {off : Nat} (h : Reps lim w X ps) (hc : Reps lim w C r) (hfit : off + r.length ≤ ps.length) :
    Reps lim w (C.zipIdx.foldl (fun cs (c, j) => cs.setIfInBounds (off + j) c) X) (putAt ps off r) := by
  obtain ⟨h1, h2⟩ := h
  obtain ⟨c1, c2⟩ := hc
  have e : C.zipIdx.foldl (fun cs (c, j) => cs.setIfInBounds (off + j) c) X = (C.toList.zipIdx 0).foldl (fun cs (c, j) => cs.setIfInBounds (off + j) c) X := by
    rw [← Array.foldl_toList]; simp
  rw [e]
  obtain ⟨f1, f2⟩ := foldl_set X off C.toList 0
  refine ⟨by rw [f1, length_putAt, h1], fun i v p hv hp => ?_⟩
  rw [f2] at hv
  rw [get_putAt r ps off i hfit] at hp
  simp only [Nat.add_zero, Array.length_toList] at hv
  by_cases hh : off ≤ i ∧ i < off + r.length
  · rw [if_pos hh] at hp
    rw [if_pos ⟨hh.1, by omega, by omega⟩] at hv
    exact c2 _ _ _ (by simpa using hv) hp
  · rw [if_neg hh] at hp
    rw [if_neg (by omega)] at hv
    exact h2 _ _ _ hv hp

theorem fill_rep {place : Nat → Option (Nat × Nat)} {e : Operand → Value} {ρ : Operand → AV} : ∀ (ps : List (Nat × Operand)) (X : Array Value) (cs cs' : List PV),
    fillCells place ρ ps cs = some cs' → Reps G.lim w X cs → (∀ p ∈ ps, ARep G toks w (e p.2) (ρ p.2)) → ∃ X', Instr.fill place X (ps.map fun p => (p.1, e p.2)) = some X' ∧ Reps G.lim w X' cs'
  | [], X, cs, cs', h, hX, _ => by simp [fillCells] at h; subst h; exact ⟨X, rfl, hX⟩
  | (i, x) :: ps, X, cs, cs', h, hX, he => by
    unfold fillCells at h
    split at h <;> (try (simp at h; done))
    rename_i off size r hpl hb
    split at h <;> (try (simp at h; done))
    rename_i hcond
    simp at hcond
    obtain ⟨hr, hfit⟩ := hcond
    have hc := (he (i, x) (by simp)).bits hb
    have hp := hX.put (off := off) hc (by omega)
    obtain ⟨X', h1, h2⟩ := fill_rep ps _ _ cs' h hp (fun p hp => he p (List.mem_cons_of_mem _ hp))
    refine ⟨X', ?_, h2⟩
    have hs : (e x).cells.size = size := by rw [hc.1, hr]
    have hle : ¬ (off + (e x).cells.size > X.size) := by rw [hs, hX.1]; omega
    simp only [List.map_cons, Instr.fill, hpl, hs, ne_eq, not_true_eq_false, decide_false, Bool.false_or, decide_eq_true_eq]
    rw [hs] at hle
    rw [if_neg hle]
    exact h1

theorem run_mapM_places {fields : Array Field} (h : fields.toList.all (fun f : Field => (sizeT P f.type).isSome) = true) (w : World) :
    ∃ places : Array (Nat × Nat), (fields.mapM fun f : Field => (do pure (f.offset, ← sizeOf f.type) : Sem (Nat × Nat))).run P w = .ok places w ∧
      ∀ i : Nat, places[i]? = (match fields[i]? with | some f => (sizeT P f.type).map fun n => (f.offset, n) | none => none) := by
  have key : ∀ (l : List Field), l.all (fun f => (sizeT P f.type).isSome) = true → ∃ ps : List (Nat × Nat), (l.mapM fun f : Field => (do pure (f.offset, ← sizeOf f.type) : Sem (Nat × Nat))).run P w = .ok ps w ∧
      ∀ i : Nat, ps[i]? = (match l[i]? with | some f => (sizeT P f.type).map fun n => (f.offset, n) | none => none) := by
    intro l
    induction l with
    | nil => intro _; exact ⟨[], by simp, by simp⟩
    | cons f l ih =>
      intro hl
      simp only [List.all_cons, Bool.and_eq_true] at hl
      obtain ⟨ps, h1, h2⟩ := ih hl.2
      obtain ⟨n, hn⟩ := Option.isSome_iff_exists.1 hl.1
      refine ⟨(f.offset, n) :: ps, by simp only [List.mapM_cons, Sem.run_bind, run_sizeOf' hn, Result.andThen_ok, Sem.run_pure, h1], fun i => ?_⟩
      cases i with
      | zero => simp [hn]
      | succ i => simpa using h2 i
  obtain ⟨ps, h1, h2⟩ := key fields.toList h
  refine ⟨ps.toArray, ?_, fun i => by simpa using h2 i⟩
  rw [Array.mapM_eq_mapM_toList, Sem.run_map, h1]
  rfl

theorem sem_build {e : Operand → Value} {ρ : Operand → AV} {t : Nat} {parts : Array (Nat × Operand)} {a : AV} {l : List Prop} (hi : Inv w0 lim0 O G toks outer heap w) (hx : ∀ p ∈ parts.toList, ARep G toks w (e p.2) (ρ p.2)) {k : Kd}
    (h : plain P (.build t parts) k ρ = some (a, l)) : Plain P w0 lim0 O G toks outer heap w (do pure (.value (← Instr.build t (parts.map fun (i, x) => (i, e x))))) a := by
  simp only [plain] at h
  split at h <;> (try (simp at h; done))
  rename_i z pl hz hpl
  obtain ⟨cs', hc, he⟩ := Option.map_eq_some_iff.1 h
  simp only [Prod.mk.injEq] at he
  obtain ⟨rfl, rfl⟩ := he
  obtain ⟨zv, hzr, hze⟩ := zero_rep hz
  obtain ⟨Z, rfl, hZ⟩ := constOf_agg hze.symm
  obtain ⟨X', hf, hX'⟩ := fill_rep (e := e) parts.toList Z z cs' hc (hZ _ _) hx
  have hpm : (parts.map fun (i, x) => (i, e x)).toList = parts.toList.map fun p => (p.1, e p.2) := by simp
  unfold placesOf at hpl
  split at hpl
  · rename_i fields hu
    split at hpl <;> (try (simp at hpl; done))
    rename_i hall
    simp only [Option.some.injEq] at hpl
    subst hpl
    obtain ⟨places, hm, hp⟩ := run_mapM_places hall w
    have hpl' : (fun i : Nat => places[i]?) = (fun i : Nat => match fields[i]? with | some f => (sizeT P f.type).map fun n => (f.offset, n) | none => none) := funext hp
    have hf' : Instr.fill (fun i : Nat => places[i]?) Z (parts.toList.map fun p => (p.1, e p.2)) = some X' := by rw [hpl']; exact hf
    refine .pure hi (run_pair (v := .agg X') _ ?_) (.agg hX'.1 hX'.2)
    simp only [Instr.build, Sem.run_bind, hzr, Result.andThen_ok, run_underlying hu, hm, hpm, Value.cells, hf']
    rfl
  · rename_i n elem hu
    obtain ⟨m, hs, rfl⟩ := Option.map_eq_some_iff.1 hpl
    refine .pure hi (run_pair (v := .agg X') _ ?_) (.agg hX'.1 hX'.2)
    simp only [Instr.build, Sem.run_bind, hzr, Result.andThen_ok, run_underlying hu, run_sizeOf' hs, hpm, Value.cells, hf]
    rfl
  · simp at hpl

end
end Go.Ab
