/-
Boxes: made, read, written; appending.
-/
import Derived.Test.YtimkgalclegffaaOpE
import Derived.Laws.MakeOwn
import Derived.Laws.CopyRow
namespace Go.Ab
open Go

section
variable {P : Program} {w0 : World} {lim0 : Nat → Nat} {O : Nat → Prop} {G : Gh} {toks : List (Option Nat)} {outer heap : List (List AV)} {w : World}

/-- The cells of a value, one by one. -/
theorem ARep.cellsAt {v : Value} {a : AV} (h : ARep G toks w v a) (hn : a ≠ .none) (ht : ∀ l, a ≠ .tup l) (ho : ∀ c b, a ≠ .opt c b) :
    v.cells.size = a.cells.length ∧ ∀ (j : Nat) u b, v.cells[j]? = some u → a.cells[j]? = some b → u.oneCell' = true ∧ ARep G toks w u b := by
  by_cases hag : ∃ ps, a = .agg ps
  · obtain ⟨ps, rfl⟩ := hag
    cases h with
    | agg hs h =>
      refine ⟨by simp [Value.cells, AV.cells, hs], fun j u b hu hb => ?_⟩
      simp only [AV.cells, List.getElem?_map] at hb
      obtain ⟨p, hp, rfl⟩ := Option.map_eq_some_iff.1 hb
      have := h j u p (by simpa [Value.cells] using hu) hp
      exact ⟨this.oneCell, .v this⟩
  · have hone : a.one = true := by
      cases a <;> first | rfl | (exact absurd rfl hn) | (exact absurd rfl (ht _)) | (exact absurd rfl (ho _ _)) | (exact absurd ⟨_, rfl⟩ hag)
    have hc : a.cells = [a] := by
      cases a <;> first | rfl | (exact absurd ⟨_, rfl⟩ hag)
    obtain ⟨h1, h2⟩ := h.oneCell hone
    rw [h2, hc]
    refine ⟨rfl, fun j u b hu hb => ?_⟩
    cases j with
    | zero => simp at hu hb; subst hu; subst hb; exact ⟨h1, h⟩
    | succ j => simp at hb

/-- A new box. -/
theorem Inv.newBox (hi : Inv w0 lim0 O G toks outer heap w) {X : Array Value} {cs : List AV} {elem : TypeId} (hs : X.size = cs.length)
    (hc : ∀ (j : Nat) u b, X[j]? = some u → cs[j]? = some b → u.oneCell' = true ∧ ARep G toks w u b) :
    Inv w0 lim0 O { G with bs := G.bs ++ [w.heap.size] } toks outer (heap ++ [cs]) (w.alloc (.cells X elem)) ∧ Keep G toks w { G with bs := G.bs ++ [w.heap.size] } toks (w.alloc (.cells X elem)) := by
  obtain ⟨i1, k1⟩ := hi.alloc (.cells X elem) 0
  have hlim : limAt G.lim w.heap.size 0 = G.lim := by
    funext b
    simp only [limAt]
    split
    · subst_vars; exact (hi.frame.above _ (Nat.le_refl _)).symm
    · rfl
  rw [hlim] at i1 k1
  have k2 : Keep G toks w { G with bs := G.bs ++ [w.heap.size] } toks (w.alloc (.cells X elem)) := by
    refine ⟨k1.grow, k1.obs, fun b blk h => ?_, k1.len, k1.tok⟩
    rw [List.getElem?_append_left (List.getElem?_eq_some_iff.1 h).1]
    exact h
  have k3 : Keep { G with lim := G.lim } toks (w.alloc (.cells X elem)) { G with bs := G.bs ++ [w.heap.size] } toks (w.alloc (.cells X elem)) := by
    refine ⟨Grow.refl _ _, fun b blk h => h, fun b blk h => ?_, Nat.le_refl _, fun t n h _ => ⟨n, h, .inr ⟨rfl, fun b hb => ⟨hb, rfl, rfl⟩⟩⟩⟩
    rw [List.getElem?_append_left (List.getElem?_eq_some_iff.1 h).1]
    exact h
  refine ⟨⟨i1.frame, by simp [hi.hb], i1.ho, fun i blk c h1 h2 => ?_, fun i blk c h1 h2 => ?_, ?_, fun blk hb => ?_, i1.oold, i1.tlen, fun t b n h1 h2 => ?_, i1.tdis⟩, k2⟩
  · rcases Nat.lt_or_ge i G.bs.length with hlt | hge
    · rw [List.getElem?_append_left hlt] at h1
      rw [List.getElem?_append_left (by rw [← hi.hb]; exact hlt)] at h2
      exact (i1.box i blk c h1 h2).keep k3 rfl rfl
    · have hi' : i = G.bs.length := by
        have := (List.getElem?_eq_some_iff.1 h1).1
        simp at this
        omega
      subst hi'
      simp only [List.getElem?_concat_length] at h1
      rw [hi.hb] at h2
      simp only [List.getElem?_concat_length] at h2
      obtain rfl := Option.some.inj h1
      obtain rfl := Option.some.inj h2
      exact ⟨X, elem, heap_alloc_new w _, hs, fun j u b hu hb => ⟨(hc j u b hu hb).1, (hc j u b hu hb).2.keep k2⟩, hi.frame.above _ (Nat.le_refl _)⟩
  · exact (i1.obox i blk c h1 h2).keep k3.low rfl rfl
  · rw [← List.append_assoc]
    refine List.nodup_append.2 ⟨hi.nodup, by simp, fun a ha b hb => ?_⟩
    simp at hb
    have := (hi.blk_lt ha).1
    omega
  · rcases List.mem_append.1 hb with h | h
    · exact hi.bnew _ h
    · simp at h; subst h; exact hi.frame.size
  · obtain ⟨t1, t2, t3⟩ := i1.tok t b n h1 h2
    refine ⟨?_, t2, t3⟩
    rw [← List.append_assoc]
    intro hm
    rcases List.mem_append.1 hm with h | h
    · exact t1 h
    · simp at h
      have := (hi.tok t b n h1 h2).2.1
      omega

theorem sem_alloc {t : Nat} {z : AV} {n : Nat} (hi : Inv w0 lim0 O G toks outer heap w) (hz : zeroT P t = some z) (hzn : z ≠ .none) :
    ∃ v G' w', (do pure (.value (← Instr.alloc t true (.tuple #[]))) : Sem Next).run P w = .ok (.value v) w' ∧ After w0 lim0 O G toks w (.ptr heap.length 0) toks outer (heap ++ [z.cells]) v G' w' := by
  obtain ⟨zv, hzr, rfl⟩ := zero_rep hz
  have hrep : ARep G toks w zv (constOf zv) := by
    cases hc : constOf zv with
    | agg ps =>
      obtain ⟨cs, rfl, hr⟩ := constOf_agg hc
      exact .agg (hr G.lim w).1 (hr G.lim w).2
    | v p =>
      unfold constOf at hc
      split at hc
      · split at hc <;> simp at hc
      · split at hc <;> simp at hc
        subst hc
        exact .v (pvOf_rep (by assumption) _ _)
    | none => exact absurd hc hzn
    | _ => unfold constOf at hc; split at hc <;> split at hc <;> simp at hc
  have hne : (∀ l, constOf zv ≠ .tup l) ∧ ∀ c b, constOf zv ≠ .opt c b := by
    refine ⟨fun l h => ?_, fun c b h => ?_⟩ <;> (unfold constOf at h; split at h <;> split at h <;> simp at h)
  obtain ⟨e1, e2⟩ := hrep.cellsAt hzn hne.1 hne.2
  obtain ⟨i1, k1⟩ := hi.newBox (elem := t) e1 e2
  refine ⟨_, _, _, ?_, .ptr (blk := w.heap.size) ?_, i1, k1⟩
  · apply run_pair
    simp only [Instr.alloc, Sem.run_bind, hzr, Result.andThen_ok, newVar, newRow]
    simp
  · show (G.bs ++ [w.heap.size])[heap.length]? = _
    rw [← hi.hb]
    simp

theorem sem_alloc0 {t : Nat} {zv : Value} (hi : Inv w0 lim0 O G toks outer heap w) (hz : (P.info? t).bind (·.zero) = some zv) (h1 : oneB zv = true) :
    ∃ v G' w', (do pure (.value (← Instr.alloc t true (.tuple #[]))) : Sem Next).run P w = .ok (.value v) w' ∧ After w0 lim0 O G toks w (.ptr heap.length 0) toks outer (heap ++ [[.none]]) v G' w' := by
  have hzr : (zeroValue t).run P w = .ok zv w := by
    obtain ⟨i, hi, hz⟩ := Option.bind_eq_some_iff.1 hz
    simp [zeroValue, typeInfo, hi, hz]
  have hone : zv.oneCell' = true := by cases zv <;> first | rfl | (simp [oneB] at h1)
  have hcells : zv.cells = #[zv] := by cases zv <;> first | rfl | (simp [oneB] at h1)
  obtain ⟨i1, k1⟩ := hi.newBox (elem := t) (X := zv.cells) (cs := [.none]) (by rw [hcells]; rfl) (fun j u b hu hb => by
    rw [hcells] at hu
    cases j with
    | zero => simp at hu hb; subst hu; subst hb; exact ⟨hone, .none _⟩
    | succ j => simp at hb)
  refine ⟨_, _, _, ?_, .ptr (blk := w.heap.size) ?_, i1, k1⟩
  · apply run_pair
    simp only [Instr.alloc, Sem.run_bind, hzr, Result.andThen_ok, newVar, newRow]
    simp
  · show (G.bs ++ [w.heap.size])[heap.length]? = _
    rw [← hi.hb]
    simp

theorem sem_box {v : Value} {a : AV} {t : Nat} (hi : Inv w0 lim0 O G toks outer heap w) (h : ARep G toks w v a) (hn : a ≠ .none) (ht : ∀ l, a ≠ .tup l) (ho : ∀ c b, a ≠ .opt c b) :
    ∃ v' G' w', (do pure (.value (← Instr.box t v)) : Sem Next).run P w = .ok (.value v') w' ∧ After w0 lim0 O G toks w (.ptr heap.length 0) toks outer (heap ++ [a.cells]) v' G' w' := by
  obtain ⟨e1, e2⟩ := h.cellsAt hn ht ho
  obtain ⟨i1, k1⟩ := hi.newBox (elem := t) e1 e2
  refine ⟨_, _, _, ?_, .ptr (blk := w.heap.size) ?_, i1, k1⟩
  · apply run_pair
    simp [Instr.box, newVar, newRow]
  · show (G.bs ++ [w.heap.size])[heap.length]? = _
    rw [← hi.hb]
    simp

/-! ### reading -/

theorem cell_of_box {w : World} {blk j : Nat} {X : Array Value} {elem : TypeId} {fz : Nat × Nat} (h : w.heap[blk]? = some (.cells X elem fz)) : w.cell? ⟨blk, j, none⟩ = X[j]? := by
  simp [World.cell?, h]

theorem pvs_at : ∀ (l : List AV) (ps : List PV), AV.pvs l = some ps → ps.length = l.length ∧ ∀ (j : Nat) p, ps[j]? = some p → ∃ a, l[j]? = some a ∧ a.pv = some p
  | [], ps, h => by simp [AV.pvs] at h; subst h; simp
  | a :: l, ps, h => by
    unfold AV.pvs at h
    split at h <;> (try (simp at h; done))
    rename_i p ps' h1 h2
    simp at h
    subst h
    obtain ⟨e1, e2⟩ := pvs_at l ps' h2
    refine ⟨by simp [e1], fun j q hq => ?_⟩
    cases j with
    | zero => simp at hq; subst hq; exact ⟨a, rfl, h1⟩
    | succ j => simpa using e2 j q (by simpa using hq)

theorem run_varOf {t blk off : Nat} {cs : List AV} {a : AV} {lim : Nat → Nat} (hb : BoxOK G toks w lim blk cs) (h : varOf P t cs off = some a) :
    ∃ v, (loadVar t ⟨blk, off, none⟩).run P w = .ok v w ∧ ARep G toks w v a := by
  obtain ⟨X, elem, h1, h2, h3, _⟩ := hb
  unfold varOf at h
  split at h
  · rename_i n ha hs
    split at h <;> (try (simp at h; done))
    rename_i hn
    obtain ⟨ps, hps, rfl⟩ := Option.map_eq_some_iff.1 h
    obtain ⟨e1, e2⟩ := pvs_at _ _ hps
    have hlen : ps.length = n := by rw [e1]; simp; omega
    refine ⟨_, run_loadVar_agg ha hs (u := fun j => X.getD (off + j) undef) fun j hj => ?_, .mkAgg hlen fun i p hp => ?_⟩
    · rw [cell_of_box h1]
      have : off + j < X.size := by omega
      simp [this]
    · obtain ⟨a, ha', hpv⟩ := e2 i p hp
      rw [List.getElem?_take] at ha'
      split at ha' <;> (try (simp at ha'; done))
      rename_i hin
      rw [List.getElem?_drop] at ha'
      have hlt : off + i < X.size := by omega
      have hx : X[off + i]? = some X[off + i] := Array.getElem?_eq_getElem hlt
      have := (h3 _ _ _ hx ha').2.pv hpv
      simpa [Array.getD_eq_getD_getElem?, hx] using this
  · rename_i ha hs
    have hlt : off < X.size := by have := (List.getElem?_eq_some_iff.1 h).1; omega
    have hx : X[off]? = some X[off] := Array.getElem?_eq_getElem hlt
    exact ⟨_, run_loadVar_one ha (by rw [cell_of_box h1]; exact hx), (h3 _ _ _ hx h).2⟩
  · simp at h

theorem sem_loadH {e : Operand → Value} {t b off : Nat} {x : Operand} {cs : List AV} {a : AV} (hi : Inv w0 lim0 O G toks outer heap w) (hx : ARep G toks w (e x) (.ptr b off)) (hb : heap[b]? = some cs) (h : varOf P t cs off = some a) :
    Plain P w0 lim0 O G toks outer heap w (do pure (.value (← Instr.loadAt t (e x)))) a := by
  generalize e x = V at hx ⊢
  cases hx with
  | ptr hblk =>
    obtain ⟨v, hv, hr⟩ := run_varOf (hi.box b _ cs hblk hb) h
    exact .pure hi (run_pair _ (by simp only [Instr.loadAt, Instr.sureAddr, Sem.run_bind, Sem.run_pure, Result.andThen_ok]; exact hv)) hr

/-- What lies in a caller's box says the same here. -/
theorem ARep.high {v : Value} {a : AV} (h : ARep G.low [] w v a) : ARep G toks w v a := by
  generalize hG : G.low = G' at h
  generalize ht : ([] : List (Option Nat)) = tk at h
  induction h with
  | none v => exact .none v
  | v h => subst hG; exact .v h
  | agg hs h => subst hG; exact .agg hs h
  | own h1 => subst ht; simp at h1
  | vac h1 => subst ht; simp at h1
  | ptr h => subst hG; simp [Gh.low] at h
  | bsl h hc => subst hG; simp [Gh.low] at h
  | optr h => subst hG; exact .optr h
  | eptr u hc hp => subst hG; exact .eptr u hc hp
  | fn h1 h2 h3 h4 ih3 ih4 => exact .fn h1 h2 (fun i v a x y => ih3 i v a x y) (fun i v a x y => ih4 i v a x y)
  | tup h1 h2 ih => exact .tup h1 (fun i v a x y => ih i v a x y)
  | opt h hu ih => exact .opt (fun hc => ih hc) hu

theorem sem_loadO {e : Operand → Value} {t b off : Nat} {x : Operand} {cs : List AV} {a : AV} (hi : Inv w0 lim0 O G toks outer heap w) (hx : ARep G toks w (e x) (.optr b off)) (hb : outer[b]? = some cs) (h : varOf P t cs off = some a) :
    Plain P w0 lim0 O G toks outer heap w (do pure (.value (← Instr.loadAt t (e x)))) a := by
  generalize e x = V at hx ⊢
  cases hx with
  | optr hblk =>
    obtain ⟨v, hv, hr⟩ := run_varOf (hi.obox b _ cs hblk hb) h
    exact .pure hi (run_pair _ (by simp only [Instr.loadAt, Instr.sureAddr, Sem.run_bind, Sem.run_pure, Result.andThen_ok]; exact hv)) hr.high

theorem sem_loadC {e : Operand → Value} {t b off : Nat} {x : Operand} {cs : List AV} {a : AV} (hi : Inv w0 lim0 O G toks outer heap w) (hx : ARep G toks w (e x) (.ptr b off)) (hb : heap[b]? = some cs) (ha : isAggT P t = some false) (h : cs[off]? = some a) :
    Plain P w0 lim0 O G toks outer heap w (do pure (.value (← Instr.loadAt t (e x)))) a := by
  generalize e x = V at hx ⊢
  cases hx with
  | ptr hblk =>
    obtain ⟨X, elem, h1, h2, h3, _⟩ := hi.box b _ cs hblk hb
    have hlt : off < X.size := by have := (List.getElem?_eq_some_iff.1 h).1; omega
    have hx : X[off]? = some X[off] := Array.getElem?_eq_getElem hlt
    exact .pure hi (run_pair _ (by simp only [Instr.loadAt, Instr.sureAddr, Sem.run_bind, Sem.run_pure, Result.andThen_ok]; exact run_loadVar_one ha (by rw [cell_of_box h1]; exact hx))) (h3 _ _ _ hx h).2

/-! ### writing -/

theorem heap_setRow_other (w : World) (g b : Nat) (X : Array Value) (h : b ≠ g) : (w.setRow g X).heap[b]? = w.heap[b]? := by
  simp only [World.setRow, Array.getElem?_modify]
  rw [if_neg (fun e => h e.symm)]

theorem Inv.setRow_keep (hi : Inv w0 lim0 O G toks outer heap w) {blk : Nat} (hb : blk ∈ G.obs ++ G.bs) (X : Array Value) : Keep G toks w G toks (w.setRow blk X) := by
  have hl := (hi.blk_lt hb).2
  refine ⟨⟨fun _ => Nat.le_refl _, fun b o h => ?_⟩, fun _ _ h => h, fun _ _ h => h, Nat.le_refl _, fun t n h _ => ⟨n, h, .inr ⟨rfl, fun b hb' => ⟨hb', rfl, ?_⟩⟩⟩⟩
  · exact World.cell?_of_block (w := w) (heap_setRow_other w blk b X (fun e => by subst e; omega))
  · exact heap_setRow_other w blk b X (fun e => (hi.tok t b n hb' h).1 (e ▸ hb))

theorem Inv.setRow (hi : Inv w0 lim0 O G toks outer heap w) {blk : Nat} (hb : blk ∈ G.obs ++ G.bs) (hO : blk < w0.heap.size → O blk) (X : Array Value) {outer' heap' : List (List AV)}
    (h1 : heap'.length = heap.length) (h2 : outer'.length = outer.length)
    (h3 : ∀ (i : Nat) b cs, G.bs[i]? = some b → heap'[i]? = some cs → (b ≠ blk ∧ heap[i]? = some cs) ∨ (b = blk ∧ BoxOK G toks (w.setRow blk X) G.lim blk cs))
    (h4 : ∀ (i : Nat) b cs, G.obs[i]? = some b → outer'[i]? = some cs → (b ≠ blk ∧ outer[i]? = some cs) ∨ (b = blk ∧ BoxOK G.low [] (w.setRow blk X) G.lim blk cs)) :
    Inv w0 lim0 O G toks outer' heap' (w.setRow blk X) := by
  have k := hi.setRow_keep hb X
  refine ⟨⟨by rw [size_setRow]; exact hi.frame.size, hi.frame.os, hi.frame.tape, hi.frame.output, fun b hb0 hbO => ?_, hi.frame.grow.trans k.grow, fun b h => hi.frame.above b (by rwa [size_setRow] at h)⟩,
    hi.hb.trans h1.symm, hi.ho.trans h2.symm, fun i b cs g1 g2 => ?_, fun i b cs g1 g2 => ?_, hi.nodup, hi.bnew, hi.oold, hi.tlen, fun t b n g1 g2 => ?_, hi.tdis⟩
  · rw [heap_setRow_other w blk b X (fun e => by subst e; exact hbO (hO hb0))]
    exact hi.frame.blk b hb0 hbO
  · rcases h3 i b cs g1 g2 with ⟨e, h⟩ | ⟨rfl, h⟩
    · exact (hi.box i b cs g1 h).keep k (heap_setRow_other w blk b X e) rfl
    · exact h
  · rcases h4 i b cs g1 g2 with ⟨e, h⟩ | ⟨rfl, h⟩
    · exact (hi.obox i b cs g1 h).keep k.low (heap_setRow_other w blk b X e) rfl
    · exact h
  · obtain ⟨t1, t2, t3⟩ := hi.tok t b n g1 g2
    exact ⟨t1, by rw [size_setRow]; exact t2, t3⟩

/-- The cells behind a store. -/
theorem BoxOK.stored {lim : Nat → Nat} {blk off : Nat} {cs r : List AV} {X C : Array Value} {elem : TypeId} (h1 : w.heap[blk]? = some (.cells X elem (0, 0))) (h2 : X.size = cs.length)
    (h3 : ∀ (j : Nat) v a, X[j]? = some v → cs[j]? = some a → v.oneCell' = true ∧ ARep G toks w v a) (hl : lim blk = 0) (c1 : C.size = r.length)
    (c2 : ∀ (j : Nat) u b, C[j]? = some u → r[j]? = some b → u.oneCell' = true ∧ ARep G toks w u b) (hfit : off + r.length ≤ cs.length)
    (k : Keep G toks w G toks (w.setRow blk (X.toList.take off ++ C.toList ++ X.toList.drop (off + C.size)).toArray)) :
    BoxOK G toks (w.setRow blk (X.toList.take off ++ C.toList ++ X.toList.drop (off + C.size)).toArray) lim blk (putAt cs off r) := by
  refine ⟨_, elem, setRow_heap w blk X _ elem (0, 0) h1, ?_, fun j v a hv ha => ?_, hl⟩
  · rw [length_putAt]
    simp
    omega
  · rw [get_putAt r cs off j hfit] at ha
    simp only [List.getElem?_toArray] at hv
    have hlt : (X.toList.take off).length = off := by simp; omega
    by_cases hh : off ≤ j ∧ j < off + r.length
    · rw [if_pos hh] at ha
      rw [List.getElem?_append_left (by simp; omega), List.getElem?_append_right (by omega), hlt] at hv
      have := c2 (j - off) v a (by simpa using hv) ha
      exact ⟨this.1, this.2.keep k⟩
    · rw [if_neg hh] at ha
      have hv' : X[j]? = some v := by
        rcases Nat.lt_or_ge j off with hjo | hjo
        · rw [List.getElem?_append_left (by simp; omega), List.getElem?_append_left (by omega), List.getElem?_take, if_pos hjo] at hv
          simpa using hv
        · rw [List.getElem?_append_right (by simp; omega), List.getElem?_drop] at hv
          rw [← hv]
          simp only [List.length_append, hlt, Array.length_toList]
          rw [show off + C.size + (j - (off + C.size)) = j from by omega]
          simp
      have := h3 j v a hv' ha
      exact ⟨this.1, this.2.keep k⟩

/-! ### slices of boxes -/

theorem flat_len {n : Nat} : ∀ (rows : List (List PV)), (∀ r ∈ rows, r.length = n) → rows.flatten.length = rows.length * n
  | [], _ => by simp
  | r :: rs, h => by
    rw [List.flatten_cons, List.length_append, flat_len rs fun q hq => h q (List.mem_cons_of_mem _ hq), h r (List.mem_cons_self ..), List.length_cons, Nat.add_mul, Nat.one_mul, Nat.add_comm]

theorem flat_at {n : Nat} : ∀ (rows : List (List PV)) (i j : Nat) (p : PV), (∀ r ∈ rows, r.length = n) → at2 rows i j = some p → rows.flatten[i * n + j]? = some p
  | [], i, j, p, _, h => by simp [at2] at h
  | r :: rs, i, j, p, hn, h => by
    have hr := hn r (List.mem_cons_self ..)
    cases i with
    | zero =>
      simp only [at2, List.getElem?_cons_zero, Option.bind_some] at h
      rw [List.flatten_cons, Nat.zero_mul, Nat.zero_add, List.getElem?_append_left (List.getElem?_eq_some_iff.1 h).1]
      exact h
    | succ i =>
      have h' : at2 rs i j = some p := by simpa [at2] using h
      have ih := flat_at rs i j p (fun q hq => hn q (List.mem_cons_of_mem _ hq)) h'
      rw [List.flatten_cons, List.getElem?_append_right (by rw [hr, Nat.add_mul]; omega), hr]
      have : (i + 1) * n + j - n = i * n + j := by rw [Nat.add_mul]; omega
      rw [this]
      exact ih

theorem at_flat {n : Nat} : ∀ (rows : List (List PV)) (k : Nat) (p : PV), (∀ r ∈ rows, r.length = n) → rows.flatten[k]? = some p → ∃ i j, k = i * n + j ∧ at2 rows i j = some p
  | [], k, p, _, h => by simp at h
  | r :: rs, k, p, hn, h => by
    have hr := hn r (List.mem_cons_self ..)
    rw [List.flatten_cons] at h
    rcases Nat.lt_or_ge k r.length with hk | hk
    · rw [List.getElem?_append_left hk] at h
      exact ⟨0, k, by simp, by simpa [at2] using h⟩
    · rw [List.getElem?_append_right hk] at h
      obtain ⟨i, j, e, h'⟩ := at_flat rs _ p (fun q hq => hn q (List.mem_cons_of_mem _ hq)) h
      refine ⟨i + 1, j, by rw [Nat.add_mul]; omega, by simpa [at2] using h'⟩

theorem sem_makeSlice {e : Operand → Value} {t el n by' : Nat} {z : List PV} {x y : Operand} {k k' : IntKind} {m : Int} (hi : Inv w0 lim0 O G toks outer heap w) (hx : ARep G toks w (e x) (.v (.int k m))) (hy : ARep G toks w (e y) (.v (.int k' m)))
    (hu : P.underlying t = some (.slice el)) (hs : sizeT P el = some n) (hb : bytesT P el = some by') (hz : (zeroT P el).bind AV.row = some z) (hzn : z.length = n) (hn : 0 < n) (hby : 0 < by') (h0 : 0 ≤ m) (hfit : m * by' ≤ 2 ^ 47) :
    ∃ v G' w', (do pure (.value (← Instr.makeSlice t (e x) (e y))) : Sem Next).run P w = .ok (.value v) w' ∧ After w0 lim0 O G toks w (.bsl heap.length n m.toNat) toks outer (heap ++ [(List.replicate m.toNat z).flatten.map .v]) v G' w' := by
  rw [hx.int_of, hy.int_of]
  obtain ⟨i, zv, hinfo, hiz, hzrun, hZ⟩ := zero_row hz
  have hZ := hZ G.lim w
  have hF := flat_zero (len := m.toNat) hZ hzn (by omega)
  obtain ⟨f1, f2, f3⟩ := hF
  have isz : i.size = n := by
    unfold sizeT at hs
    rw [hinfo] at hs
    simpa using hs
  have iby : i.bytes = by' := by
    unfold bytesT at hb
    rw [hinfo] at hb
    simpa using hb
  have hm47 : m ≤ m * by' := by
    have : m * 1 ≤ m * by' := Int.mul_le_mul_of_nonneg_left (by omega) h0
    rwa [Int.mul_one] at this
  have hrun := run_make (P := P) w t el i zv hu hinfo hiz k k' m m h0 (Int.le_refl _) (by rw [iby, Int.mul_comm]; omega) (by omega)
  rw [isz] at hrun
  obtain ⟨i1, k1⟩ := hi.newBox (elem := el) (X := madeCells zv.cells (m.toNat * n)) (cs := (List.replicate m.toNat z).flatten.map .v) (by
    rw [List.length_map, flat_len _ f2]
    exact f1) (fun j u b hu hb => by
    rw [List.getElem?_map] at hb
    obtain ⟨p, hp, rfl⟩ := Option.map_eq_some_iff.1 hb
    obtain ⟨a, c, rfl, hq⟩ := at_flat _ _ _ f2 hp
    obtain ⟨v, hv, hr⟩ := f3 a c p hq
    have : u = v := by
      have hv' : (madeCells zv.cells (m.toNat * n))[a * n + c]? = some v := hv
      rw [hu] at hv'
      exact Option.some.inj hv'
    subst this
    exact ⟨hr.oneCell, .v hr⟩)
  refine ⟨_, _, _, run_pair _ hrun, .bsl (blk := w.heap.size) ?_ (Nat.le_refl _), i1, k1⟩
  show (G.bs ++ [w.heap.size])[heap.length]? = _
  rw [← hi.hb]
  simp

theorem storeIn_spec {t off : Nat} {cs cs' : List AV} {a : AV} (h : storeIn P t cs off a = some cs') : sizeT P t = some a.cells.length ∧ off + a.cells.length ≤ cs.length ∧ cs' = putAt cs off a.cells ∧ a ≠ .none ∧ (∀ l, a ≠ .tup l) ∧ ∀ c b, a ≠ .opt c b := by
  unfold storeIn at h
  split at h <;> (try (simp at h; done))
  rename_i a' n h1 h2 h3 hs
  split at h <;> (try (simp at h; done))
  rename_i hc
  simp only [Bool.and_eq_true, decide_eq_true_eq] at hc
  simp at h
  exact ⟨by rw [hs, hc.1], by omega, h.symm, h1, h2, h3⟩

theorem run_storeVar' {t blk off : Nat} {X : Array Value} {elem : TypeId} {v : Value} (h1 : w.heap[blk]? = some (.cells X elem (0, 0))) (hs : sizeT P t = some v.cells.size) (hfit : off + v.cells.size ≤ X.size) (hone : ∀ u ∈ v.cells.toList, u.oneCell' = true) :
    (storeVar t ⟨blk, off, none⟩ v).run P w = .ok () (w.setRow blk (X.toList.take off ++ v.cells.toList ++ X.toList.drop (off + v.cells.size)).toArray) := by
  have := run_storeCells_at (P := P) blk off elem v.cells.toList 0 X w h1 (by simpa using hfit) hone
  simp only [Nat.add_zero, Array.length_toList] at this
  simp [storeVar, run_sizeOf' hs, this]

theorem sem_store {e : Operand → Value} {t b off : Nat} {x y : Operand} {a : AV} {cs cs' : List AV} (hi : Inv w0 lim0 O G toks outer heap w) (hx : ARep G toks w (e x) (.ptr b off)) (hy : ARep G toks w (e y) a) (hb : heap[b]? = some cs) (h : storeIn P t cs off a = some cs') :
    ∃ w', (do Instr.storeAt t (e x) (e y); pure .skip : Sem Next).run P w = .ok .skip w' ∧ After w0 lim0 O G toks w .none toks outer (heap.set b cs') undef G w' := by
  obtain ⟨hs, hfit, rfl, hn, ht, ho⟩ := storeIn_spec h
  obtain ⟨c1, c2⟩ := hy.cellsAt hn ht ho
  generalize e x = V at hx ⊢
  cases hx with
  | @ptr _ _ blk hblk =>
    obtain ⟨X, elem, h1, h2, h3, h4⟩ := hi.box b _ cs hblk hb
    have hmem : blk ∈ G.obs ++ G.bs := List.mem_append_right _ (List.mem_of_getElem? hblk)
    have hone : ∀ u ∈ (e y).cells.toList, u.oneCell' = true := by
      intro u hu
      obtain ⟨j, hj⟩ := List.mem_iff_getElem?.1 hu
      have hlt : j < a.cells.length := by have := (List.getElem?_eq_some_iff.1 hj).1; simp at this; omega
      exact (c2 j u _ (by simpa using hj) (List.getElem?_eq_getElem hlt)).1
    have hrun := run_storeVar' (P := P) h1 (by rw [hs, c1] : sizeT P t = some (e y).cells.size) (by omega : off + (e y).cells.size ≤ X.size) hone
    have k := hi.setRow_keep hmem (X.toList.take off ++ (e y).cells.toList ++ X.toList.drop (off + (e y).cells.size)).toArray
    have hbox := BoxOK.stored (off := off) h1 h2 h3 h4 c1 c2 hfit k
    refine ⟨_, ?_, .none _, hi.setRow hmem (fun hlt => ?_) _ (by simp) rfl (fun i b' c g1 g2 => ?_) (fun i b' c g1 g2 => .inl ⟨?_, g2⟩), k⟩
    · simp only [Instr.storeAt, Instr.sureAddr, Sem.run_bind, Sem.run_pure, Result.andThen_ok, hrun]
    · have := hi.bnew blk (List.mem_of_getElem? hblk); omega
    · by_cases hib : i = b
      · subst hib
        rw [hblk] at g1
        obtain rfl := Option.some.inj g1
        rw [List.getElem?_set_self (List.getElem?_eq_some_iff.1 hb).1] at g2
        obtain rfl := Option.some.inj g2
        exact .inr ⟨rfl, hbox⟩
      · rw [List.getElem?_set_ne (fun e => hib e.symm)] at g2
        refine .inl ⟨fun e => hib ?_, g2⟩
        subst e
        have hnd := (List.nodup_append.1 hi.nodup).2.1
        exact (List.getElem?_inj (List.getElem?_eq_some_iff.1 g1).1 hnd).1 (g1.trans hblk.symm)
    · intro e
      subst e
      exact (List.nodup_append.1 hi.nodup).2.2 _ (List.mem_of_getElem? g1) _ (List.mem_of_getElem? hblk) rfl

theorem out_low {v : Value} {a : AV} (h : ARep G toks w v a) (ha : a.out = true) : ARep G.low [] w v a := by
  cases h with
  | none v => exact .none v
  | v h => exact .v h
  | optr h => exact .optr h
  | @fn f fi ca first cap h1 h2 h3 h4 =>
    simp only [AV.out, List.all_eq_true] at ha
    refine .fn h1 h2 (fun i v a hv hl => ?_) fun i v a hv hl => ?_
    · have := ha a (List.mem_append_left _ (List.mem_of_getElem? hl))
      have hr := h3 i v a hv hl
      cases hr with
      | v h => exact .v h
      | optr h => exact .optr h
      | _ => simp at this
    · have := ha a (List.mem_append_right _ (List.mem_of_getElem? hl))
      have hr := h4 i v a hv hl
      cases hr with
      | v h => exact .v h
      | optr h => exact .optr h
      | _ => simp at this
  | _ => simp [AV.out] at ha

theorem sem_storeO {e : Operand → Value} {t b off : Nat} {x y : Operand} {a : AV} {cs cs' : List AV} (hi : Inv w0 lim0 O G toks outer heap w) (hx : ARep G toks w (e x) (.optr b off)) (hy : ARep G toks w (e y) a) (hb : outer[b]? = some cs) (h : storeIn P t cs off a = some cs') (hout : a.cells.all AV.out = true) :
    ∃ w', (do Instr.storeAt t (e x) (e y); pure .skip : Sem Next).run P w = .ok .skip w' ∧ After w0 lim0 O G toks w .none toks (outer.set b cs') heap undef G w' := by
  obtain ⟨hs, hfit, rfl, hn, ht, ho⟩ := storeIn_spec h
  obtain ⟨c1, c2⟩ := hy.cellsAt hn ht ho
  generalize e x = V at hx ⊢
  cases hx with
  | @optr _ _ blk hblk =>
    obtain ⟨X, elem, h1, h2, h3, h4⟩ := hi.obox b _ cs hblk hb
    have hmem : blk ∈ G.obs ++ G.bs := List.mem_append_left _ (List.mem_of_getElem? hblk)
    have hone : ∀ u ∈ (e y).cells.toList, u.oneCell' = true := by
      intro u hu
      obtain ⟨j, hj⟩ := List.mem_iff_getElem?.1 hu
      have hlt : j < a.cells.length := by have := (List.getElem?_eq_some_iff.1 hj).1; simp at this; omega
      exact (c2 j u _ (by simpa using hj) (List.getElem?_eq_getElem hlt)).1
    have hrun := run_storeVar' (P := P) h1 (by rw [hs, c1] : sizeT P t = some (e y).cells.size) (by omega : off + (e y).cells.size ≤ X.size) hone
    have k := hi.setRow_keep hmem (X.toList.take off ++ (e y).cells.toList ++ X.toList.drop (off + (e y).cells.size)).toArray
    have c2' : ∀ (j : Nat) u b, (e y).cells[j]? = some u → a.cells[j]? = some b → u.oneCell' = true ∧ ARep G.low [] w u b := fun j u b hu hb =>
      ⟨(c2 j u b hu hb).1, out_low (c2 j u b hu hb).2 ((List.all_eq_true.1 hout) _ (List.mem_of_getElem? hb))⟩
    have hbox := BoxOK.stored (G := G.low) (toks := []) (off := off) h1 h2 h3 h4 c1 c2' hfit k.low
    refine ⟨_, ?_, .none _, hi.setRow hmem (fun hlt => hi.oold blk (List.mem_of_getElem? hblk)) _ rfl (by simp) (fun i b' c g1 g2 => .inl ⟨?_, g2⟩) (fun i b' c g1 g2 => ?_), k⟩
    · simp only [Instr.storeAt, Instr.sureAddr, Sem.run_bind, Sem.run_pure, Result.andThen_ok, hrun]
    · intro e
      subst e
      exact (List.nodup_append.1 hi.nodup).2.2 _ (List.mem_of_getElem? hblk) _ (List.mem_of_getElem? g1) rfl
    · by_cases hib : i = b
      · subst hib
        rw [hblk] at g1
        obtain rfl := Option.some.inj g1
        rw [List.getElem?_set_self (List.getElem?_eq_some_iff.1 hb).1] at g2
        obtain rfl := Option.some.inj g2
        exact .inr ⟨rfl, hbox⟩
      · rw [List.getElem?_set_ne (fun e => hib e.symm)] at g2
        refine .inl ⟨fun e => hib ?_, g2⟩
        subst e
        have hnd := (List.nodup_append.1 hi.nodup).1
        exact (List.getElem?_inj (List.getElem?_eq_some_iff.1 g1).1 hnd).1 (g1.trans hblk.symm)

end
end Go.Ab
