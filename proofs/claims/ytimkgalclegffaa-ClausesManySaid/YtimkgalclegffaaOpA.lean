/-
The plain operations: what they come to in memory is what the evaluator says.
-/
import Derived.Test.YtimkgalclegffaaRep
import Derived.Laws.StructEq
import Derived.Laws.Cells
namespace Go.Ab
open Go

section
variable {P : Program}

theorem run_sizeOf' {t : TypeId} {n : Nat} (h : sizeT P t = some n) (w : World) : (sizeOf t).run P w = .ok n w := by
  unfold sizeT at h
  cases hi : P.info? t with
  | none => rw [hi] at h; simp at h
  | some i =>
    rw [hi] at h
    simp at h
    simp [sizeOf, typeInfo, hi, h]

theorem run_isAgg' {t : TypeId} {b : Bool} (h : isAggT P t = some b) (w : World) : (isAgg t).run P w = .ok b w := by
  unfold isAggT at h
  cases hd : P.underlying t with
  | none => rw [hd] at h; simp at h
  | some d =>
    rw [hd] at h
    cases d <;> simp at h <;> subst h <;> simp [isAgg, run_underlying hd]

structure After (w0 : World) (lim0 : Nat → Nat) (O : Nat → Prop) (G : Gh) (toks : List (Option Nat)) (w : World) (a : AV) (toks' : List (Option Nat)) (outer' heap' : List (List AV)) (v : Value) (G' : Gh) (w' : World) : Prop where
  rep : ARep G' toks' w' v a
  inv : Inv w0 lim0 O G' toks' outer' heap' w'
  keep : Keep G toks w G' toks' w'

/-- What an operation that leaves boxes and tokens alone comes to. -/
def Plain (P : Program) (w0 : World) (lim0 : Nat → Nat) (O : Nat → Prop) (G : Gh) (toks : List (Option Nat)) (outer heap : List (List AV)) (w : World) (x : Sem Next) (a : AV) : Prop :=
  ∃ v G' w', x.run P w = .ok (.value v) w' ∧ After w0 lim0 O G toks w a toks outer heap v G' w'

variable {w0 : World} {lim0 : Nat → Nat} {O : Nat → Prop} {G : Gh} {toks : List (Option Nat)} {outer heap : List (List AV)} {w : World}

theorem Plain.pure {x : Sem Next} {v : Value} {a : AV} (hi : Inv w0 lim0 O G toks outer heap w) (hx : x.run P w = .ok (.value v) w) (hr : ARep G toks w v a) :
    Plain P w0 lim0 O G toks outer heap w x a := ⟨v, G, w, hx, hr, hi, Keep.refl _ _ _⟩

/-- How a value is seen as a bool, a number .. -/
theorem ARep.bool_of {v : Value} {b : Bool} (h : ARep G toks w v (.v (.bool b))) : v = .bool b := by cases h with | v h => cases h; rfl
theorem ARep.int_of {v : Value} {k : IntKind} {n : Int} (h : ARep G toks w v (.v (.int k n))) : v = .int k n := by cases h with | v h => cases h; rfl
theorem ARep.str_of {v : Value} {s : ByteArray} (h : ARep G toks w v (.v (.str s))) : v = .string s := by cases h with | v h => cases h; rfl
theorem ARep.mkBool (b : Bool) : ARep G toks w (.bool b) (.v (.bool b)) := .v (.bool b)
theorem ARep.mkInt (k : IntKind) (n : Int) : ARep G toks w (.int k n) (.v (.int k n)) := .v (.int k n)

/-- The operands, as an operation sees them. -/
def Opnds (G : Gh) (toks : List (Option Nat)) (w : World) (e : Operand → Value) (ρ : Operand → AV) (o : Op) : Prop :=
  match o with
  | .pick c a b => ARep G toks w (e c) (ρ c) ∧ ∀ B, ρ c = .v (.bool B) → (B = true → ARep G toks w (e a) (ρ a)) ∧ (B = false → ARep G toks w (e b) (ρ b))
  | o => ∀ x ∈ o.operands.toList, ARep G toks w (e x) (ρ x)

theorem sem_pick {e : Operand → Value} {ρ : Operand → AV} {c a b : Operand} {B : Bool} (hi : Inv w0 lim0 O G toks outer heap w) (hc : ARep G toks w (e c) (ρ c)) (hB : ρ c = .v (.bool B))
    {r : AV} (hr : ARep G toks w (if B then e a else e b) r) : Plain P w0 lim0 O G toks outer heap w (do pure (.value (if ← asBool (e c) then e a else e b))) r := by
  rw [hB] at hc
  refine .pure hi ?_ hr
  rw [hc.bool_of]
  simp [asBool]

theorem under_some {α : Type} {d : Bool} {p : Prop} [Decidable p] {a b : α} {l : List Prop} (h : under d p a = some (b, l)) (ho : ∀ q ∈ l, q) : b = a ∧ p := by
  unfold under at h
  cases d with
  | true =>
    simp only at h
    split at h
    · rename_i hp
      simp at h
      exact ⟨h.1.symm, of_decide_eq_true hp⟩
    · simp at h
  | false =>
    simp at h
    obtain ⟨rfl, rfl⟩ := h
    exact ⟨rfl, ho p (by simp)⟩

/-! ### addresses -/

theorem add_off (b off n : Nat) : (⟨b, off, none⟩ : Addr).add n = ⟨b, off + n, none⟩ := by
  unfold Addr.add
  split
  · subst_vars; rfl
  · rfl

theorem run_fieldPlace' {b off : Nat} {f : Field} {n : Nat} (h : sizeT P f.type = some (n + 1)) (w : World) : (fieldPlace ⟨b, off, none⟩ f).run P w = .ok ⟨b, off + f.offset, none⟩ w := by
  simp [fieldPlace, run_sizeOf' h, add_off]

theorem sem_fieldAddr {e : Operand → Value} {ρ : Operand → AV} {s f : Nat} {x : Operand} {a : AV} {l : List Prop} (hi : Inv w0 lim0 O G toks outer heap w) (hx : ARep G toks w (e x) (ρ x)) {k : Kd}
    (h : plain P (.fieldAddr s x f) k ρ = some (a, l)) : Plain P w0 lim0 O G toks outer heap w (do pure (.value (← Instr.fieldAt s (e x) f))) a := by
  simp only [plain] at h
  split at h <;> (try (simp at h; done))
  rename_i fields hu
  split at h <;> (try (simp at h; done))
  rename_i fd hf
  split at h <;> (try (simp at h; done))
  rename_i n hn hs
  have hn0 : ∃ m, n = m + 1 := by
    cases n with
    | zero => exact (hn rfl).elim
    | succ m => exact ⟨m, rfl⟩
  obtain ⟨m, rfl⟩ := hn0
  have run : ∀ b off, (do pure (.value (← Instr.fieldAt s (.pointer (some ⟨b, off, none⟩)) f)) : Sem Next).run P w = .ok (.value (.pointer (some ⟨b, off + fd.offset, none⟩))) w := by
    intro b off
    simp [Instr.fieldAt, run_underlying hu, hf, Instr.sureAddr, run_fieldPlace' hs]
  generalize ρ x = A at hx h
  generalize e x = V at hx ⊢
  cases hx with
  | ptr hb => simp at h; obtain ⟨rfl, rfl⟩ := h; exact .pure hi (run _ _) (.ptr hb)
  | optr hb => simp at h; obtain ⟨rfl, rfl⟩ := h; exact .pure hi (run _ _) (.optr hb)
  | eptr u hc hp =>
    simp at h
    obtain ⟨rfl, rfl⟩ := h
    refine .pure hi (run _ _) (.eptr (fun j => u (fd.offset + j)) (fun j p hj => ?_) fun j p hj => ?_)
    · rw [List.getElem?_drop] at hj
      have := hc _ _ hj
      rwa [show ∀ o, o + fd.offset + j = o + (fd.offset + j) from fun o => Nat.add_assoc _ _ _]
    · rw [List.getElem?_drop] at hj
      exact hp _ _ hj
  | _ => simp at h


theorem run_pair (w : World) {v : Value} {w' : World} {x : Sem Value} (h : x.run P w = .ok v w') : (do pure (.value (← x)) : Sem Next).run P w = .ok (.value v) w' := by
  simp [h]

theorem run_indexAt_arr {t e' n len : Nat} {k : IntKind} {i : Int} {b off : Nat} (hu : P.underlying t = some (.array len e')) (hs : sizeT P e' = some n) (h : 0 ≤ i ∧ i < len) (w : World) :
    (Instr.indexAt t (.pointer (some ⟨b, off, none⟩)) (.int k i)).run P w = .ok (.pointer (some ⟨b, off + i.toNat * n, none⟩)) w := by
  simp [Instr.indexAt, asIntOf, run_underlying hu, Instr.sureAddr, h, run_sizeOf' hs, add_off]

theorem run_indexAt_sl {t e' n len cap : Nat} {k : IntKind} {i : Int} {b off : Nat} (hu : P.underlying t = some (.slice e')) (hs : sizeT P e' = some n) (h : 0 ≤ i ∧ i < len) (w : World) :
    (Instr.indexAt t (.slice (some ⟨b, off, none⟩) len cap) (.int k i)).run P w = .ok (.pointer (some ⟨b, off + i.toNat * n, none⟩)) w := by
  simp [Instr.indexAt, asIntOf, run_underlying hu, Instr.sureAddr, h, run_sizeOf' hs, add_off]

/-- What is known of a slice whose elements are known. -/
theorem ARep.rows {v : Value} {a : AV} {rows : List (List PV)} (h : ARep G toks w v a) (hr : a.rows? = some rows) : PRep G.lim w v (.sl rows) := by
  cases h with
  | v h =>
    cases h <;> simp [AV.rows?] at hr
    · subst hr; exact .nil0
    · subst hr; exact .nil0
    · subst hr; exact .sl0 _
    · subst hr; exact .sl _ _ _ _ _ _ _ ‹_› ‹_› ‹_› ‹_› ‹_›
  | own ht hle h hr' => simp [AV.rows?] at hr; exact hr ▸ h
  | vac ht h hr' => simp [AV.rows?] at hr; exact hr ▸ h
  | _ => simp [AV.rows?] at hr

theorem at2_of {rows : List (List PV)} {i j : Nat} {r : List PV} {p : PV} (h : rows[i]? = some r) (hj : r[j]? = some p) : at2 rows i j = some p := by simp [at2, h, hj]

theorem sem_row {V : Value} {t e' n : Nat} {k : IntKind} {i : Int} {rows : List (List PV)} {r : List PV} (hi : Inv w0 lim0 O G toks outer heap w) (hV : PRep G.lim w V (.sl rows))
    (hu : P.underlying t = some (.slice e')) (hs : sizeT P e' = some n) (hn : r.length = n) (h0 : 0 ≤ i) (hr : rows[i.toNat]? = some r) :
    Plain P w0 lim0 O G toks outer heap w (do pure (.value (← Instr.indexAt t V (.int k i)))) (.eptr r) := by
  cases hV with
  | nil0 => simp at hr
  | sl0 a => simp at hr
  | sl b off len cap esz rows u hl hc hrr hcell hp =>
    have hlt := (List.getElem?_eq_some_iff.1 hr).1
    have hesz : r.length = esz := hrr r (List.mem_of_getElem? hr)
    refine .pure hi (run_pair _ (run_indexAt_sl hu hs ⟨h0, by omega⟩ _)) (.eptr (fun j => u i.toNat j) (fun j p hj => ?_) fun j p hj => hp _ _ _ (at2_of hr hj))
    have := hcell _ _ _ (at2_of hr hj)
    rw [← hn, hesz]
    exact this

theorem sem_indexAddr {e : Operand → Value} {ρ : Operand → AV} {t : Nat} {x ix : Operand} {a : AV} {l : List Prop} (hi : Inv w0 lim0 O G toks outer heap w) (hx : ARep G toks w (e x) (ρ x)) (hix : ARep G toks w (e ix) (ρ ix)) {k : Kd}
    (h : plain P (.indexAddr t x ix) k ρ = some (a, l)) (ho : ∀ q ∈ l, q) : Plain P w0 lim0 O G toks outer heap w (do pure (.value (← Instr.indexAt t (e x) (e ix)))) a := by
  simp only [plain] at h
  split at h <;> (try (simp at h; done))
  rename_i kk i hρ
  rw [hρ] at hix
  rw [hix.int_of]
  generalize ρ x = A at hx h
  generalize e x = V at hx ⊢
  split at h
  · rename_i len e' b off hu
    split at h <;> (try (simp at h; done))
    rename_i n hs
    obtain ⟨rfl, hr⟩ := under_some h ho
    cases hx with
    | ptr hb => exact .pure hi (run_pair _ (run_indexAt_arr hu hs hr _)) (.ptr hb)
  · rename_i len e' b off hu
    split at h <;> (try (simp at h; done))
    rename_i n hs
    obtain ⟨rfl, hr⟩ := under_some h ho
    cases hx with
    | optr hb => exact .pure hi (run_pair _ (run_indexAt_arr hu hs hr _)) (.optr hb)
  · rename_i len e' cs hu
    split at h <;> (try (simp at h; done))
    rename_i n hs
    obtain ⟨rfl, hr⟩ := under_some h ho
    cases hx with
    | eptr u hc hp =>
      refine .pure hi (run_pair _ (run_indexAt_arr hu hs hr _)) (.eptr (fun j => u (i.toNat * n + j)) (fun j p hj => ?_) fun j p hj => ?_)
      · rw [List.getElem?_drop] at hj
        have := hc _ _ hj
        rwa [show ∀ o, o + i.toNat * n + j = o + (i.toNat * n + j) from fun o => Nat.add_assoc _ _ _]
      · rw [List.getElem?_drop] at hj
        exact hp _ _ hj
  · rename_i e' b n len hu
    split at h <;> (try (simp at h; done))
    rename_i m hs
    split at h <;> (try (simp at h; done))
    rename_i hm
    obtain rfl := of_decide_eq_true hm
    obtain ⟨rfl, hr⟩ := under_some h ho
    cases hx with
    | bsl hb hc =>
      have := fun (c bl : Nat) => run_indexAt_sl (P := P) (b := bl) (off := 0) (cap := c) (k := kk) hu hs hr w
      simp only [Nat.zero_add] at this
      exact .pure hi (run_pair _ (this _ _)) (.ptr hb)
  · rename_i e' A' hu _
    split at h <;> (try (simp at h; done))
    rename_i rows n hrows hs
    have hV := hx.rows hrows
    split at h
    · rename_i r
      split at h <;> (try (simp at h; done))
      rename_i hn
      simp at h
      obtain ⟨rfl, rfl⟩ := h
      exact sem_row hi hV hu hs (of_decide_eq_true hn) (ho _ (by simp)) (ho _ (by simp))
    · split at h <;> (try (simp at h; done))
      rename_i r hr
      split at h <;> (try (simp at h; done))
      rename_i hn
      obtain ⟨rfl, h0⟩ := under_some h ho
      exact sem_row hi hV hu hs (of_decide_eq_true hn) h0 hr
  · simp at h

/-! ### reading -/

theorem run_loadVar_agg {t n b off : Nat} {u : Nat → Value} (ha : isAggT P t = some true) (hs : sizeT P t = some n) (h : ∀ j, j < n → w.cell? ⟨b, off + j, none⟩ = some (u j)) :
    (loadVar t ⟨b, off, none⟩).run P w = .ok (.agg ((List.range n).map u).toArray) w := by
  have hc := run_loadCells (P := P) w ⟨b, off, none⟩ n u (fun j hj => by rw [add_off]; exact h j hj)
  simp [loadVar, run_isAgg' ha, run_sizeOf' hs, hc]

theorem run_loadVar_one {t b off : Nat} {v : Value} (ha : isAggT P t = some false) (h : w.cell? ⟨b, off, none⟩ = some v) : (loadVar t ⟨b, off, none⟩).run P w = .ok v w := by
  simp [loadVar, run_isAgg' ha, h]

theorem range_map_get {n i : Nat} {u : Nat → Value} (h : i < n) : (((List.range n).map u).toArray)[i]? = some (u i) := by
  simp [h]

theorem ARep.mkAgg {n : Nat} {u : Nat → Value} {ps : List PV} (hn : ps.length = n) (h : ∀ i p, ps[i]? = some p → PRep G.lim w (u i) p) : ARep G toks w (.agg ((List.range n).map u).toArray) (.agg ps) := by
  refine .agg (by simp [hn]) fun i v p h1 h2 => ?_
  have hi : i < n := by have := (List.getElem?_eq_some_iff.1 h2).1; omega
  rw [range_map_get hi] at h1
  obtain rfl := Option.some.inj h1
  exact h i p h2

theorem sem_loadP {e : Operand → Value} {ρ : Operand → AV} {t : Nat} {x : Operand} {a : AV} {l : List Prop} (hi : Inv w0 lim0 O G toks outer heap w) (hx : ARep G toks w (e x) (ρ x))
    (h : plain P (.load t x) .d ρ = some (a, l)) : Plain P w0 lim0 O G toks outer heap w (do pure (.value (← Instr.loadAt t (e x)))) a := by
  simp only [plain] at h
  generalize ρ x = A at hx h
  generalize e x = V at hx ⊢
  cases hx with
  | @eptr cs b off u hc hp =>
    simp only at h
    split at h
    · rename_i n ha hs
      split at h <;> (try (simp at h; done))
      rename_i hn
      simp at h
      obtain ⟨rfl, rfl⟩ := h
      have hget : ∀ j, j < n → ∃ p, cs[j]? = some p := fun j hj => ⟨_, List.getElem?_eq_getElem (by omega)⟩
      have hrun : (loadVar t ⟨b, off, none⟩).run P w = .ok (.agg ((List.range n).map u).toArray) w := run_loadVar_agg ha hs (u := u) fun j hj => by
        obtain ⟨p, hp'⟩ := hget j hj
        exact (hc j p hp').1
      refine .pure hi (run_pair _ (by simp only [Instr.loadAt, Instr.sureAddr, Sem.run_bind, Sem.run_pure, Result.andThen_ok]; exact hrun)) (.mkAgg (by simp [hn]) fun i p hp' => ?_)
      · have hi' : i < n := by have := (List.getElem?_eq_some_iff.1 hp').1; simp at this; omega
        rw [List.getElem?_take, if_pos hi'] at hp'
        exact hp i p hp'
    · rename_i ha hs
      split at h <;> (try (simp at h; done))
      simp at h
      obtain ⟨rfl, rfl⟩ := h
      have hrun : (loadVar t ⟨b, off, none⟩).run P w = .ok (u 0) w := run_loadVar_one ha (hc 0 _ rfl).1
      exact .pure hi (run_pair _ (by simp only [Instr.loadAt, Instr.sureAddr, Sem.run_bind, Sem.run_pure, Result.andThen_ok]; exact hrun)) (.v (hp 0 _ rfl))
    · simp at h
  | _ => simp at h

theorem sem_nilCheck {e : Operand → Value} {ρ : Operand → AV} {o : Oper} {x : Operand} {a : AV} {l : List Prop} (hi : Inv w0 lim0 O G toks outer heap w) (hx : ARep G toks w (e x) (ρ x)) (hop : o.op = .nilCheck x) {k : Kd}
    (h : plain P (.nilCheck x) k ρ = some (a, l)) : Plain P w0 lim0 O G toks outer heap w (execOp e o) a := by
  simp only [plain] at h
  have run : ∀ b off, e x = .pointer (some ⟨b, off, none⟩) → (execOp e o).run P w = .ok (.value (e x)) w := by
    intro b off he
    simp [execOp, hop, he]
  generalize ρ x = A at hx h
  generalize he : e x = V at hx run
  cases hx with
  | ptr hb => simp at h; obtain ⟨rfl, rfl⟩ := h; exact .pure hi (run _ _ rfl) (.ptr hb)
  | optr hb => simp at h; obtain ⟨rfl, rfl⟩ := h; exact .pure hi (run _ _ rfl) (.optr hb)
  | eptr u hc hp => simp at h; obtain ⟨rfl, rfl⟩ := h; exact .pure hi (run _ _ rfl) (.eptr u hc hp)
  | _ => simp at h

theorem run_part_agg {t n off : Nat} {cs : Array Value} (ha : isAggT P t = some true) (hs : sizeT P t = some n) (w : World) : (part t cs off).run P w = .ok (.agg (cs.extract off (off + n))) w := by
  simp [part, run_isAgg' ha, run_sizeOf' hs]
theorem run_part_one {t off : Nat} {cs : Array Value} {v : Value} (ha : isAggT P t = some false) (h : cs[off]? = some v) (w : World) : (part t cs off).run P w = .ok v w := by
  simp [part, run_isAgg' ha, h]

theorem sem_part {t off : Nat} {cs : Array Value} {ps : List PV} {a : AV} {l : List Prop} (hsz : cs.size = ps.length) (hr : ∀ (i : Nat) v p, cs[i]? = some v → ps[i]? = some p → PRep G.lim w v p)
    (h : plain.part P ps t off = some (a, l)) : ∃ v, (part t cs off).run P w = .ok v w ∧ ARep G toks w v a := by
  unfold plain.part at h
  split at h
  · rename_i n ha hs
    split at h <;> (try (simp at h; done))
    rename_i hn
    simp at h
    obtain ⟨rfl, rfl⟩ := h
    refine ⟨_, run_part_agg ha hs w, .agg (by simp; omega) fun i v p h1 h2 => ?_⟩
    rw [Array.getElem?_extract] at h1
    split at h1 <;> (try (simp at h1; done))
    rw [List.getElem?_take] at h2
    split at h2 <;> (try (simp at h2; done))
    rw [List.getElem?_drop] at h2
    exact hr _ _ _ h1 h2
  · rename_i ha hs
    simp at h
    obtain ⟨p, hp, rfl, rfl⟩ := h
    have hlt : off < cs.size := by have := (List.getElem?_eq_some_iff.1 hp).1; omega
    exact ⟨_, run_part_one ha (Array.getElem?_eq_getElem hlt) w, .v (hr _ _ _ (Array.getElem?_eq_getElem hlt) hp)⟩
  · simp at h

theorem sem_field {e : Operand → Value} {ρ : Operand → AV} {t f : Nat} {x : Operand} {a : AV} {l : List Prop} (hi : Inv w0 lim0 O G toks outer heap w) (hx : ARep G toks w (e x) (ρ x)) {k : Kd}
    (h : plain P (.field t x f) k ρ = some (a, l)) : Plain P w0 lim0 O G toks outer heap w (do pure (.value (← Instr.field t (e x) f))) a := by
  simp only [plain] at h
  generalize ρ x = A at hx h
  generalize e x = V at hx ⊢
  split at h <;> (try (simp at h; done))
  rename_i fields ps hu
  split at h <;> (try (simp at h; done))
  rename_i fd hf
  cases hx with
  | agg hsz hr =>
    obtain ⟨v, hv, hrep⟩ := sem_part (P := P) (toks := toks) hsz hr h
    exact .pure hi (run_pair _ (by simp [Instr.field, run_underlying hu, hf, asAgg, hv])) hrep

theorem sem_index {e : Operand → Value} {ρ : Operand → AV} {t : Nat} {x ix : Operand} {a : AV} {l : List Prop} (hi : Inv w0 lim0 O G toks outer heap w) (hx : ARep G toks w (e x) (ρ x)) (hix : ARep G toks w (e ix) (ρ ix)) {k : Kd}
    (h : plain P (.index t x ix) k ρ = some (a, l)) (ho : ∀ q ∈ l, q) : Plain P w0 lim0 O G toks outer heap w (do pure (.value (← Instr.index t (e x) (e ix)))) a := by
  simp only [plain] at h
  split at h <;> (try (simp at h; done))
  rename_i kk i len e' ps hρi hu hρ
  rw [hρi] at hix
  rw [hix.int_of]
  rw [hρ] at hx
  generalize e x = V at hx ⊢
  split at h <;> (try (simp at h; done))
  rename_i n hs
  split at h <;> (try (simp at h; done))
  rename_i a' l' hp
  obtain ⟨rfl, hr⟩ := under_some h ho
  cases hx with
  | agg hsz hrr =>
    obtain ⟨v, hv, hrep⟩ := sem_part (P := P) (toks := toks) hsz hrr hp
    exact .pure hi (run_pair _ (by simp [Instr.index, asIntOf, run_underlying hu, hr, run_sizeOf' hs, hv])) hrep

theorem sem_extract {e : Operand → Value} {ρ : Operand → AV} {i : Nat} {x : Operand} {a : AV} {l : List Prop} (hi : Inv w0 lim0 O G toks outer heap w) (hx : ARep G toks w (e x) (ρ x)) {k : Kd}
    (h : plain P (.extract x i) k ρ = some (a, l)) : Plain P w0 lim0 O G toks outer heap w (do pure (.value (← Instr.extract (e x) i))) a := by
  simp only [plain] at h
  generalize ρ x = A at hx h
  generalize e x = V at hx ⊢
  cases hx with
  | @tup vs l' h1 h2 =>
    simp at h
    obtain ⟨_, hp, rfl, rfl⟩ := h
    have hlt : i < vs.size := by have := (List.getElem?_eq_some_iff.1 hp).1; omega
    exact .pure hi (run_pair _ (by simp [Instr.extract, Array.getElem?_eq_getElem hlt])) (h2 _ _ _ (Array.getElem?_eq_getElem hlt) hp)
  | _ => simp at h

theorem sem_makeFunc {e : Operand → Value} {ρ : Operand → AV} {f : Fn} {first cap : Array Operand} (hi : Inv w0 lim0 O G toks outer heap w) (h1 : ∀ x ∈ first.toList, ARep G toks w (e x) (ρ x)) (h2 : ∀ x ∈ cap.toList, ARep G toks w (e x) (ρ x)) :
    Plain P w0 lim0 O G toks outer heap w (do pure (.value (← Instr.makeFunc f (first.map e) (cap.map e)))) (.fn f (first.toList.map ρ) (cap.toList.map ρ)) := by
  refine .pure (v := .func f (first.map e) (cap.map e)) hi (run_pair _ (by simp [Instr.makeFunc])) (.fn (by simp) (by simp) (fun i v a hv ha => ?_) fun i v a hv ha => ?_)
  · simp [Array.getElem?_map] at hv ha
    obtain ⟨x, hx, rfl⟩ := hv
    obtain ⟨y, hy, rfl⟩ := ha
    rw [hx] at hy
    obtain rfl := Option.some.inj hy
    exact h1 _ (Array.mem_toList_iff.2 (Array.mem_of_getElem? hx))
  · simp [Array.getElem?_map] at hv ha
    obtain ⟨x, hx, rfl⟩ := hv
    obtain ⟨y, hy, rfl⟩ := ha
    rw [hx] at hy
    obtain rfl := Option.some.inj hy
    exact h2 _ (Array.mem_toList_iff.2 (Array.mem_of_getElem? hx))

end
end Go.Ab
