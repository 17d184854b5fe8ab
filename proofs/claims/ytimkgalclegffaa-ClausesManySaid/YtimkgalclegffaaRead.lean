/-
What an argument is, as it lies in memory: by its type, one reader of each kind of type.
-/
import Derived.Test.YtimkgalclegffaaLaw
import Derived.ChangeArms
import GoSem.ClaimJoined
namespace Go.Ab
open Go

/-- Each string, slice and map that is read weighs no more than what a machine reaches. -/
def light (P : Program) (t : TypeId) {H : Type} (d : DataW H) : Prop := ∀ n ∈ d.weights P t, n ≤ reachBytes

theorem light_all {P : Program} {e : TypeId} {H : Type} {l : List (DataW H)} (h : ∀ n ∈ DataW.weightsAll P e l, n ≤ reachBytes) : ∀ d ∈ l, light P e d := by
  induction l with
  | nil => intro d hd; simp at hd
  | cons a l ih =>
    intro d hd n hn
    unfold DataW.weightsAll at h
    rcases List.mem_cons.1 hd with rfl | hd
    · exact h n (List.mem_append_left _ hn)
    · exact ih (fun m hm => h m (List.mem_append_right _ hm)) d hd n hn

theorem light_each {P : Program} {H : Type} : ∀ {ts : List TypeId} {l : List (DataW H)}, (∀ n ∈ DataW.weightsEach P ts l, n ≤ reachBytes) → ∀ (i : Nat) t d, ts[i]? = some t → l[i]? = some d → light P t d
  | [], l, h, i, t, d, h1, h2 => by simp at h1
  | t :: ts, [], h, i, u, d, h1, h2 => by simp at h2
  | t :: ts, a :: l, h, i, u, d, h1, h2 => by
    unfold DataW.weightsEach at h
    cases i with
    | zero =>
      simp at h1 h2
      subst h1; subst h2
      exact fun n hn => h n (List.mem_append_left _ hn)
    | succ i =>
      simp at h1 h2
      exact light_each (fun n hn => h n (List.mem_append_right _ hn)) i u d h1 h2

/-- The reading of a type's cells, at so much fuel: what is there are the cells of a list of which 'Q' tells. -/
def ReadsAt (P : Program) (W : World) (fuel : Nat) (t : TypeId) (Q : List PV → Prop) : Prop :=
  ∀ (H : Type) (enc : TypeId × Value → H) (held : Bool) (cs : List Value) (x : DataW H × List MemPlace),
    DataW.trod enc P W 0 (fun _ => true) held fuel t cs = some x → light P t x.1 → ∃ p, Q p ∧ Reps (limW W) W cs.toArray p

section
variable {P : Program} {W : World} {fuel : Nat} {t : TypeId}

theorem reps_one {lim : Nat → Nat} {v : Value} {p : PV} (h : PRep lim W v p) : Reps lim W [v].toArray [p] :=
  ⟨rfl, fun i u q h1 h2 => by
    cases i with
    | zero => simp at h1 h2; subst h1; subst h2; exact h
    | succ i => simp at h1⟩

theorem ReadsAt.mono {Q Q' : List PV → Prop} (h : ReadsAt P W fuel t Q) (k : ∀ p, Q p → Q' p) : ReadsAt P W fuel t Q' := fun H enc held cs x hx hw =>
  let ⟨p, hp, hr⟩ := h H enc held cs x hx hw
  ⟨p, k p hp, hr⟩

theorem ReadsAt.int {k : IntKind} (ht : P.underlying t = some (.int k)) : ReadsAt P W fuel t fun p => ∃ n, inR k n ∧ p = [.int k n] := by
  intro H enc held cs x hx hlt
  obtain ⟨n, rfl, -, hw⟩ := DataW.trod_int ht hx
  simp only [Lit.wf, Bool.and_eq_true, decide_eq_true_eq] at hw
  exact ⟨_, ⟨n, hw, rfl⟩, reps_one (.int k n)⟩

theorem ReadsAt.bool (ht : P.underlying t = some .bool) : ReadsAt P W fuel t fun p => ∃ b, p = [.bool b] := by
  intro H enc held cs x hx hlt
  obtain ⟨b, rfl, -⟩ := DataW.trod_bool ht hx
  exact ⟨_, ⟨b, rfl⟩, reps_one (.bool b)⟩

theorem ReadsAt.string (ht : P.underlying t = some .string) : ReadsAt P W fuel t fun p => ∃ s : ByteArray, p = [.str s] := by
  intro H enc held cs x hx hlt
  obtain ⟨s, rfl, -, _⟩ := DataW.trod_string ht hx
  exact ⟨_, ⟨s, rfl⟩, reps_one (.str s)⟩

theorem add_at {a : Addr} {n : Nat} (h : a.spot = none) : a.add n = ⟨a.block, a.off + n, none⟩ := by
  unfold Addr.add
  split
  · rename_i h0
    subst h0
    cases a
    simp_all
  · rfl

theorem cells_get {w : World} {a : Addr} {n : Nat} {cs : List Value} (h : w.cells? 0 a n = some cs) : cs.length = n ∧ ∀ j, j < n → w.cell? (a.add j) = cs[j]? := by
  unfold World.cells? at h
  rw [if_pos (Nat.zero_le _)] at h
  refine ⟨by simpa using mapM_some_length h, fun j hj => mapM_some_get h j j (by simp [hj])⟩

/-- A slice of so many cells an element. -/
theorem ReadsAt.slice {e : TypeId} {Q : List PV → Prop} {n : Nat} (ht : P.underlying t = some (.slice e)) (hn : P.cellsOf e = n) (h0 : 0 < n) (hq : ∀ m, m < fuel → ReadsAt P W m e Q) (hl : ∀ p, Q p → p.length = n) :
    ReadsAt P W fuel t fun p => ∃ rows : List (List PV), p = [.sl rows] ∧ (∀ r ∈ rows, Q r) ∧ rows.length < 2 ^ 63 ∧ rows.length * P.bytesOf e ≤ reachBytes := by
  intro H enc held cs x hx hlt
  rcases DataW.trod_slice ht hx with ⟨rfl, -⟩ | ⟨a, len, cap, elems, rest, m, hm, rfl, hxe, -, hlc, hcm, hel, hget, hrest, -⟩
  · exact ⟨_, ⟨[], rfl, by simp, by decide, by simp⟩, reps_one .nil0⟩
  · rw [hn] at hget
    have hw : ∀ n ∈ ((elems.map (·.1)).length + (rest.map (·.1)).length) * P.bytesOf e :: (DataW.weightsAll P e (elems.map (·.1)) ++ DataW.weightsAll P e (rest.map (·.1))), n ≤ reachBytes := by
      rw [hxe] at hlt
      unfold light DataW.weights at hlt
      rw [ht] at hlt
      simpa using hlt
    have hle : ∀ y ∈ elems, light P e y.1 := fun y hy => light_all (fun n hn => hw n (List.mem_cons_of_mem _ (List.mem_append_left _ hn))) y.1 (List.mem_map.2 ⟨y, hy, rfl⟩)
    have hwl : len * P.bytesOf e ≤ reachBytes := by
      have h1 := hw _ (List.mem_cons_self ..)
      simp only [List.length_map, hel] at h1
      exact Nat.le_trans (Nat.mul_le_mul_right _ (Nat.le_add_right ..)) h1
    have each : ∀ i, i < len → ∃ r, Q r ∧ ∃ cs, W.cells? 0 (a.add (i * n)) n = some cs ∧ Reps (limW W) W cs.toArray r := by
      intro i hi
      have h1 := hget i hi
      rw [List.getElem?_eq_getElem (by omega)] at h1
      obtain ⟨cs, hcs, htr⟩ := Option.bind_eq_some_iff.1 h1
      obtain ⟨r, hr, hrep⟩ := hq m (by omega) H enc held cs _ htr (hle _ (List.getElem_mem _))
      exact ⟨r, hr, cs, hcs, hrep⟩
    have hlen : len < 2 ^ 63 := by
      have : cap ≤ 2 ^ 63 - 1 := hcm
      omega
    rcases Nat.eq_zero_or_pos len with hz | hpos
    · subst hz
      have hrep : PRep (limW W) W (.slice (some a) 0 cap) (.sl []) := by
        by_cases hsp : a.spot = none
        · obtain ⟨b, off, sp'⟩ := a
          simp only at hsp
          subst hsp
          exact .sl b off 0 cap n [] (fun _ _ => undef) rfl hlc (by simp) (fun i j p hq => by simp [at2] at hq) fun i j p hq => by simp [at2] at hq
        · by_cases hc0 : cap = 0
          · subst hc0; exact .sl0 a
          · exfalso
            obtain ⟨r1, r2⟩ := hrest rfl
            have h1 := r2 0 (by omega)
            rw [List.getElem?_eq_getElem (by omega), hn] at h1
            obtain ⟨cs, hcs, -⟩ := Option.bind_eq_some_iff.1 h1
            obtain ⟨c1, c2⟩ := cells_get hcs
            have h2 := c2 0 h0
            rw [List.getElem?_eq_getElem (by omega)] at h2
            simp only [Nat.add_zero, Nat.zero_mul] at h2
            have h3 := (limW_cell h2).2
            exact hsp (by simpa [Addr.add] using h3)
      exact ⟨_, ⟨[], rfl, by simp, by decide, by simp⟩, reps_one hrep⟩
    · have hspot : a.spot = none := by
        obtain ⟨r, hr, cs, hcs, hrep⟩ := each 0 hpos
        obtain ⟨h1, h2⟩ := cells_get hcs
        have := h2 0 h0
        rw [List.getElem?_eq_getElem (by omega)] at this
        simp only [Nat.zero_mul] at this
        have h3 := (limW_cell this).2
        simpa [Addr.add] using h3
      let f : Nat → List PV := fun i => if h : i < len then (each i h).choose else []
      have fQ : ∀ i (h : i < len), f i = (each i h).choose := fun i h => by simp [f, h]
      let g : Nat → List Value := fun i => if h : i < len then (each i h).choose_spec.2.choose else []
      have gQ : ∀ i (h : i < len), g i = (each i h).choose_spec.2.choose := fun i h => by simp [g, h]
      have row : ∀ i, i < len → ((List.range len).map f)[i]? = some (f i) := fun i hi => by simp [hi]
      have rowQ : ∀ i, i < len → Q (f i) := fun i hi => by rw [fQ i hi]; exact (each i hi).choose_spec.1
      have rowC : ∀ i, i < len → W.cells? 0 (a.add (i * n)) n = some (g i) ∧ Reps (limW W) W (g i).toArray (f i) := fun i hi => by
        rw [fQ i hi, gQ i hi]
        exact (each i hi).choose_spec.2.choose_spec
      have hat : ∀ i j p, at2 ((List.range len).map f) i j = some p → i < len ∧ (f i)[j]? = some p := by
        intro i j p hq
        unfold at2 at hq
        obtain ⟨r, hr, hj⟩ := Option.bind_eq_some_iff.1 hq
        have hi : i < len := by have := (List.getElem?_eq_some_iff.1 hr).1; simpa using this
        rw [row i hi] at hr
        obtain rfl := Option.some.inj hr
        exact ⟨hi, hj⟩
      have cellAt : ∀ i j p, at2 ((List.range len).map f) i j = some p → W.cell? ⟨a.block, a.off + i * n + j, none⟩ = some ((g i).getD j undef) ∧ PRep (limW W) W ((g i).getD j undef) p := by
        intro i j p hq
        obtain ⟨hi, hj⟩ := hat i j p hq
        obtain ⟨h1, h2, h3⟩ := rowC i hi
        obtain ⟨c1, c2⟩ := cells_get h1
        have hjn : j < n := by rw [← hl _ (rowQ i hi)]; exact (List.getElem?_eq_some_iff.1 hj).1
        have hc := c2 j hjn
        have hgj := List.getElem?_eq_getElem (l := g i) (i := j) (by omega)
        rw [add_at hspot, add_at (by rfl)] at hc
        rw [hgj] at hc
        have hgd : (g i).getD j undef = (g i)[j]'(by omega) := by rw [List.getD_eq_getElem?_getD, hgj]; rfl
        rw [hgd]
        exact ⟨hc, h3 j _ p (by rw [List.getElem?_toArray]; exact hgj) hj⟩
      refine ⟨_, ⟨(List.range len).map f, rfl, fun r hr => ?_, by rw [List.length_map, List.length_range]; exact ⟨hlen, hwl⟩⟩, reps_one ?_⟩
      · obtain ⟨i, hi, rfl⟩ := List.mem_map.1 hr
        exact rowQ i (List.mem_range.1 hi)
      · have ha : a = ⟨a.block, a.off, none⟩ := by
          obtain ⟨b, off, sp⟩ := a
          have hspot : sp = none := hspot
          rw [hspot]
        rw [ha]
        refine .sl a.block a.off len cap n _ (fun i j => (g i).getD j undef) (by simp) hlc (fun r hr => ?_) (fun i j p hq => ?_) fun i j p hq => (cellAt i j p hq).2
        · obtain ⟨i, hi, rfl⟩ := List.mem_map.1 hr
          exact hl _ (rowQ i (List.mem_range.1 hi))
        · have := (cellAt i j p hq).1
          exact ⟨this, (limW_cell this).1⟩

/-! ### structs, arrays -/

/-- One after the other. -/
def InTurn : List (List PV → Prop) → List PV → Prop
  | [], p => p = []
  | Q :: Qs, p => ∃ a b, p = a ++ b ∧ Q a ∧ InTurn Qs b

theorem reps_append {lim : Nat → Nat} {X Y : List Value} {p q : List PV} (h : Reps lim W X.toArray p) (k : Reps lim W Y.toArray q) : Reps lim W (X ++ Y).toArray (p ++ q) := by
  obtain ⟨h1, h2⟩ := h
  obtain ⟨k1, k2⟩ := k
  simp only [List.size_toArray] at h1 k1
  refine ⟨by simp [h1, k1], fun i v x hv hx => ?_⟩
  simp only [List.getElem?_toArray] at hv
  rcases Nat.lt_or_ge i X.length with hi | hi
  · rw [List.getElem?_append_left hi] at hv
    rw [List.getElem?_append_left (by omega)] at hx
    exact h2 i v x (by simpa using hv) hx
  · rw [List.getElem?_append_right hi] at hv
    rw [List.getElem?_append_right (by omega), ← h1] at hx
    exact k2 _ v x (by simpa using hv) hx

/-- Parts that stand one behind the other, each read. -/
theorem reads_turn {cs : List Value} : ∀ (l : List (Nat × Nat × (List PV → Prop))) (off : Nat), (∀ (i o n : Nat) (Q : List PV → Prop), l[i]? = some (o, n, Q) → ∃ p, Q p ∧ Reps (limW W) W ((cs.drop o).take n).toArray p) →
    (∀ (i o n : Nat) (Q : List PV → Prop), l[i]? = some (o, n, Q) → o = off + ((l.take i).map (·.2.1)).sum) → ∃ p, InTurn (l.map (·.2.2)) p ∧ Reps (limW W) W ((cs.drop off).take ((l.map (·.2.1)).sum)).toArray p
  | [], off, _, _ => ⟨[], rfl, by simp, by simp⟩
  | (o, n, Q) :: l, off, h, ho => by
    obtain ⟨p, hp, hr⟩ := h 0 o n Q rfl
    have h0 := ho 0 o n Q rfl
    simp at h0
    subst h0
    obtain ⟨q, hq, hs⟩ := reads_turn l (o + n) (fun i o' n' Q' hi => h (i + 1) o' n' Q' (by simpa using hi)) (fun i o' n' Q' hi => by
      have := ho (i + 1) o' n' Q' (by simpa using hi)
      simp only [List.take_succ_cons, List.map_cons, List.sum_cons] at this
      omega)
    refine ⟨p ++ q, ⟨p, q, rfl, hp, hq⟩, ?_⟩
    have := reps_append hr hs
    simp only [List.map_cons, List.sum_cons]
    rw [List.take_add, List.drop_drop]
    exact this

/-- A struct: its fields stand one behind the other. -/
theorem ReadsAt.struct {fs : Array Field} {Qs : List (List PV → Prop)} (ht : P.underlying t = some (.struct fs)) (hl : Qs.length = fs.size) (hq : ∀ m, m < fuel → ∀ (i : Nat) f Q, fs[i]? = some f → Qs[i]? = some Q → ReadsAt P W m f.type Q)
    (ho : ∀ (i : Nat) f, fs[i]? = some f → f.offset = ((fs.toList.take i).map fun f => P.cellsOf f.type).sum) (hs : (fs.toList.map fun f => P.cellsOf f.type).sum = P.cellsOf t) : ReadsAt P W fuel t (InTurn Qs) := by
  intro H enc held cs x hx hlt
  obtain ⟨xs, m, hm, hxe, hcl, hxl, hget⟩ := DataW.trod_struct ht hx
  have hw : ∀ n ∈ DataW.weightsEach P (fs.toList.map (·.type)) (xs.map (·.1)), n ≤ reachBytes := by
    rw [hxe] at hlt
    unfold light DataW.weights at hlt
    rw [ht] at hlt
    exact hlt
  have hz : ∀ (i o n : Nat) (Q : List PV → Prop), ((fs.toList.zip Qs).map fun (f, Q) => (f.offset, P.cellsOf f.type, Q))[i]? = some (o, n, Q) → ∃ f, fs[i]? = some f ∧ Qs[i]? = some Q ∧ o = f.offset ∧ n = P.cellsOf f.type := by
    intro i o n Q h
    rw [List.getElem?_map] at h
    obtain ⟨⟨f, Q'⟩, hfq, he⟩ := Option.map_eq_some_iff.1 h
    simp only [Prod.mk.injEq] at he
    obtain ⟨rfl, rfl, rfl⟩ := he
    rw [List.getElem?_zip_eq_some] at hfq
    exact ⟨f, by simpa using hfq.1, hfq.2, rfl, rfl⟩
  have hm1 : (((fs.toList.zip Qs).map fun (f, Q) => ((f.offset, P.cellsOf f.type, Q) : Nat × Nat × (List PV → Prop))).map (·.2.1)) = fs.toList.map fun f => P.cellsOf f.type := by
    rw [List.map_map]
    have : (fun x : Nat × Nat × (List PV → Prop) => x.2.1) ∘ (fun x : Field × (List PV → Prop) => (x.1.offset, P.cellsOf x.1.type, x.2)) = (fun f : Field => P.cellsOf f.type) ∘ Prod.fst := rfl
    show List.map ((fun x : Nat × Nat × (List PV → Prop) => x.2.1) ∘ (fun x : Field × (List PV → Prop) => (x.1.offset, P.cellsOf x.1.type, x.2))) _ = _
    rw [this, ← List.map_map, List.map_fst_zip (by simp [hl])]
  have hm2 : (((fs.toList.zip Qs).map fun (f, Q) => ((f.offset, P.cellsOf f.type, Q) : Nat × Nat × (List PV → Prop))).map (·.2.2)) = Qs := by
    rw [List.map_map]
    show List.map Prod.snd _ = _
    rw [List.map_snd_zip (by simp [hl])]
  obtain ⟨p, hp, hr⟩ := reads_turn (W := W) (cs := cs) ((fs.toList.zip Qs).map fun (f, Q) => (f.offset, P.cellsOf f.type, Q)) 0 (fun i o n Q h => by
    obtain ⟨f, hf, hQ, rfl, rfl⟩ := hz i o n Q h
    have h1 := hget i f hf
    have hi : i < xs.length := by rw [hxl]; exact (Array.getElem?_eq_some_iff.1 hf).1
    rw [List.getElem?_eq_getElem hi] at h1
    exact hq m (by omega) i f Q hf hQ H enc held _ _ h1 (light_each hw i f.type _ (by simp [hf]) (by rw [List.getElem?_map, List.getElem?_eq_getElem hi]; rfl))) (fun i o n Q h => by
    obtain ⟨f, hf, hQ, rfl, rfl⟩ := hz i o n Q h
    rw [Nat.zero_add, List.map_take, hm1, ← List.map_take]
    exact ho i f hf)
  rw [hm2] at hp
  refine ⟨p, hp, ?_⟩
  rw [hm1, hs, List.drop_zero, ← hcl, List.take_length] at hr
  exact hr

/-- Do the fields stand one behind the other? -/
def turned (P : Program) (t : TypeId) (fs : Array Field) : Bool :=
  (List.range fs.size).all (fun i => match fs[i]? with | some f => f.offset == ((fs.toList.take i).map fun f => P.cellsOf f.type).sum | none => true) && (fs.toList.map fun f => P.cellsOf f.type).sum == P.cellsOf t

theorem ReadsAt.struct' {fs : Array Field} {Qs : List (List PV → Prop)} (ht : P.underlying t = some (.struct fs)) (hl : Qs.length = fs.size) (hb : turned P t fs = true)
    (hq : ∀ m, m < fuel → ∀ (i : Nat) f Q, fs.toList[i]? = some f → Qs[i]? = some Q → ReadsAt P W m f.type Q) : ReadsAt P W fuel t (InTurn Qs) := by
  simp only [turned, Bool.and_eq_true, List.all_eq_true, List.mem_range, beq_iff_eq] at hb
  refine ReadsAt.struct ht hl (fun m hm i f Q hf hQ => hq m hm i f Q (by simpa using hf) hQ) (fun i f hf => ?_) hb.2
  have := hb.1 i (Array.getElem?_eq_some_iff.1 hf).1
  rw [hf] at this
  simpa using this

theorem trod_array {H : Type} {enc : TypeId × Value → H} {spare : Nat → Bool} {held : Bool} {cs : List Value} {x : DataW H × List MemPlace} {n : Nat} {e : TypeId} (ht : P.underlying t = some (.array n e)) (h : DataW.trod enc P W 0 spare held fuel t cs = some x) :
    ∃ (xs : List (DataW H × List MemPlace)) (m : Nat), fuel = m + 1 ∧ x.1 = .agg (xs.map (·.1)) ∧ cs.length = P.cellsOf t ∧ ∀ (i : Nat), i < n → ∃ y ∈ xs, DataW.trod enc P W 0 spare held m e ((cs.drop (i * P.cellsOf e)).take (P.cellsOf e)) = some y := by
  cases fuel with
  | zero => simp [DataW.trod] at h
  | succ m =>
    unfold DataW.trod at h
    rw [ht] at h
    split at h <;> simp_all
    obtain ⟨hl, xs, hp, hd⟩ := h
    refine ⟨xs, by rw [← hd], fun i hi => ?_⟩
    have := mapM_some_get hp i i (by simp [hi])
    have hlen := mapM_some_length hp
    rw [List.length_range] at hlen
    rw [List.getElem?_eq_getElem (by omega)] at this
    exact ⟨_, _, List.getElem_mem _, this⟩

/-- An array. -/
theorem ReadsAt.array {n : Nat} {e : TypeId} {Q : List PV → Prop} (ht : P.underlying t = some (.array n e)) (hq : ∀ m, m < fuel → ReadsAt P W m e Q) (hs : n * P.cellsOf e = P.cellsOf t) : ReadsAt P W fuel t (InTurn (List.replicate n Q)) := by
  intro H enc held cs x hx hlt
  obtain ⟨xs, m, hm, hxe, hcl, hget⟩ := trod_array ht hx
  have hw : ∀ n ∈ DataW.weightsAll P e (xs.map (·.1)), n ≤ reachBytes := by
    unfold light at hlt
    rw [hxe] at hlt
    unfold DataW.weights at hlt
    rw [ht] at hlt
    exact hlt
  have hz : ∀ (i o k : Nat) (Q' : List PV → Prop), ((List.range n).map fun i => (i * P.cellsOf e, P.cellsOf e, Q))[i]? = some (o, k, Q') → i < n ∧ o = i * P.cellsOf e ∧ k = P.cellsOf e ∧ Q' = Q := by
    intro i o k Q' h
    rw [List.getElem?_map] at h
    obtain ⟨j, hj, he⟩ := Option.map_eq_some_iff.1 h
    simp only [Prod.mk.injEq] at he
    have hi : i < n := by have := (List.getElem?_eq_some_iff.1 hj).1; simpa using this
    rw [List.getElem?_range hi] at hj
    obtain rfl := Option.some.inj hj
    exact ⟨hi, he.1.symm, he.2.1.symm, he.2.2.symm⟩
  have hm1 : (((List.range n).map fun i => ((i * P.cellsOf e, P.cellsOf e, Q) : Nat × Nat × (List PV → Prop))).map (·.2.1)) = List.replicate n (P.cellsOf e) := by
    rw [List.map_map]
    apply List.ext_getElem <;> simp
  have hm2 : (((List.range n).map fun i => ((i * P.cellsOf e, P.cellsOf e, Q) : Nat × Nat × (List PV → Prop))).map (·.2.2)) = List.replicate n Q := by
    rw [List.map_map]
    apply List.ext_getElem <;> simp
  obtain ⟨p, hp, hr⟩ := reads_turn (W := W) (cs := cs) ((List.range n).map fun i => (i * P.cellsOf e, P.cellsOf e, Q)) 0 (fun i o k Q' h => by
    obtain ⟨hi, rfl, rfl, rfl⟩ := hz i o k Q' h
    obtain ⟨y, hyx, hy⟩ := hget i hi
    exact hq m (by omega) H enc held _ _ hy (light_all hw y.1 (List.mem_map.2 ⟨y, hyx, rfl⟩))) (fun i o k Q' h => by
    obtain ⟨hi, rfl, rfl, rfl⟩ := hz i o k Q' h
    rw [Nat.zero_add, List.map_take, hm1, List.take_replicate, Nat.min_eq_left (by omega), List.sum_replicate_nat])
  rw [hm2] at hp
  refine ⟨p, hp, ?_⟩
  rw [hm1, List.sum_replicate_nat, hs, List.drop_zero, ← hcl, List.take_length] at hr
  exact hr

/-! ### an argument -/

theorem arg_one {H : Type} {enc : TypeId × Value → H} {held : Bool} {v : Value} {d : DataW H} {ps : List MemPlace} {Q : List PV → Prop} (h : DataW.Trod enc P W 0 (fun _ => true) held t v d ps) (hw : light P t d) (hq : ∀ m, ReadsAt P W m t Q) (hv : v.cells = #[v]) (h1 : ∀ p, Q p → ∃ x, p = [x]) :
    ∃ x, Q [x] ∧ ARep ⟨limW W, [], [], []⟩ [] W v (.v x) := by
  obtain ⟨m, hm⟩ := h
  obtain ⟨p, hp, hr⟩ := hq m H enc held _ _ hm hw
  obtain ⟨x, rfl⟩ := h1 p hp
  rw [Array.toArray_toList, hv] at hr
  exact ⟨x, hp, .v (hr.2 0 v x rfl rfl)⟩

theorem arg_agg {H : Type} {enc : TypeId × Value → H} {held : Bool} {X : Array Value} {d : DataW H} {ps : List MemPlace} {Q : List PV → Prop} (h : DataW.Trod enc P W 0 (fun _ => true) held t (.agg X) d ps) (hw : light P t d) (hq : ∀ m, ReadsAt P W m t Q) :
    ∃ p, Q p ∧ ARep ⟨limW W, [], [], []⟩ [] W (.agg X) (.agg p) := by
  obtain ⟨m, hm⟩ := h
  obtain ⟨p, hp, hr⟩ := hq m H enc held _ _ hm hw
  rw [Array.toArray_toList] at hr
  exact ⟨p, hp, .agg hr.1 hr.2⟩

theorem okWide_struct {r : Reach} {base : Nat} {v : Value} {fs : Array Field} (ht : P.underlying t = some (.struct fs)) (h : Value.okWide P W r base t v) : ∃ X, v = .agg X := by
  unfold Value.okWide at h
  rw [ht] at h
  obtain ⟨X, hX, _⟩ := h
  exact ⟨X, hX⟩

theorem okWide_array {r : Reach} {base : Nat} {v : Value} {n : Nat} {e : TypeId} (ht : P.underlying t = some (.array n e)) (h : Value.okWide P W r base t v) : ∃ X, v = .agg X := by
  unfold Value.okWide at h
  rw [ht] at h
  obtain ⟨X, hX, _⟩ := h
  exact ⟨X, hX⟩

theorem okWide_int {r : Reach} {base : Nat} {v : Value} {k : IntKind} (ht : P.underlying t = some (.int k)) (h : Value.okWide P W r base t v) : v.cells = #[v] := by
  cases v with
  | agg cs => exact absurd h (by simp [Value.okWide, Cell.okWide, Cell.ok, ht])
  | _ => rfl

theorem okWide_bool {r : Reach} {base : Nat} {v : Value} (ht : P.underlying t = some .bool) (h : Value.okWide P W r base t v) : v.cells = #[v] := by
  cases v with
  | agg cs => exact absurd h (by simp [Value.okWide, Cell.okWide, Cell.ok, ht])
  | _ => rfl

theorem okWide_slice {r : Reach} {base : Nat} {v : Value} {e : TypeId} (ht : P.underlying t = some (.slice e)) (h : Value.okWide P W r base t v) : v.cells = #[v] := by
  cases v with
  | agg cs => exact absurd h (by simp [Value.okWide, Cell.okWide, Cell.ok, ht])
  | _ => rfl

theorem okWide_string {r : Reach} {base : Nat} {v : Value} (ht : P.underlying t = some .string) (h : Value.okWide P W r base t v) : v.cells = #[v] := by
  cases v with
  | agg cs => exact absurd h (by simp [Value.okWide, Cell.okWide, Cell.ok, ht])
  | _ => rfl

theorem reps2_nil {G : Gh} {toks : List (Option Nat)} : Reps2 G toks W [] [] := ⟨rfl, fun i v a h => by simp at h⟩
theorem reps2_cons {G : Gh} {toks : List (Option Nat)} {v : Value} {a : AV} {vs : List Value} {l : List AV} (h : ARep G toks W v a) (k : Reps2 G toks W vs l) : Reps2 G toks W (v :: vs) (a :: l) :=
  ⟨by simp [k.1], fun i u b hu hb => by
    cases i with
    | zero => simp at hu hb; subst hu; subst hb; exact h
    | succ i => simp at hu hb; exact k.2 i u b hu hb⟩

end
end Go.Ab
