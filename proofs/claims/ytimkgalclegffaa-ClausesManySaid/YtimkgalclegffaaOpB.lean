/-
The plain operations on numbers, bools, texts, structs, slices: what they come to is what the evaluator says.
-/
import Derived.Test.YtimkgalclegffaaOpA
import Derived.Laws.BytesString
namespace Go.Ab
open Go

section
variable {P : Program} {w0 : World} {lim0 : Nat → Nat} {O : Nat → Prop} {G : Gh} {toks : List (Option Nat)} {outer heap : List (List AV)} {w : World}

theorem run_cmpI {op : BinOp} {t : TypeId} {k : IntKind} {a b : Int} {B : Bool} (h : cmpI op a b = some B) (w : World) : (binOp op t (.int k a) (.int k b)).run P w = .ok (.bool B) w := by
  cases op <;> simp [cmpI] at h <;> subst h <;> simp [binOp, Op.intCmp]

theorem run_bitsI {op : BinOp} {k : IntKind} {a b n : Int} (h : bitsI op k a b = some n) (w : World) : (Op.intBits op k a b).run P w = .ok (.int k n) w := by
  cases op <;> simp [bitsI] at h <;> subst h <;> simp [Op.intBits]

theorem wrap_inR {k : IntKind} {n : Int} (h : inR k n) : k.wrap n = n := by
  unfold inR at h
  obtain ⟨h1, h2⟩ := h
  cases k <;> simp [IntKind.min, IntKind.max, IntKind.signed, IntKind.bits] at h1 h2 <;> simp [IntKind.wrap, IntKind.signed, IntKind.bits] <;> omega

theorem run_arithI {op : BinOp} {t : TypeId} {k : IntKind} {a b n : Int} {kd : Kd} {l : List Prop} (hc : cmpI op a b = none) (h : arithI op k a b kd = some (n, l)) (ho : ∀ q ∈ l, q) (hs : op ≠ .shl) (hs' : op ≠ .shr) (w : World) :
    (binOp op t (.int k a) (.int k b)).run P w = .ok (.int k n) w := by
  have put : ∀ m : Int, (match kd.isNw with | true => some (m, [inR k m]) | false => some (k.wrap m, [])) = some (n, l) → k.wrap m = n := by
    intro m hm
    cases hn : kd.isNw with
    | true =>
      rw [hn] at hm
      simp at hm
      obtain ⟨rfl, rfl⟩ := hm
      exact wrap_inR (ho _ (by simp))
    | false =>
      rw [hn] at hm
      simp at hm
      exact hm.1
  cases op <;> simp only [arithI] at h
  case add => have := put _ h; simp [binOp, Op.intArith, this]
  case sub => have := put _ h; simp [binOp, Op.intArith, this]
  case mul => have := put _ h; simp [binOp, Op.intArith, this]
  case quo => obtain ⟨rfl, hy⟩ := under_some h ho; simp [binOp, Op.intDiv, hy]
  case rem => obtain ⟨rfl, hy⟩ := under_some h ho; simp [binOp, Op.intDiv, hy]
  case shl => exact absurd rfl hs
  case shr => exact absurd rfl hs'
  case and => simp at h; obtain ⟨m, hm, rfl, rfl⟩ := h; have := run_bitsI (P := P) hm w; simp [binOp, this]
  case or => simp at h; obtain ⟨m, hm, rfl, rfl⟩ := h; have := run_bitsI (P := P) hm w; simp [binOp, this]
  case xor => simp at h; obtain ⟨m, hm, rfl, rfl⟩ := h; have := run_bitsI (P := P) hm w; simp [binOp, this]
  case andNot => simp at h; obtain ⟨m, hm, rfl, rfl⟩ := h; have := run_bitsI (P := P) hm w; simp [binOp, this]
  all_goals simp [cmpI] at hc

theorem run_shift {op : BinOp} {t : TypeId} {k k' : IntKind} {a b n : Int} {kd : Kd} {l : List Prop} (hop : op = .shl ∨ op = .shr) (h : arithI op k a b kd = some (n, l)) (ho : ∀ q ∈ l, q) (w : World) :
    (binOp op t (.int k a) (.int k' b)).run P w = .ok (.int k n) w := by
  rcases hop with rfl | rfl <;> simp only [arithI] at h <;> obtain ⟨rfl, hy⟩ := under_some h ho <;> simp [binOp, Op.shift, Int.not_lt.2 hy]

theorem run_cmpS {op : BinOp} {t : TypeId} {a b : ByteArray} {B : Bool} (h : cmpS op a b = some B) (w : World) : (binOp op t (.string a) (.string b)).run P w = .ok (.bool B) w := by
  cases op <;> simp only [cmpS] at h <;> first | (simp at h; done) | (simp only [Option.some.injEq] at h; subst h; simp [binOp, Op.stringOp])

theorem run_eqGuard_int {op : BinOp} {t : TypeId} {x y : Operand} {k k' : IntKind} {a b : Int} (w : World) : (eqGuard op t x y (.int k a) (.int k' b)).run P w = .ok () w := by cases op <;> simp [eqGuard]
theorem run_eqGuard_str {op : BinOp} {t : TypeId} {x y : Operand} {a b : ByteArray} (w : World) : (eqGuard op t x y (.string a) (.string b)).run P w = .ok () w := by cases op <;> simp [eqGuard]
theorem run_eqGuard_bool {op : BinOp} {t : TypeId} {x y : Operand} {a b : Bool} (w : World) : (eqGuard op t x y (.bool a) (.bool b)).run P w = .ok () w := by cases op <;> simp [eqGuard]

/-! ### structs -/

theorem fieldsOf_eq {t : TypeId} {fs : Array Field} (h : P.underlying t = some (.struct fs)) : P.fieldsOf t = fs := by simp [Program.fieldsOf, h]

/-- The elements of arrays, one by one. -/
def eqRun (d : Nat) (e : TypeId) (n : Nat) (X Y : Array Value) : Nat → Nat → Sem Bool
  | 0, _ => pure true
  | k + 1, i => do
    let a ← part e X (i * n)
    let b ← part e Y (i * n)
    let r ← Op.equalIn d e a b
    if (!r) = true then pure false else eqRun d e n X Y k (i + 1)

theorem run_equalIn_array (w : World) (d : Nat) (t : TypeId) (X Y : Array Value) {len e n : Nat} (ht : P.underlying t = some (.array len e)) (hs : sizeT P e = some n) :
    (Op.equalIn (d + 1) t (.agg X) (.agg Y)).run P w = (eqRun d e n X Y len 0).run P w := by
  have hz : (Go.sizeOf e).run P w = .ok n w := by
    unfold sizeT at hs
    obtain ⟨i, hi, rfl⟩ := Option.map_eq_some_iff.1 hs
    simp [Go.sizeOf, typeInfo, hi]
  simp only [Op.equalIn, Sem.run_bind, run_underlying ht, hz, Result.andThen_ok, Std.Legacy.Range.forIn_eq_forIn_range', Std.Legacy.Range.size, Nat.sub_zero, Nat.add_sub_cancel, Nat.div_one]
  clear hz ht
  generalize 0 = i
  induction len generalizing w i with
  | zero => simp [eqRun]
  | succ len ih =>
    simp only [List.range'_succ, List.forIn_cons, eqRun, Sem.run_bind, Sem.run_ite]
    generalize (part e X (i * n)).run P w = r1
    cases r1 with
    | ok a w1 =>
      simp only [Result.andThen_ok]
      generalize (part e Y (i * n)).run P w1 = r2
      cases r2 with
      | ok b w2 =>
        simp only [Result.andThen_ok]
        generalize (Op.equalIn d e a b).run P w2 = r3
        cases r3 with
        | ok r w3 =>
          cases r
          · simp only [Result.andThen_ok, Bool.not_false, if_true, Sem.run_pure]
          · simp only [Result.andThen_ok, Bool.not_true, Bool.false_eq_true, if_false, Sem.run_pure]
            exact ih w3 (i + 1)
        | halt x w3 => simp [Result.andThen]
      | halt x w2 => simp [Result.andThen]
    | halt x w1 => simp [Result.andThen]

/-- The value of a type of which the cells are 'X'. -/
def asVal (agg : Bool) (X : Array Value) : Value := if agg then .agg X else X.getD 0 undef

theorem eqT_nz {d : Nat} {t : TypeId} {xs ys : List PV} {A : Bool} (hA : eqT P d t xs ys = some A) (hag : isAggT P t = some false) : xs.length ≠ 0 ∧ ys.length ≠ 0 := by
  cases d with
  | zero => simp [eqT] at hA
  | succ d =>
    simp only [eqT] at hA
    split at hA
    · simp
    · simp
    · simp
    · rename_i hu2; simp [isAggT, hu2] at hag
    · rename_i hu2; simp [isAggT, hu2] at hag
    · simp at hA

theorem part_run {w : World} {Z : Array Value} {t o n : Nat} {ag : Bool} (hag : isAggT P t = some ag) (hs : sizeT P t = some n) (hz : ag = false → (Z.extract o (o + n)).size ≠ 0) : (part t Z o).run P w = .ok (asVal ag (Z.extract o (o + n))) w := by
  cases ag with
  | true => simp [asVal, run_part_agg hag hs]
  | false =>
    have hz := hz rfl
    have hlt : o < Z.size := by simp at hz; omega
    have hn0 : n ≠ 0 := by intro h0; apply hz; rw [Array.size_extract, h0]; omega
    have e : asVal false (Z.extract o (o + n)) = Z[o] := by
      simp only [asVal, Bool.false_eq_true, if_false]
      rw [Array.getD_eq_getD_getElem?, Array.getElem?_extract, if_pos (by omega)]
      simp [hlt]
    rw [e]
    exact run_part_one hag (Array.getElem?_eq_getElem hlt) w

theorem cells_part {w : World} {lim : Nat → Nat} {Z : Array Value} {zs : List PV} (hz : Z.size = zs.length) (hr : ∀ (i : Nat) v p, Z[i]? = some v → zs[i]? = some p → PRep lim w v p) (o n : Nat) :
    (Z.extract o (o + n)).size = ((zs.drop o).take n).length ∧ (∀ (i : Nat) v p, (Z.extract o (o + n))[i]? = some v → ((zs.drop o).take n)[i]? = some p → PRep lim w v p) := by
  refine ⟨by simp; omega, fun i v p h1 h2 => ?_⟩
  rw [Array.getElem?_extract] at h1
  split at h1 <;> (try (simp at h1; done))
  rw [List.getElem?_take] at h2
  split at h2 <;> (try (simp at h2; done))
  rw [List.getElem?_drop] at h2
  exact hr _ _ _ h1 h2

theorem eqT_run : ∀ (d : Nat) (t : TypeId) (xs ys : List PV) (B : Bool), eqT P d t xs ys = some B → ∀ (D : Nat), d ≤ D → ∀ (X Y : Array Value),
    X.size = xs.length → Y.size = ys.length → (∀ (i : Nat) v p, X[i]? = some v → xs[i]? = some p → PRep G.lim w v p) → (∀ (i : Nat) v p, Y[i]? = some v → ys[i]? = some p → PRep G.lim w v p) →
    ∃ ag, isAggT P t = some ag ∧ (Op.equalIn D t (asVal ag X) (asVal ag Y)).run P w = .ok B w := by
  intro d
  induction d with
  | zero => intro t xs ys B h; simp [eqT] at h
  | succ d ih =>
    intro t xs ys B h D hD X Y hX hY hx hy
    obtain ⟨D, rfl⟩ : ∃ m, D = m + 1 := ⟨D - 1, by omega⟩
    have one : ∀ (Z : Array Value) (zs : List PV) (p : PV), zs = [p] → Z.size = zs.length → (∀ (i : Nat) v p, Z[i]? = some v → zs[i]? = some p → PRep G.lim w v p) → ∃ v, Z.getD 0 undef = v ∧ PRep G.lim w v p := by
      intro Z zs p hz hs hr
      subst hz
      have h0 : 0 < Z.size := by simp at hs; omega
      exact ⟨Z[0], by simp [h0], hr 0 _ p (Array.getElem?_eq_getElem h0) rfl⟩
    simp only [eqT] at h
    split at h
    · rename_i a b hu
      simp at h
      obtain ⟨v, hv, hv'⟩ := one X _ _ rfl hX hx
      obtain ⟨u, hu', hu''⟩ := one Y _ _ rfl hY hy
      cases hv'
      cases hu''
      exact ⟨false, by simp [isAggT, hu], by simp [asVal, hv, hu', run_equalIn_bool' w D t a b hu, h]⟩
    · rename_i kk k a k' b hu
      split at h <;> (try (simp at h; done))
      rename_i hk
      subst hk
      simp at h
      obtain ⟨v, hv, hv'⟩ := one X _ _ rfl hX hx
      obtain ⟨u, hu', hu''⟩ := one Y _ _ rfl hY hy
      cases hv'
      cases hu''
      refine ⟨false, by simp [isAggT, hu], ?_⟩
      subst h
      simp [asVal, hv, hu', Op.equalIn, run_underlying hu]
    · rename_i a b hu
      simp at h
      obtain ⟨v, hv, hv'⟩ := one X _ _ rfl hX hx
      obtain ⟨u, hu', hu''⟩ := one Y _ _ rfl hY hy
      cases hv'
      cases hu''
      refine ⟨false, by simp [isAggT, hu], ?_⟩
      subst h
      simp [asVal, hv, hu', Op.equalIn, run_underlying hu]
    · rename_i xs ys x1 l1 l2 fields hu
      split at h <;> (try (simp at h; done))
      rename_i hst
      refine ⟨true, by simp [isAggT, hu], ?_⟩
      have hf := fieldsOf_eq hu
      simp only [asVal, if_true]
      rw [run_equalIn_struct w D t X Y (by rw [hf]; exact hu) hst, hf]
      clear hf hu
      generalize fields.toList = fs at h
      induction fs generalizing B with
      | nil => simp [eqFields] at h; subst h; simp [Op.eqFields]
      | cons f fs ihf =>
        simp only [eqFields] at h
        split at h
        · rename_i hn
          have hn' : f.name = "_" := by simpa using hn
          simp only [Op.eqFields, hn', ne_eq, not_true_eq_false, if_false]
          exact ihf B h
        · rename_i hn
          have hn' : f.name ≠ "_" := by simpa using hn
          split at h <;> (try (simp at h; done))
          rename_i n hs
          split at h <;> (try (simp at h; done))
          rename_i A C hA hC
          simp at h
          subst h
          have sub : ∀ (Z : Array Value) (zs : List PV), Z.size = zs.length → (∀ (i : Nat) v p, Z[i]? = some v → zs[i]? = some p → PRep G.lim w v p) →
              (Z.extract f.offset (f.offset + n)).size = ((zs.drop f.offset).take n).length ∧ (∀ (i : Nat) v p, (Z.extract f.offset (f.offset + n))[i]? = some v → ((zs.drop f.offset).take n)[i]? = some p → PRep G.lim w v p) := by
            intro Z zs hz hr
            refine ⟨by simp; omega, fun i v p h1 h2 => ?_⟩
            rw [Array.getElem?_extract] at h1
            split at h1 <;> (try (simp at h1; done))
            rw [List.getElem?_take] at h2
            split at h2 <;> (try (simp at h2; done))
            rw [List.getElem?_drop] at h2
            exact hr _ _ _ h1 h2
          obtain ⟨sX, rX⟩ := sub X xs hX hx
          obtain ⟨sY, rY⟩ := sub Y ys hY hy
          obtain ⟨ag, hag, hrun⟩ := ih f.type _ _ A hA D (by omega) _ _ sX sY rX rY
          have nz : ag = false → ((xs.drop f.offset).take n).length ≠ 0 ∧ ((ys.drop f.offset).take n).length ≠ 0 := fun hg => eqT_nz hA (hg ▸ hag)
          have pX := part_run (w := w) (Z := X) (o := f.offset) hag hs (fun hg => by rw [sX]; exact (nz hg).1)
          have pY := part_run (w := w) (Z := Y) (o := f.offset) hag hs (fun hg => by rw [sY]; exact (nz hg).2)
          simp only [Op.eqFields, ne_eq, hn', not_false_eq_true, if_true, Sem.run_bind, pX, pY, Result.andThen_ok, hrun]
          cases A with
          | true => simp only [Bool.not_true, Bool.false_eq_true, if_false, Bool.true_and]; exact ihf C hC
          | false => simp
    · rename_i xs ys x1 l1 l2 len e hu
      split at h <;> (try (simp at h; done))
      rename_i n hs
      refine ⟨true, by simp [isAggT, hu], ?_⟩
      simp only [asVal, if_true]
      rw [run_equalIn_array w D t X Y hu hs]
      clear hu
      generalize 0 = i at h ⊢
      induction len generalizing B i with
      | zero => simp only [eqElems, Option.some.injEq] at h; subst h; simp [eqRun]
      | succ len ihl =>
        simp only [eqElems] at h
        split at h <;> (try (simp at h; done))
        rename_i A C hA hC
        simp only [Option.some.injEq] at h
        subst h
        obtain ⟨sX, rX⟩ := cells_part hX hx (i * n) n
        obtain ⟨sY, rY⟩ := cells_part hY hy (i * n) n
        obtain ⟨ag, hag, hrun⟩ := ih e _ _ A hA D (by omega) _ _ sX sY rX rY
        have nz : ag = false → ((xs.drop (i * n)).take n).length ≠ 0 ∧ ((ys.drop (i * n)).take n).length ≠ 0 := fun hg => eqT_nz hA (hg ▸ hag)
        have pX := part_run (w := w) (Z := X) (o := i * n) hag hs (fun hg => by rw [sX]; exact (nz hg).1)
        have pY := part_run (w := w) (Z := Y) (o := i * n) hag hs (fun hg => by rw [sY]; exact (nz hg).2)
        simp only [eqRun, Sem.run_bind, pX, pY, Result.andThen_ok, hrun, Sem.run_ite]
        cases A with
        | true => simp only [Bool.not_true, Bool.false_eq_true, if_false, Bool.true_and]; exact ihl C _ hC
        | false => simp
    · simp at h

theorem sem_binOp {e : Operand → Value} {ρ : Operand → AV} {op : BinOp} {t t' : Nat} {x y : Operand} {a : AV} {l : List Prop} (hi : Inv w0 lim0 O G toks outer heap w) (hx : ARep G toks w (e x) (ρ x)) (hy : ARep G toks w (e y) (ρ y)) {k : Kd}
    (h : plain P (.binOp op t x y t') k ρ = some (a, l)) (ho : ∀ q ∈ l, q) : Plain P w0 lim0 O G toks outer heap w (do pure (.value (← (do eqGuard op t x y (e x) (e y); binOp op t (e x) (e y))))) a := by
  simp only [plain] at h
  generalize ρ x = A at hx h
  generalize ρ y = C at hy h
  generalize e x = V at hx ⊢
  generalize e y = U at hy ⊢
  have done : ∀ r : Value, (eqGuard op t x y V U).run P w = .ok () w → (binOp op t V U).run P w = .ok r w → ARep G toks w r a → Plain P w0 lim0 O G toks outer heap w (do pure (.value (← (do eqGuard op t x y V U; binOp op t V U)))) a := by
    intro r h1 h3 h4
    exact .pure hi (run_pair _ (by rw [Sem.run_bind, h1]; exact h3)) h4
  split at h
  · rename_i ka av kb bv
    have e1 := hx.int_of
    have e2 := hy.int_of
    subst e1
    subst e2
    split at h
    · obtain ⟨⟨n, l'⟩, hn, he⟩ := Option.map_eq_some_iff.1 h
      simp only [Option.some.injEq, Prod.mk.injEq] at he
      obtain ⟨rfl, rfl⟩ := he
      exact done _ (run_eqGuard_int w) (run_shift (.inl rfl) hn ho w) (.mkInt _ _)
    · obtain ⟨⟨n, l'⟩, hn, he⟩ := Option.map_eq_some_iff.1 h
      simp only [Option.some.injEq, Prod.mk.injEq] at he
      obtain ⟨rfl, rfl⟩ := he
      exact done _ (run_eqGuard_int w) (run_shift (.inr rfl) hn ho w) (.mkInt _ _)
    · rename_i hs1 hs2
      split at h <;> (try (simp at h; done))
      rename_i hk
      subst hk
      split at h
      · rename_i B hB
        simp at h
        obtain ⟨rfl, rfl⟩ := h
        exact done _ (run_eqGuard_int w) (run_cmpI hB w) (.mkBool _)
      · rename_i hc
        obtain ⟨⟨n, l'⟩, hn, he⟩ := Option.map_eq_some_iff.1 h
        simp only [Option.some.injEq, Prod.mk.injEq] at he
        obtain ⟨rfl, rfl⟩ := he
        exact done _ (run_eqGuard_int w) (run_arithI hc hn ho (fun e => hs1 e) (fun e => hs2 e) w) (.mkInt _ _)
  · have e1 := hx.str_of
    have e2 := hy.str_of
    subst e1
    subst e2
    obtain ⟨B, hB, he⟩ := Option.map_eq_some_iff.1 h
    simp only [Option.some.injEq, Prod.mk.injEq] at he
    obtain ⟨rfl, rfl⟩ := he
    exact done _ (run_eqGuard_str w) (run_cmpS hB w) (.mkBool _)
  · have e1 := hx.bool_of
    have e2 := hy.bool_of
    subst e1
    subst e2
    split at h <;> (try (simp at h; done))
    · rename_i hu
      simp at h
      obtain ⟨rfl, rfl⟩ := h
      exact done _ (run_eqGuard_bool w) (by simp [binOp, Op.equal, Op.maxDepth, run_equalIn_bool' w 9999 t _ _ hu]) (.mkBool _)
    · rename_i hu
      simp at h
      obtain ⟨rfl, rfl⟩ := h
      exact done _ (run_eqGuard_bool w) (by simp [binOp, Op.equal, Op.maxDepth, run_equalIn_bool' w 9999 t _ _ hu]) (.mkBool _)
  · rename_i xs ys
    split at h <;> (try (simp at h; done))
    rename_i hg ha
    cases hx with
    | @agg X _ hX hx =>
    cases hy with
    | @agg Y _ hY hy =>
      have eqr : ∀ B, eqT P 20 t xs ys = some B → (Op.equalIn 10000 t (.agg X) (.agg Y)).run P w = .ok B w := by
        intro B hB
        obtain ⟨ag, hag, hrun⟩ := eqT_run (P := P) 20 t xs ys B hB 10000 (by omega) X Y hX hY hx hy
        rw [ha] at hag
        obtain rfl := Option.some.inj hag
        exact hrun
      split at h <;> (try (simp at h; done))
      · rename_i B hB
        simp only [Option.some.injEq, Prod.mk.injEq] at h
        obtain ⟨rfl, rfl⟩ := h
        exact .pure hi (run_pair _ (by rw [Sem.run_bind, run_eqGuard_agg w .eql t x y X Y hg, Result.andThen_ok, run_eql_struct, eqr B hB]; rfl)) (.mkBool _)
      · rename_i B hB
        simp only [Option.some.injEq, Prod.mk.injEq] at h
        obtain ⟨rfl, rfl⟩ := h
        exact .pure hi (run_pair _ (by rw [Sem.run_bind, run_eqGuard_agg w .neq t x y X Y hg, Result.andThen_ok, run_neq_struct, eqr B hB]; rfl)) (.mkBool _)
  · simp at h

end
end Go.Ab
