/-
States: an operation with its guard; regions that run in the text's order.
-/
import Derived.Test.YtimkgalclegffaaOpM
namespace Go.Ab
open Go

/-- The evaluator's state, in memory. -/
structure SimS (w0 : World) (lim0 : Nat → Nat) (O : Nat → Prop) (obs0 : List Nat) (G : Gh) (s : St) (a : Act) (w : World) : Prop where
  inv : Inv w0 lim0 O G s.toks s.outer s.heap w
  size : a.tmps.size = s.tmps.length
  rep : ∀ (t : Nat) v x, a.tmps[t]? = some v → s.tmps[t]? = some x → ARep G s.toks w v x
  defers : a.defers = []
  obs : ∀ (b : Nat) blk, obs0[b]? = some blk → G.obs[b]? = some blk

section
variable {P : Program} {prim : FuncId → List AV → List AV → Prop} {w0 : World} {lim0 : Nat → Nat} {O : Nat → Prop} {obs0 : List Nat} {G : Gh} {s : St} {a : Act} {w : World}

/-- Any ghosts will do. -/
def SimE (w0 : World) (lim0 : Nat → Nat) (O : Nat → Prop) (obs0 : List Nat) (s : St) (a : Act) (w : World) : Prop := ∃ G, SimS w0 lim0 O obs0 G s a w

theorem constOf_rep (v : Value) (G : Gh) (toks : List (Option Nat)) (w : World) : ARep G toks w v (constOf v) := by
  unfold constOf
  split
  · rename_i cs
    split
    · rename_i ps hp
      obtain ⟨h1, h2⟩ := pvsOf_rep _ _ hp G.lim w
      exact .agg (by simpa using h1) fun i v p hv hp => h2 i v p (by simpa using hv) hp
    · exact .none _
  · split
    · rename_i p hp
      exact .v (pvOf_rep hp G.lim w)
    · exact .none _

theorem SimS.at (h : SimS w0 lim0 O obs0 G s a w) (t : Nat) : ARep G s.toks w (a.tmps.getD t undef) (s.tmps.getD t .none) := by
  rcases Nat.lt_or_ge t s.tmps.length with ht | ht
  · have h1 := List.getElem?_eq_getElem ht
    have h2 := Array.getElem?_eq_getElem (xs := a.tmps) (i := t) (by rw [h.size]; exact ht)
    rw [List.getD_eq_getElem?_getD, h1, Array.getD_eq_getD_getElem?, h2]
    exact h.rep t _ _ h2 h1
  · rw [List.getD_eq_getElem?_getD, List.getElem?_eq_none ht]
    exact .none _

theorem SimS.ev (h : SimS w0 lim0 O obs0 G s a w) (x : Operand) : ARep G s.toks w (a.eval x) (evOf s.tmps x) := by
  cases x with
  | tmp t => exact h.at t
  | const v => exact constOf_rep v _ _ _
  | global g => exact .none _
  | func f => exact .fn rfl rfl (fun i v a h1 h2 => by simp at h2) fun i v a h1 h2 => by simp at h2

theorem ARep.stripped {toks : List (Option Nat)} {v : Value} {a : AV} (h : ARep G toks w v a) (hcond : ∀ D ∈ a.conds, D = true) : ARep G toks w v a.strip := by
  cases h with
  | @opt c b _ h hu =>
    cases b with
    | none => exact .none v
    | _ => exact h (hcond _ (by simp [AV.conds]))
  | none v => exact .none v
  | v h => exact .v h
  | agg hs h => exact .agg hs h
  | own ht hle h hr => exact .own ht hle h hr
  | ptr h => exact .ptr h
  | bsl h hc => exact .bsl h hc
  | vac ht h hr => exact .vac ht h hr
  | optr h => exact .optr h
  | eptr u hc' hp => exact .eptr u hc' hp
  | fn h1 h2 h3 h4 => exact .fn h1 h2 h3 h4
  | tup h1 h2 => exact .tup h1 h2

theorem SimS.opnds (h : SimS w0 lim0 O obs0 G s a w) {o : Op} (hn : ∀ p ∈ needs s.tmps o, p) : Opnds G s.toks w a.eval (fun x => (evOf s.tmps x).strip) o := by
  have std : (∀ p ∈ o.operands.toList.flatMap (fun x => (evOf s.tmps x).conds.map (fun D => D = true)), p) → ∀ x ∈ o.operands.toList, ARep G s.toks w (a.eval x) (evOf s.tmps x).strip := by
    intro hh x hx
    exact (h.ev x).stripped fun D hD => hh _ (List.mem_flatMap.2 ⟨x, hx, List.mem_map.2 ⟨D, hD, rfl⟩⟩)
  cases o with
  | pick c x y =>
    simp only [needs] at hn
    refine ⟨(h.ev c).stripped fun D hD => hn _ (List.mem_append_left _ (List.mem_map.2 ⟨D, hD, rfl⟩)), fun B hB => ?_⟩
    have hB : (evOf s.tmps c).strip = .v (.bool B) := hB
    rw [hB] at hn
    refine ⟨fun hb => (h.ev x).stripped fun D hD => ?_, fun hb => (h.ev y).stripped fun D hD => ?_⟩
    · exact hn (B = true → D = true) (List.mem_append_right _ (List.mem_append_left _ (List.mem_map.2 ⟨D, hD, rfl⟩))) hb
    · exact hn (B = false → D = true) (List.mem_append_right _ (List.mem_append_right _ (List.mem_map.2 ⟨D, hD, rfl⟩))) hb
  | _ => exact std hn

/-- A step's state, from the one ahead of it. -/
theorem SimS.put (h : SimS w0 lim0 O obs0 G s a w) {G' : Gh} {toks' : List (Option Nat)} {outer' heap' : List (List AV)} {w' : World} {v : Value} {x : AV} (d : Option Tmp)
    (hi : Inv w0 lim0 O G' toks' outer' heap' w') (hk : Keep G s.toks w G' toks' w') (hr : ARep G' toks' w' v x) : SimS w0 lim0 O obs0 G' { tmps := s.put d x, toks := toks', outer := outer', heap := heap' } (a.put d v) w' := by
  have old : ∀ (t : Nat) v x, a.tmps[t]? = some v → s.tmps[t]? = some x → ARep G' toks' w' v x := fun t v x h1 h2 => (h.rep t v x h1 h2).keep hk
  cases d with
  | none => exact ⟨hi, h.size, old, h.defers, fun b blk hb => hk.obs b blk (h.obs b blk hb)⟩
  | some d =>
    refine ⟨hi, by simp [Act.put, St.put, h.size], fun t u y h1 h2 => ?_, h.defers, fun b blk hb => hk.obs b blk (h.obs b blk hb)⟩
    have h1 : (a.tmps.setIfInBounds d v)[t]? = some u := h1
    have h2 : (s.tmps.set d x)[t]? = some y := h2
    by_cases ht : d = t
    · subst ht
      have hlt : d < s.tmps.length := by
        have := (List.getElem?_eq_some_iff.1 h2).1
        simpa using this
      rw [List.getElem?_set_self hlt] at h2
      rw [Array.getElem?_setIfInBounds_self_of_lt (by rw [h.size]; exact hlt)] at h1
      obtain rfl := Option.some.inj h1
      obtain rfl := Option.some.inj h2
      exact hr
    · rw [List.getElem?_set_ne ht] at h2
      rw [Array.getElem?_setIfInBounds_ne ht] at h1
      exact old t u y h1 h2

/-- An operation that runs. -/
theorem doOp_sim {o : Oper} {k : Kd} {x : Step} (hP : PrimOK P prim) (h : SimS w0 lim0 O obs0 G s a w) (hd : doOp P o k none s = some x) (ho : ∀ p ∈ x.obls, p) (hc : ∀ c ∈ x.calls, c.sim P) :
    Does P (execOp a.eval o) w fun v w' => SimE w0 lim0 O obs0 x.st (a.put o.dst v) w' := by
  unfold doOp at hd
  split at hd <;> (try (simp at hd; done))
  rename_i r hr
  simp only [Option.isSome_none, Bool.false_and] at hd
  simp only [Option.some.injEq] at hd
  subst hd
  refine (sem_sim hP h.inv (h.opnds fun p hp => ho (condP none p) ?_) hr (fun q hq => ho (condP none q) ?_) hc).mono fun v w' ⟨G', hA⟩ => ⟨G', h.put o.dst hA.inv hA.keep hA.rep⟩
  · exact List.mem_map.2 ⟨p, List.mem_append_left _ hp, rfl⟩
  · exact List.mem_map.2 ⟨q, List.mem_append_right _ hq, rfl⟩

/-- An operation that may run. -/
theorem doOp_spec {o : Oper} {k : Kd} {g : Bool} {x : Step} (hP : PrimOK P prim) (h : SimS w0 lim0 O obs0 G s a w) (hd : doOp P o k (some g) s = some x) (ho : ∀ p ∈ x.obls, p) (hc : ∀ c ∈ x.calls, c.sim P) :
    (g = true → Does P (execOp a.eval o) w fun v w' => SimE w0 lim0 O obs0 x.st (a.put o.dst v) w') ∧ (g = false → SimE w0 lim0 O obs0 x.st (a.put o.dst undef) w) := by
  unfold doOp at hd
  split at hd <;> (try (simp at hd; done))
  rename_i r hr
  split at hd <;> (try (simp at hd; done))
  rename_i hcl
  simp only [Option.isSome_some, Bool.true_and, Bool.or_eq_false_iff] at hcl
  simp only [Option.some.injEq] at hd
  have hst : r.toks = s.toks ∧ r.outer = s.outer ∧ r.heap = s.heap := by
    unfold sem at hr
    simp only [hcl.1, hcl.2] at hr
    split at hr <;> (try (simp at hr; done))
    simp only [Option.some.injEq] at hr
    subst hr
    exact ⟨rfl, rfl, rfl⟩
  subst hd
  refine ⟨fun hg => ?_, fun hg => ?_⟩
  · subst hg
    have ho' : ∀ p ∈ needs s.tmps o.op ++ r.obls, p := fun p hp => ho (condP (some true) p) (List.mem_map.2 ⟨p, hp, rfl⟩) rfl
    refine (sem_sim hP h.inv (h.opnds fun p hp => ho' p (List.mem_append_left _ hp)) hr (fun q hq => ho' q (List.mem_append_right _ hq)) fun c hcm hcc => ?_).mono fun v w' ⟨G', hA⟩ => ⟨G', h.put o.dst hA.inv hA.keep (.opt (fun _ => hA.rep) fun hf => by simp at hf)⟩
    exact hc { c with cond := true = true ∧ c.cond } (List.mem_map.2 ⟨c, hcm, rfl⟩) ⟨rfl, hcc⟩
  · subst hg
    obtain ⟨h1, h2, h3⟩ := hst
    simp only [h1, h2, h3]
    exact ⟨G, h.put o.dst h.inv (Keep.refl _ _ _) (.opt (fun hf => by simp at hf) fun _ => rfl)⟩

theorem skipOp_sim {o : Oper} (h : SimS w0 lim0 O obs0 G s a w) : SimE w0 lim0 O obs0 (skipOp o s).st (a.put o.dst undef) w :=
  ⟨G, h.put o.dst h.inv (Keep.refl _ _ _) (.opt (fun hf => by simp at hf) fun _ => rfl)⟩

theorem Does.upon {o : Oper} {K : Act → World → Prop} {Q : Exit → Act → World → Prop} (h : Does P (execOp a.eval o) w fun v w' => K (a.put o.dst v) w') : o.wp P a w K Q := by
  unfold Oper.wp
  unfold Does at h
  split at h
  · rename_i v w' hr; rw [hr]; exact h
  · rename_i w' hr; rw [hr]; exact h
  · rename_i f args w' hr
    rw [hr]
    refine Calls.mono h fun e w'' ⟨v, he, hv⟩ => ?_
    subst he
    exact hv
  · exact h.elim

/-- What a guard says. -/
theorem guard_says {ops : Array Oper} {j : Nat} {want : Bool} {g : Bool} (h : SimS w0 lim0 O obs0 G s a w) (hg : guardOf ops.toList s j want = some g) : (yielded ops a.tmps j == some want) = g := by
  unfold guardOf at hg
  simp only [Array.getElem?_toList] at hg
  unfold yielded
  split at hg <;> (try (simp at hg; done))
  rename_i t ht
  rw [ht]
  have hA := h.at t
  simp only [Option.bind_some]
  have get : ∀ {b : Bool}, a.tmps.getD t undef = .bool b → a.tmps[t]? = some (.bool b) := by
    intro b hb
    rw [Array.getD_eq_getD_getElem?] at hb
    cases hx : a.tmps[t]? with
    | none => rw [hx] at hb; simp [undef] at hb
    | some v => rw [hx] at hb; simp at hb; rw [hb]
  have getu : a.tmps.getD t undef = undef → ∀ b, a.tmps[t]? ≠ some (.bool b) := by
    intro hb b hx
    rw [Array.getD_eq_getD_getElem?, hx] at hb
    simp [undef] at hb
  have optT : ∀ {b : Bool}, s.tmps.getD t .none = .opt true (.v (.bool b)) → a.tmps[t]? = some (.bool b) := by
    intro b he
    rw [he] at hA
    generalize hV : a.tmps.getD t undef = V at hA
    cases hA with
    | opt h1 h2 => exact get (hV.trans (h1 rfl).bool_of)
  have optF : ∀ {b : Bool}, s.tmps.getD t .none = .opt false (.v (.bool b)) → ∀ b, a.tmps[t]? ≠ some (.bool b) := by
    intro b he
    rw [he] at hA
    generalize hV : a.tmps.getD t undef = V at hA
    cases hA with
    | opt h1 h2 => exact getu (hV.trans (h2 rfl))
  split at hg <;> (try (simp at hg; done))
  · rename_i b he
    rw [he] at hA
    rw [get hA.bool_of]
    simp at hg
    subst hg
    cases b <;> rfl
  · rename_i b he
    rw [he] at hA
    rw [get hA.bool_of]
    simp only [Option.some.injEq] at hg
    subst hg
    cases b <;> rfl
  · rename_i c b he
    simp only [Option.some.injEq] at hg
    subst hg
    cases c with
    | true => rw [optT he]; cases b <;> rfl
    | false =>
      split
      · rename_i b' hb'; exact (optF he _ hb').elim
      · rfl
  · rename_i c b he
    simp only [Option.some.injEq] at hg
    subst hg
    cases c with
    | true => rw [optT he]; cases b <;> rfl
    | false =>
      split
      · rename_i b' hb'; exact (optF he _ hb').elim
      · rfl
  · rename_i he
    simp only [Option.some.injEq] at hg
    subst hg
    rw [he] at hA
    generalize hV : a.tmps.getD t undef = V at hA
    cases hA with
    | opt h1 h2 =>
      have := getu (hV.trans (h2 rfl))
      split
      · rename_i b' hb'; exact (this _ hb').elim
      · rfl

theorem op1_sim {ops : Array Oper} {es : List En} {i : Nat} {x : Step} {K : Act → World → Prop} {Q : Exit → Act → World → Prop} (hP : PrimOK P prim) (h : SimE w0 lim0 O obs0 s a w) (hd : op1 P ops.toList es i s = some x)
    (ho : ∀ p ∈ x.obls, p) (hc : ∀ c ∈ x.calls, c.sim P) (hK : ∀ a' w', SimE w0 lim0 O obs0 x.st a' w' → K a' w') : wpOp P ops Q i K a w := by
  obtain ⟨G, h⟩ := h
  unfold op1 at hd
  simp only [Array.getElem?_toList] at hd
  split at hd <;> (try (simp at hd; done))
  rename_i o hoi
  unfold wpOp
  simp only [hoi]
  have run : ∀ {y : Step}, doOp P o (es.getD i {}).k none s = some y → (∀ p ∈ y.obls, p) → (∀ c ∈ y.calls, c.sim P) → y.st = x.st → o.wp P a w K Q ∨ (o.asks P a w ∧ LetsOut Q) := by
    intro y hy h1 h2 h3
    refine .inl (Does.upon ((doOp_sim hP h hy h1 h2).mono fun v w' hs => hK _ _ ?_))
    rw [← h3]
    exact hs
  have skp : x.st = (skipOp o s).st → K (a.put o.dst undef) w := fun hx => hK _ _ (by rw [hx]; exact skipOp_sim h)
  split at hd
  · rename_i hgn hga
    have hw : Region.wanted o (yielded ops a.tmps) = true := by simp [Region.wanted, hgn]
    rw [if_pos hw]
    exact run hd ho hc rfl
  · simp at hd
  · rename_i j want g hgo
    split at hd <;> (try (simp at hd; done))
    rename_i gv hgv
    have hw : Region.wanted o (yielded ops a.tmps) = gv := by
      simp only [Region.wanted, hgo]
      exact guard_says h hgv
    rw [hw]
    split at hd
    · split at hd
      · rw [if_pos rfl]; exact run hd ho hc rfl
      · simp only [Option.some.injEq] at hd
        subst hd
        rw [if_neg (by simp)]
        exact skp rfl
    · obtain ⟨y, hy, rfl⟩ := Option.map_eq_some_iff.1 hd
      have : gv = true := ho _ (by simp [Step.also])
      subst this
      rw [if_pos rfl]
      exact run hy (fun p hp => ho p (by simp [Step.also, hp])) hc rfl
    · simp only [Option.some.injEq] at hd
      subst hd
      have : gv = false := ho _ (by simp [Step.also])
      subst this
      rw [if_neg (by simp)]
      exact skp rfl
    · obtain ⟨d1, d2⟩ := doOp_spec hP h hd ho hc
      cases gv with
      | true =>
        rw [if_pos rfl]
        exact .inl (Does.upon ((d1 rfl).mono fun v w' hs => hK _ _ hs))
      | false =>
        rw [if_neg (by simp)]
        exact hK _ _ (d2 rfl)

theorem runOps_sim {ops : Array Oper} {es : List En} {Q : Exit → Act → World → Prop} (hP : PrimOK P prim) : ∀ (l : List Nat) (s : St) (x : Step) (a : Act) (w : World), SimE w0 lim0 O obs0 s a w → runOps P ops.toList es l s = some x →
    (∀ p ∈ x.obls, p) → (∀ c ∈ x.calls, c.sim P) → (∀ a' w', SimE w0 lim0 O obs0 x.st a' w' → Q .normal a' w') → wpOps P ops Q l a w
  | [], s, x, a, w, h, hr, ho, hc, hQ => by
    simp only [runOps, Option.some.injEq] at hr
    subst hr
    exact hQ _ _ h
  | i :: l, s, x, a, w, h, hr, ho, hc, hQ => by
    unfold runOps at hr
    split at hr <;> (try (simp at hr; done))
    rename_i y hy
    split at hr <;> (try (simp at hr; done))
    rename_i z hz
    simp only [Option.some.injEq] at hr
    subst hr
    rw [wpOps_cons]
    exact op1_sim hP h hy (fun p hp => ho p (List.mem_append_left _ hp)) (fun c hm => hc c (List.mem_append_left _ hm)) fun a' w' hs =>
      runOps_sim hP l y.st z a' w' hs hz (fun p hp => ho p (List.mem_append_right _ hp)) (fun c hm => hc c (List.mem_append_right _ hm)) hQ

end
end Go.Ab
