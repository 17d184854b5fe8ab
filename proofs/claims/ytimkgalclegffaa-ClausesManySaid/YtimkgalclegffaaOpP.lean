/-
Regions that draw their order: whatever order is drawn, the evaluator's state is what comes of it.
-/
import Derived.Test.YtimkgalclegffaaOpO
namespace Go.Ab
open Go

section
variable {P : Program} {prim : FuncId → List AV → List AV → Prop} {w0 : World} {lim0 : Nat → Nat} {O : Nat → Prop} {obs0 : List Nat} {G : Gh} {s : St} {a : Act} {w : World}

/-- Two operations of which neither sees what the other does. -/
def Passes (ops : List Oper) (es : List En) (j i : Nat) : Prop :=
  ∀ x y, ops[j]? = some x → ops[i]? = some y → apartB ops x y = true ∧ (clsOf x.op (es.getD j {}).k).fits (clsOf y.op (es.getD i {}).k) = true

theorem apartB_spec {ops : List Oper} {x y : Oper} (h : apartB ops x y = true) : (∀ d, x.dst = some d → d ∉ readsOf ops y) ∧ (∀ d, x.dst = some d → y.dst ≠ some d) ∧ (∀ d, y.dst = some d → d ∉ readsOf ops x) := by
  refine ⟨fun d hd => ?_, fun d hd => ?_, fun d hd => ?_⟩ <;> simp [apartB, hd] at h
  · exact h.1.1
  · exact h.1.2
  · exact h.2

theorem put_other {s : St} {d : Option Tmp} {v : AV} {t : Tmp} (h : ∀ e, d = some e → e ≠ t) : (s.put d v).getD t .none = s.tmps.getD t .none := by
  cases d with
  | none => rfl
  | some e =>
    have := h e rfl
    simp only [St.put, List.getD_eq_getElem?_getD]
    rw [List.getElem?_set_ne this]

theorem put_comm {s s1 s2 : St} {x y : Option Tmp} {v u : AV} (h : ∀ d, x = some d → y ≠ some d) (h1 : s1.tmps = s.put x v) (h2 : s2.tmps = s.put y u) : s1.put y u = s2.put x v := by
  cases x with
  | none =>
    cases y with
    | none => exact h1.trans h2.symm
    | some e =>
      show s1.tmps.set e u = s2.tmps
      rw [h1, h2]
      rfl
  | some d =>
    cases y with
    | none =>
      show s1.tmps = s2.tmps.set d v
      rw [h1, h2]
      rfl
    | some e =>
      have hne : d ≠ e := fun he => h d rfl (he ▸ rfl)
      show s1.tmps.set e u = s2.tmps.set d v
      rw [h1, h2]
      exact List.set_comm _ _ hne

theorem op1_comm {ops : List Oper} {es : List En} {j i : Nat} {x y : Step} (hp : Passes ops es j i) (h1 : op1 P ops es j s = some x) (h2 : op1 P ops es i x.st = some y) :
    ∃ x' y', op1 P ops es i s = some x' ∧ op1 P ops es j x'.st = some y' ∧ y'.st = y.st ∧ x'.obls = y.obls ∧ x'.calls = y.calls ∧ y'.obls = x.obls ∧ y'.calls = x.calls := by
  have hj : ∃ oj, ops[j]? = some oj := by
    cases hh : ops[j]? with
    | none => unfold op1 at h1; rw [hh] at h1; simp at h1
    | some o => exact ⟨o, rfl⟩
  have hi : ∃ oi, ops[i]? = some oi := by
    cases hh : ops[i]? with
    | none => unfold op1 at h2; rw [hh] at h2; simp at h2
    | some o => exact ⟨o, rfl⟩
  obtain ⟨oj, hj⟩ := hj
  obtain ⟨oi, hi⟩ := hi
  obtain ⟨hap, hfit⟩ := hp oj oi hj hi
  obtain ⟨a1, a2, a3⟩ := apartB_spec hap
  obtain ⟨cj, j1, j2, j3, fj, e1, k1⟩ := op1_eff hj h1
  obtain ⟨ci, i1, i2, i3, fi, e2, k2⟩ := op1_eff hi h2
  have fit : (cj.hw = true → ci.hr = false ∧ ci.hw = false) ∧ (ci.hw = true → cj.hr = false ∧ cj.hw = false) ∧ (cj.tk = true → ci.tk = false) := by
    simp only [Cls.fits, Bool.and_eq_true, Bool.not_eq_true', Bool.and_eq_false_iff, Bool.or_eq_false_iff] at hfit
    obtain ⟨⟨b1, b2⟩, b3⟩ := hfit
    refine ⟨fun h => ?_, fun h => ?_, fun h => ?_⟩
    · have := b1.resolve_left (by rw [j3 h]; simp)
      exact ⟨Bool.eq_false_iff.2 fun hh => by rw [i2 hh] at this; simp at this, Bool.eq_false_iff.2 fun hh => by rw [i3 hh] at this; simp at this⟩
    · refine ⟨?_, ?_⟩
      · have := b2.resolve_left (by rw [i3 h]; simp)
        exact Bool.eq_false_iff.2 fun hh => by rw [j2 hh] at this; simp at this
      · refine Bool.eq_false_iff.2 fun hh => ?_
        have := b1.resolve_left (by rw [j3 hh]; simp)
        rw [i3 h] at this
        simp at this
    · have := b3.resolve_left (by rw [j1 h]; simp)
      exact Bool.eq_false_iff.2 fun hh => by rw [i1 hh] at this; simp at this
  have r1 := k2 s ⟨fun t ht => by
      rw [e1]
      exact (put_other fun e he hte => a1 e he (hte ▸ ht)).symm, fun hh => by
      rw [e1]
      have : cj.tk = false := Bool.eq_false_iff.2 fun hc => by rw [fit.2.2 hc] at hh; simp at hh
      simp [Eff.on, this], fun hh => by
      rw [e1]
      have : cj.hw = false := Bool.eq_false_iff.2 fun hc => by
        obtain ⟨z1, z2⟩ := fit.1 hc
        rw [z1, z2] at hh
        simp at hh
      simp [Eff.on, this]⟩
  have r2 := k1 (fi.on ci oi.dst s) ⟨fun t ht => put_other fun e he hte => a3 e he (hte ▸ ht), fun hh => by simp [Eff.on, fit.2.2 hh], fun hh => by
      have : ci.hw = false := Bool.eq_false_iff.2 fun hc => by
        obtain ⟨z1, z2⟩ := fit.2.1 hc
        rw [z1, z2] at hh
        simp at hh
      simp [Eff.on, this]⟩
  refine ⟨_, _, r1, r2, ?_, rfl, rfl, rfl, rfl⟩
  rw [e2, e1]
  simp only [Eff.on, St.mk.injEq]
  refine ⟨?_, ?_, ?_, ?_⟩
  · exact (put_comm a2 rfl rfl).symm
  · cases hc : cj.tk
    · rfl
    · rw [fit.2.2 hc]; rfl
  · cases hc : cj.hw
    · rfl
    · rw [(fit.1 hc).2]; rfl
  · cases hc : cj.hw
    · rfl
    · rw [(fit.1 hc).2]; rfl

/-- An operation that may go ahead of those that stand ahead of it. -/
theorem runOps_front {ops : List Oper} {es : List En} {i : Nat} {A2 : List Nat} : ∀ (A1 : List Nat) (s : St) (x : Step), (∀ b ∈ A1, Passes ops es b i) → runOps P ops es (A1 ++ i :: A2) s = some x →
    ∃ x', runOps P ops es (i :: (A1 ++ A2)) s = some x' ∧ x'.st = x.st ∧ (∀ p ∈ x'.obls, p ∈ x.obls) ∧ ∀ c ∈ x'.calls, c ∈ x.calls
  | [], s, x, hp, h => ⟨x, h, rfl, fun p hp => hp, fun c hc => hc⟩
  | b :: A1, s, x, hp, h => by
    rw [List.cons_append] at h
    unfold runOps at h
    split at h <;> (try (simp at h; done))
    rename_i y hy
    split at h <;> (try (simp at h; done))
    rename_i z hz
    simp only [Option.some.injEq] at h
    subst h
    obtain ⟨z', hz', st1, ob1, ca1⟩ := runOps_front A1 y.st z (fun c hc => hp c (List.mem_cons_of_mem _ hc)) hz
    unfold runOps at hz'
    split at hz' <;> (try (simp at hz'; done))
    rename_i u hu
    split at hz' <;> (try (simp at hz'; done))
    rename_i v hv
    simp only [Option.some.injEq] at hz'
    subst hz'
    obtain ⟨u', y', q1, q2, q3, q4, q5, q6, q7⟩ := op1_comm (hp b (List.mem_cons_self ..)) hy hu
    refine ⟨{ st := v.st, obls := u'.obls ++ (y'.obls ++ v.obls), calls := u'.calls ++ (y'.calls ++ v.calls) }, ?_, st1, fun p hp => ?_, fun c hc => ?_⟩
    · rw [List.cons_append]
      simp only [runOps, q1, q2, q3, hv]
    · rw [q4, q6] at hp
      simp only [List.mem_append] at hp ⊢
      rcases hp with h | h | h
      · exact .inr (ob1 p (List.mem_append_left _ h))
      · exact .inl h
      · exact .inr (ob1 p (List.mem_append_right _ h))
    · rw [q5, q7] at hc
      simp only [List.mem_append] at hc ⊢
      rcases hc with h | h | h
      · exact .inr (ca1 c (List.mem_append_left _ h))
      · exact .inl h
      · exact .inr (ca1 c (List.mem_append_right _ h))

/-! ### what stands ahead -/

def maskOf (o : Oper) (acc : List Nat) : Nat := o.after.toList.foldl (fun s e => if Region.binds .any e then s ||| 2 ^ e.on ||| acc.getD e.on 0 else s) 0

theorem masks_pre : ∀ (os : List Oper) (acc : List Nat), ∃ l, masks os acc = acc ++ l
  | [], acc => ⟨[], by simp [masks]⟩
  | o :: os, acc => by
    obtain ⟨l, hl⟩ := masks_pre os (acc ++ [maskOf o acc])
    exact ⟨maskOf o acc :: l, by unfold masks; exact hl.trans (by simp)⟩

theorem masks_at : ∀ (os : List Oper) (acc : List Nat) (i : Nat) (o : Oper), os[i]? = some o → ∃ pre l, masks os acc = pre ++ l ∧ (masks os acc).getD (acc.length + i) 0 = maskOf o pre
  | [], acc, i, o, h => by simp at h
  | o :: os, acc, 0, o', h => by
    simp at h
    subst h
    obtain ⟨l, hl⟩ := masks_pre os (acc ++ [maskOf o acc])
    have hm : masks (o :: os) acc = acc ++ (maskOf o acc :: l) := by unfold masks; exact hl.trans (by simp)
    exact ⟨acc, _, hm, by rw [hm]; simp⟩
  | o :: os, acc, i + 1, o', h => by
    simp at h
    obtain ⟨pre, l, h1, h2⟩ := masks_at os (acc ++ [maskOf o acc]) i o' h
    have hm : masks (o :: os) acc = masks os (acc ++ [maskOf o acc]) := rfl
    refine ⟨pre, l, hm.trans h1, ?_⟩
    rw [hm, ← h2]
    simp only [List.length_append, List.length_singleton]
    congr 1
    omega

theorem fold_bits {acc : List Nat} {b : Nat} : ∀ (es : List Edge) (s : Nat), (es.foldl (fun s e => if Region.binds .any e then s ||| 2 ^ e.on ||| acc.getD e.on 0 else s) s).testBit b = true →
    s.testBit b = true ∨ ∃ e ∈ es, Region.binds .any e = true ∧ (b = e.on ∨ (acc.getD e.on 0).testBit b = true)
  | [], s, h => .inl h
  | e :: es, s, h => by
    rw [List.foldl_cons] at h
    rcases fold_bits es _ h with h | ⟨e', he', h1, h2⟩
    · by_cases hb : Region.binds .any e = true
      · rw [if_pos hb] at h
        simp only [Nat.testBit_or, Bool.or_eq_true, Nat.testBit_two_pow, decide_eq_true_eq] at h
        rcases h with (h | h) | h
        · exact .inl h
        · exact .inr ⟨e, List.mem_cons_self .., hb, .inl h.symm⟩
        · exact .inr ⟨e, List.mem_cons_self .., hb, .inr h⟩
      · rw [if_neg hb] at h
        exact .inl h
    · exact .inr ⟨e', List.mem_cons_of_mem _ he', h1, h2⟩

/-- What stands ahead of an operation stands ahead of it by an edge, or ahead of what does. -/
theorem mask_bits {os : List Oper} {i b : Nat} {o : Oper} (ho : os[i]? = some o) (h : ((masks os []).getD i 0).testBit b = true) :
    ∃ e ∈ o.after, Region.binds .any e = true ∧ (b = e.on ∨ ((masks os []).getD e.on 0).testBit b = true) := by
  obtain ⟨pre, l, h1, h2⟩ := masks_at os [] i o ho
  simp only [List.length_nil, Nat.zero_add] at h2
  rw [h2] at h
  rcases fold_bits _ _ h with h | ⟨e, he, hb, hx⟩
  · simp at h
  · refine ⟨e, by simpa using he, hb, hx.imp id fun hx => ?_⟩
    rw [h1]
    rcases Nat.lt_or_ge e.on pre.length with hl | hl
    · rw [List.getD_eq_getElem?_getD, List.getElem?_append_left hl, ← List.getD_eq_getElem?_getD]
      exact hx
    · rw [List.getD_eq_getElem?_getD, List.getElem?_eq_none hl] at hx
      simp at hx

/-! ### any order -/

theorem filter_ne_split {A1 A2 : List Nat} {i : Nat} (h : (A1 ++ i :: A2).Nodup) : (A1 ++ i :: A2).filter (fun k => k != i) = A1 ++ A2 := by
  rw [List.nodup_append] at h
  obtain ⟨h1, h2, h3⟩ := h
  rw [List.nodup_cons] at h2
  rw [List.filter_append, List.filter_cons]
  simp only [bne_self_eq_false, Bool.false_eq_true, if_false]
  congr 1
  · rw [List.filter_eq_self]
    intro a ha
    have := h3 a ha i (List.mem_cons_self ..)
    simpa using this
  · rw [List.filter_eq_self]
    intro a ha
    have : a ≠ i := fun e => h2.1 (e ▸ ha)
    simpa using this

/-- The operations that are still to come. -/
def toCome (n : Nat) (listed : Array Bool) : List Nat := (List.range n).filter fun k => !listed.getD k true

theorem runOps_any {ops : Array Oper} {es : List En} {Q : Exit → Act → World → Prop} (hP : PrimOK P prim) (hind : indepB ops.toList es = true) : ∀ (fuel : Nat) (listed : Array Bool) (s : St) (x : Step) (a : Act) (w : World),
    listed.size = ops.size → (∀ k, k < ops.size → listed.getD k true = true → ∀ b, ((masks ops.toList []).getD k 0).testBit b = true → listed.getD b false = true) → (toCome ops.size listed).length = fuel →
    SimE w0 lim0 O obs0 s a w → runOps P ops.toList es (toCome ops.size listed) s = some x → (∀ p ∈ x.obls, p) → (∀ c ∈ x.calls, c.sim P) → (∀ a' w', SimE w0 lim0 O obs0 x.st a' w' → Q .normal a' w') →
    wpAny P .any ops Q fuel listed a w := by
  have hind' := hind
  unfold indepB at hind'
  simp only [Array.toArray_toList, Bool.and_eq_true, List.all_eq_true, List.mem_range, Array.length_toList] at hind'
  obtain ⟨hns, hall⟩ := hind'
  have edge : ∀ (i : Nat) (o : Oper), ops[i]? = some o → ∀ e ∈ o.after, Region.binds .any e = true → e.on < i := by
    intro i o ho e he hb
    have := (hall i (Array.getElem?_eq_some_iff.1 ho).1).1
    rw [Array.getElem?_toList, ho] at this
    simp only [List.all_eq_true, Bool.or_eq_true, Bool.not_eq_true', decide_eq_true_eq] at this
    exact (this e (by simpa using he)).resolve_left (by simp [hb])
  have pass : ∀ (i j : Nat), i < ops.size → j < i → ((masks ops.toList []).getD i 0).testBit j = true ∨ Passes ops.toList es j i := by
    intro i j hi hj
    have := (hall i hi).2 j hj
    unfold mayPass at this
    simp only [Bool.or_eq_true] at this
    refine this.imp id fun h x y hx hy => ?_
    rw [hx, hy] at h
    simpa using h
  intro fuel
  induction fuel with
  | zero =>
    intro listed s x a w hsz hcl hfuel hs hr ho hc hQ
    have hnil : toCome ops.size listed = [] := List.eq_nil_of_length_eq_zero hfuel
    have hrd : Region.ready .any ops listed = [] := by
      rw [List.eq_nil_iff_forall_not_mem]
      intro j hj
      obtain ⟨h0, o, hoj, _⟩ := mem_ready.1 hj
      have : j ∈ toCome ops.size listed := List.mem_filter.2 ⟨List.mem_range.2 (Array.getElem?_eq_some_iff.1 hoj).1, by simp [h0]⟩
      rw [hnil] at this
      simp at this
    rw [hnil] at hr
    simp only [runOps, Option.some.injEq] at hr
    subst hr
    exact ⟨hrd, hQ _ _ hs⟩
  | succ fuel ih =>
    intro listed s x a w hsz hcl hfuel hs hr ho hc hQ
    have unl : ∀ {k}, k ∈ toCome ops.size listed → k < ops.size ∧ listed.getD k true = false := fun hk => by
      obtain ⟨h1, h2⟩ := List.mem_filter.1 hk
      exact ⟨List.mem_range.1 h1, by simpa using h2⟩
    have lf : ∀ {b}, b < ops.size → listed.getD b false = listed.getD b true := fun {b} hb => by
      have := Array.getElem?_eq_getElem (xs := listed) (i := b) (by rw [hsz]; exact hb)
      simp [Array.getD_eq_getD_getElem?, this]
    refine ⟨fun hnil => ?_, fun i hi => ?_⟩
    · -- the first that is to come is ready
      cases hA : toCome ops.size listed with
      | nil => rw [hA] at hfuel; simp at hfuel
      | cons i A =>
        have hmem : i ∈ toCome ops.size listed := by rw [hA]; exact List.mem_cons_self ..
        obtain ⟨hi1, hi2⟩ := unl hmem
        have hready : i ∈ Region.ready .any ops listed := by
          refine mem_ready.2 ⟨hi2, _, Array.getElem?_eq_getElem hi1, fun e he hb => ?_⟩
          have hlt := edge i _ (Array.getElem?_eq_getElem hi1) e he hb
          have hes : e.on < ops.size := Nat.lt_trans hlt hi1
          cases hle : listed.getD e.on false with
          | true => rfl
          | false =>
            have hm : e.on ∈ toCome ops.size listed := List.mem_filter.2 ⟨List.mem_range.2 hes, by rw [← lf hes, hle]; rfl⟩
            have hp : (toCome ops.size listed).Pairwise (· < ·) := List.Pairwise.filter _ List.pairwise_lt_range
            rw [hA] at hp hm
            rw [List.pairwise_cons] at hp
            rcases List.mem_cons.1 hm with h | h
            · omega
            · have := hp.1 _ h; omega
        rw [hnil] at hready
        simp at hready
    · obtain ⟨h0, o, hoi, hed⟩ := mem_ready.1 hi
      have hi1 : i < ops.size := (Array.getElem?_eq_some_iff.1 hoi).1
      have hmem : i ∈ toCome ops.size listed := List.mem_filter.2 ⟨List.mem_range.2 hi1, by simp [h0]⟩
      obtain ⟨A1, A2, hA⟩ := List.append_of_mem hmem
      have hp : (toCome ops.size listed).Pairwise (· < ·) := List.Pairwise.filter _ List.pairwise_lt_range
      have hnd : (A1 ++ i :: A2).Nodup := by
        rw [← hA]
        exact hp.imp fun h => Nat.ne_of_lt h
      have bits : ∀ b, ((masks ops.toList []).getD i 0).testBit b = true → listed.getD b false = true := by
        intro b hb
        obtain ⟨e, he, h1, h2⟩ := mask_bits (by rw [Array.getElem?_toList]; exact hoi) hb
        have hle := hed e he h1
        rcases h2 with rfl | h2
        · exact hle
        · have hes : e.on < ops.size := Nat.lt_trans (edge i o hoi e he h1) hi1
          exact hcl e.on hes (by rw [← lf hes]; exact hle) b h2
      have hpass : ∀ b ∈ A1, Passes ops.toList es b i := by
        intro b hb
        have hbm : b ∈ toCome ops.size listed := by rw [hA]; exact List.mem_append_left _ hb
        obtain ⟨hb1, hb2⟩ := unl hbm
        have hbi : b < i := by
          rw [hA, List.pairwise_append] at hp
          exact hp.2.2 b hb i (List.mem_cons_self ..)
        rcases pass i b hi1 hbi with h | h
        · have := bits b h
          rw [lf hb1, hb2] at this
          simp at this
        · exact h
      rw [hA] at hr
      obtain ⟨x', hr', hst, hob, hca⟩ := runOps_front A1 s x hpass hr
      unfold runOps at hr'
      split at hr' <;> (try (simp at hr'; done))
      rename_i y hy
      split at hr' <;> (try (simp at hr'; done))
      rename_i z hz
      simp only [Option.some.injEq] at hr'
      subst hr'
      have hnext : toCome ops.size (listed.setIfInBounds i true) = A1 ++ A2 := by
        rw [← filter_ne_split hnd, ← hA]
        unfold toCome
        rw [List.filter_filter]
        apply List.filter_congr
        intro k hk
        by_cases hki : i = k
        · subst hki
          have : (listed.setIfInBounds i true).getD i true = true := by
            simp [Array.getD_eq_getD_getElem?, Array.getElem?_setIfInBounds_self_of_lt (show i < listed.size by rw [hsz]; exact hi1)]
          rw [this]
          simp
        · rw [getD_set_ne true hki]
          have : (k != i) = true := by simpa using fun e : k = i => hki e.symm
          rw [this]
          simp
      refine op1_sim hP hs hy (fun p hp => ho p (hob p (List.mem_append_left _ hp))) (fun c hc' => hc c (hca c (List.mem_append_left _ hc'))) fun a' w' hs' => ?_
      refine ih _ y.st z a' w' (by simpa using hsz) (fun k hk hl b hb => ?_) ?_ hs' (by rw [hnext]; exact hz) (fun p hp => ho p (hob p (List.mem_append_right _ hp))) (fun c hc' => hc c (hca c (List.mem_append_right _ hc'))) fun a' w' hh => hQ a' w' (by rw [← hst]; exact hh)
      · by_cases hki : i = k
        · subst hki
          exact getD_set_true (bits b hb)
        · rw [getD_set_ne true hki] at hl
          exact getD_set_true (hcl k hk hl b hb)
      · rw [hnext]
        rw [hA] at hfuel
        simp at hfuel ⊢
        omega

theorem SimE.drew (h : SimE w0 lim0 O obs0 s a w) : SimE w0 lim0 O obs0 s a { w with drawn := w.drawn + 1 } := by
  obtain ⟨G, h⟩ := h
  obtain ⟨i1, k1⟩ := h.inv.quiet (w' := { w with drawn := w.drawn + 1 }) (lim' := G.lim) (Nat.le_refl _) rfl rfl rfl (fun b hb => ⟨rfl, rfl⟩) h.inv.frame.above
  exact ⟨G, i1, h.size, fun t v x h1 h2 => (h.rep t v x h1 h2).keep k1, h.defers, h.obs⟩

/-- A REGION. -/
theorem region_sim {ops : Array Oper} {es : List En} {id : Nat} {draw : Bool} {x : Step} (hP : PrimOK P prim) (hm : P.follows .mixedOrders = true) (hs : SimE w0 lim0 O obs0 s a w) (hd : (draw && !(indepB ops.toList es)) = false)
    (hr : runOps P ops.toList es (List.range ops.toList.length) s = some x) (ho : ∀ p ∈ x.obls, p) (hc : ∀ c ∈ x.calls, c.sim P) :
    (Code.region id ops draw).wp P (fun e a' w' => e = .normal ∧ SimE w0 lim0 O obs0 x.st a' w') a w := by
  cases draw with
  | false => exact wp_region (runOps_sim hP _ s x a w hs (by rw [Array.length_toList] at hr; exact hr) ho hc fun a' w' h => ⟨rfl, h⟩)
  | true =>
    have hind : indepB ops.toList es = true := by simpa using hd
    have hall : toCome ops.size (Array.replicate ops.size false) = List.range ops.size := by
      unfold toCome
      rw [List.filter_eq_self]
      intro k hk
      have := List.mem_range.1 hk
      simp [Array.getD_eq_getD_getElem?, this]
    refine wp_region_any hm (runOps_any hP hind _ _ s x a _ (by simp) (fun k hk hl => ?_) (by rw [hall]; simp) hs.drew (by rw [hall]; rw [Array.length_toList] at hr; exact hr) ho hc fun a' w' h => ⟨rfl, h⟩)
    simp [Array.getD_eq_getD_getElem?, hk] at hl

end
end Go.Ab
