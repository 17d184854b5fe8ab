/-
At a loop's head: what the evaluator forgets, takes over, numbers anew.
-/
import Derived.Test.YtimkgalclegffaaOpP
namespace Go.Ab
open Go

section
variable {P : Program} {w0 : World} {lim0 : Nat → Nat} {O : Nat → Prop} {obs0 : List Nat} {G : Gh} {s : St} {a : Act} {w : World}

/-- Slots are known less. -/
theorem SimS.weaker (h : SimS w0 lim0 O obs0 G s a w) {l : List AV} (hl : l.length = s.tmps.length) (hw : ∀ (t : Nat) v x y, s.tmps[t]? = some x → l[t]? = some y → ARep G s.toks w v x → ARep G s.toks w v y) :
    SimS w0 lim0 O obs0 G { s with tmps := l } a w := by
  refine ⟨h.inv, by rw [h.size]; exact hl.symm, fun t v y h1 h2 => ?_, h.defers, h.obs⟩
  have h2 : l[t]? = some y := h2
  have hlt : t < s.tmps.length := by rw [← hl]; exact (List.getElem?_eq_some_iff.1 h2).1
  have hx := List.getElem?_eq_getElem hlt
  exact hw t v _ y hx h2 (h.rep t v _ h1 hx)

theorem ARep.weaken {toks : List (Option Nat)} {v : Value} {x : AV} (h : ARep G toks w v x) : ARep G toks w v x.weaken := by
  cases h with
  | v h => cases h with
    | nil => exact .v .nil0
    | bool b => exact .v (.bool b)
    | int k n => exact .v (.int k n)
    | str s => exact .v (.str s)
    | cplx k re im => exact .v (.cplx k re im)
    | nil0 => exact .v .nil0
    | sl0 a => exact .v (.sl0 a)
    | sl b off len cap esz rows u hl hc hr hcell hp => exact .v (.sl b off len cap esz rows u hl hc hr hcell hp)
  | own ht hle h hr => exact .v h
  | none v => exact .none v
  | agg hs h => exact .agg hs h
  | ptr h => exact .ptr h
  | bsl h hc => exact .bsl h hc
  | vac ht h hr => exact .v h
  | optr h => exact .optr h
  | eptr u hc hp => exact .eptr u hc hp
  | fn h1 h2 h3 h4 => exact .fn h1 h2 h3 h4
  | tup h1 h2 => exact .tup h1 h2
  | opt h hu => exact .opt h hu

theorem getElem?_set_cases {α : Type} {l : List α} {i t : Nat} {b y : α} (h : (l.set i b)[t]? = some y) : (t = i ∧ y = b) ∨ (l[t]? = some y) := by
  by_cases e : t = i
  · subst e
    have hlt : t < l.length := by have := (List.getElem?_eq_some_iff.1 h).1; simpa using this
    rw [List.getElem?_set_self hlt] at h
    exact .inl ⟨rfl, (Option.some.inj h).symm⟩
  · rw [List.getElem?_set_ne (Ne.symm e)] at h
    exact .inr h

theorem killAll_sim : ∀ (is : List Nat) (s : St), SimS w0 lim0 O obs0 G s a w → SimS w0 lim0 O obs0 G { s with tmps := killAll is s.tmps } a w
  | [], s, h => h
  | i :: is, s, h => killAll_sim is { s with tmps := s.tmps.set i .none } (h.weaker (by simp) fun t v x y h1 h2 hr => by
      rcases getElem?_set_cases h2 with ⟨rfl, rfl⟩ | h2
      · exact .none _
      · rw [h1] at h2; exact Option.some.inj h2 ▸ hr)

theorem weakAll_sim : ∀ (is : List Nat) (s : St), SimS w0 lim0 O obs0 G s a w → SimS w0 lim0 O obs0 G { s with tmps := weakAll is s.tmps } a w
  | [], s, h => h
  | i :: is, s, h => weakAll_sim is { s with tmps := s.tmps.set i (s.tmps.getD i .none).weaken } (h.weaker (by simp) fun t v x y h1 h2 hr => by
      rcases getElem?_set_cases h2 with ⟨rfl, rfl⟩ | h2
      · rw [List.getD_eq_getElem?_getD, h1]; exact hr.weaken
      · rw [h1] at h2; exact Option.some.inj h2 ▸ hr)

/-- A nil slice that may be appended to. -/
theorem adopt_inv {toks toks' : List (Option Nat)} {outer heap : List (List AV)} {x y : AV} (hi : Inv w0 lim0 O G toks outer heap w) (ha : adoptOne x toks = some (y, toks')) :
    ∃ G', G'.obs = G.obs ∧ Inv w0 lim0 O G' toks' outer heap w ∧ Keep G toks w G' toks' w ∧ ∀ v, ARep G toks w v x → ARep G' toks' w v y := by
  unfold adoptOne at ha
  split at ha <;> (try (simp at ha; done))
  · simp only [Option.some.injEq, Prod.mk.injEq] at ha
    obtain ⟨rfl, rfl⟩ := ha
    obtain ⟨i1, k1⟩ := hi.pushTok (o := some 0) (ob := none) (fun nb h => by simp at h)
    refine ⟨_, ?_, i1, k1, fun v hv => ?_⟩
    · rfl
    cases hv with
    | v h =>
      cases h with
      | nil => exact .own (by simp) (fun n hn => by simp) .nil0 fun _ hlt => by omega
  · simp only [Option.some.injEq, Prod.mk.injEq] at ha
    obtain ⟨rfl, rfl⟩ := ha
    exact ⟨G, rfl, hi, Keep.refl _ _ _, fun v hv => hv⟩

theorem adoptAll_sim : ∀ (is : List Nat) (s : St) (l : List AV) (toks' : List (Option Nat)), SimE w0 lim0 O obs0 s a w → adoptAll is s.tmps s.toks = some (l, toks') → SimE w0 lim0 O obs0 { s with tmps := l, toks := toks' } a w
  | [], s, l, toks', h, ha => by
    simp only [adoptAll, Option.some.injEq, Prod.mk.injEq] at ha
    obtain ⟨rfl, rfl⟩ := ha
    exact h
  | i :: is, s, l, toks', h, ha => by
    obtain ⟨G, h⟩ := h
    unfold adoptAll at ha
    split at ha <;> (try (simp at ha; done))
    rename_i y tk hy
    obtain ⟨G', ho, i1, k1, hr⟩ := adopt_inv h.inv hy
    refine adoptAll_sim is { s with tmps := s.tmps.set i y, toks := tk } l toks' ⟨G', i1, by simp [h.size], fun t v x h1 h2 => ?_, h.defers, fun b blk hb => by rw [ho]; exact h.obs b blk hb⟩ ha
    rcases getElem?_set_cases h2 with ⟨rfl, rfl⟩ | h2
    · have := h.at t
      have hv : a.tmps.getD t undef = v := by rw [Array.getD_eq_getD_getElem?, h1]; rfl
      rw [hv] at this
      exact hr v this
    · exact (h.rep t v x h1 h2).keep k1

theorem adoptBoxes_sim : ∀ (is : List (Nat × Nat)) (s : St) (hp : List (List AV)) (toks' : List (Option Nat)), SimE w0 lim0 O obs0 s a w → adoptBoxes is s.heap s.toks = some (hp, toks') → SimE w0 lim0 O obs0 { s with heap := hp, toks := toks' } a w
  | [], s, hp, toks', h, ha => by
    simp only [adoptBoxes, Option.some.injEq, Prod.mk.injEq] at ha
    obtain ⟨rfl, rfl⟩ := ha
    exact h
  | (b, o) :: is, s, hp, toks', h, ha => by
    obtain ⟨G, h⟩ := h
    unfold adoptBoxes at ha
    split at ha <;> (try (simp at ha; done))
    rename_i cs hcs
    split at ha <;> (try (simp at ha; done))
    rename_i y tk hy
    obtain ⟨G', ho, i1, k1, hr⟩ := adopt_inv h.inv hy
    have i2 : Inv w0 lim0 O G' tk s.outer (s.heap.set b (cs.set o y)) w := by
      refine ⟨i1.frame, by simp [i1.hb], i1.ho, fun i blk ds h1 h2 => ?_, i1.obox, i1.nodup, i1.bnew, i1.oold, i1.tlen, i1.tok, i1.tdis⟩
      rcases getElem?_set_cases h2 with ⟨rfl, rfl⟩ | h2
      · have hlt : i < G.bs.length := by rw [h.inv.hb]; exact (List.getElem?_eq_some_iff.1 hcs).1
        have hg := List.getElem?_eq_getElem hlt
        have hg' := k1.bs i _ hg
        rw [h1] at hg'
        obtain rfl := Option.some.inj hg'
        obtain ⟨cells, elem, q1, q2, q3, q4⟩ := h.inv.box i _ cs hg hcs
        obtain ⟨cells', elem', p1, p2, p3, p4⟩ := i1.box i _ cs h1 hcs
        rw [q1] at p1
        simp only [Option.some.injEq, Obj.cells.injEq] at p1
        obtain ⟨rfl, rfl, -⟩ := p1
        refine ⟨cells, elem, q1, by simp [q2], fun j v x hv hx => ?_, p4⟩
        rcases getElem?_set_cases hx with ⟨rfl, rfl⟩ | hx
        · have hjl : j < cs.length := by rw [← q2]; exact (Array.getElem?_eq_some_iff.1 hv).1
          have hold := List.getElem?_eq_getElem hjl
          obtain ⟨z1, z2⟩ := q3 j v _ hv hold
          refine ⟨z1, hr v ?_⟩
          rw [List.getD_eq_getElem?_getD, hold]
          exact z2
        · exact p3 j v x hv hx
      · exact i1.box i blk ds h1 h2
    exact adoptBoxes_sim is { s with heap := s.heap.set b (cs.set o y), toks := tk } hp toks' ⟨G', i2, h.size, fun t v x h1 h2 => (h.rep t v x h1 h2).keep k1, h.defers, fun b blk hb => by rw [ho]; exact h.obs b blk hb⟩ ha

theorem distinct_spec : ∀ (l : List Nat), distinct l = true → l.Nodup
  | [], _ => List.nodup_nil
  | x :: l, h => by
    simp only [distinct, Bool.and_eq_true, Bool.not_eq_true'] at h
    exact List.nodup_cons.2 ⟨fun hm => by have := List.elem_eq_true_of_mem hm; rw [List.contains] at h; rw [this] at h; simp at h, distinct_spec l h.2⟩

theorem idxOf?_spec : ∀ (l : List Nat) (t i : Nat), l.idxOf? t = some i → l[i]? = some t
  | [], t, i, h => by simp [List.idxOf?] at h
  | x :: l, t, i, h => by
    rw [List.idxOf?_cons] at h
    split at h
    · rename_i hx
      simp at h
      subst h
      simp at hx
      simp [hx]
    · obtain ⟨j, hj, rfl⟩ := Option.map_eq_some_iff.1 h
      simpa using idxOf?_spec l t j hj

theorem under_rep {n : Nat} {tb T toks : List (Option Nat)} {v : Value} {x : AV} (hu : x.under n = true) (h : ARep G toks w v x) : ARep ⟨G.lim, G.obs, G.bs.take n, tb⟩ T w v x := by
  cases h with
  | v h => exact .v h
  | agg hs h => exact .agg hs h
  | optr h => exact .optr h
  | ptr h =>
    refine .ptr ?_
    simp only [AV.under, decide_eq_true_eq] at hu
    show (G.bs.take n)[_]? = _
    rw [List.getElem?_take, if_pos hu]
    exact h
  | _ => simp [AV.under] at hu

/-- What is left of a value. -/
theorem cut_rep {c : Cut} {n : Nat} {toks : List (Option Nat)} {v : Value} {x : AV} (h : ARep G toks w v x) :
    ARep ⟨G.lim, G.obs, G.bs.take n, c.toks.map fun t => (G.tb[t]?).join⟩ (c.toks.map fun t => toks.getD t none) w v (c.tok (x.killTo n)) := by
  cases h with
  | none v => exact .none v
  | v h => exact .v h
  | agg hs h => exact .agg hs h
  | optr h => exact .optr h
  | eptr u hc hp => exact .eptr u hc hp
  | vac ht h hr => exact .v h
  | tup h1 h2 => exact .none _
  | opt h hu => exact .none _
  | @bsl b m len cap blk h hc =>
    simp only [AV.killTo]
    split
    · rename_i hd
      refine .bsl ?_ hc
      simp only [decide_eq_true_eq] at hd
      show (G.bs.take n)[_]? = _
      rw [List.getElem?_take, if_pos hd]
      exact h
    · exact .none _
  | @ptr b off blk h =>
    simp only [AV.killTo]
    split
    · rename_i hd
      exact under_rep (toks := toks) (x := .ptr b off) hd (.ptr h)
    · exact .none _
  | fn h1 h2 h3 h4 =>
    simp only [AV.killTo]
    split
    · rename_i hd
      simp only [Bool.and_eq_true, List.all_eq_true] at hd
      exact .fn h1 h2 (fun i v a hv ha => under_rep (hd.1 a (List.mem_of_getElem? ha)) (h3 i v a hv ha)) fun i v a hv ha => under_rep (hd.2 a (List.mem_of_getElem? ha)) (h4 i v a hv ha)
    · exact .none _
  | @own t rows A len cap ht hle h hr =>
    simp only [AV.killTo, Cut.tok]
    split
    · rename_i i hi
      have hget := idxOf?_spec _ _ _ hi
      have hlt : i < c.toks.length := (List.getElem?_eq_some_iff.1 hget).1
      have htok : (c.toks.map fun t => toks.getD t none)[i]? = some (toks.getD t none) := by rw [List.getElem?_map, hget]; rfl
      have hin : ∀ m, toks.getD t none = some m → toks[t]? = some (some m) := fun m hm => by
        rw [List.getD_eq_getElem?_getD, List.getElem?_eq_getElem ht] at hm
        simp at hm
        rw [List.getElem?_eq_getElem ht, hm]
      refine .own (by simpa using hlt) (fun m hm => ?_) h fun hm hl => ?_
      · rw [htok] at hm
        exact hle m (hin m (Option.some.inj hm))
      · rw [htok] at hm
        obtain ⟨b, off, esz, cells, elem, e1, e2, e3, e4, e5, e6, e7⟩ := hr (hin _ (Option.some.inj hm)) hl
        refine ⟨b, off, esz, cells, elem, e1, ?_, e3, e4, e5, e6, e7⟩
        show (c.toks.map fun t => (G.tb[t]?).join)[i]? = _
        rw [List.getElem?_map, hget]
        simp [e2]
    · exact .v h

theorem adoptBoxes_app : ∀ (is : List (Nat × Nat)) (l r : List (List AV)) (toks : List (Option Nat)) (hp : List (List AV)) (tk : List (Option Nat)), adoptBoxes is l toks = some (hp, tk) → adoptBoxes is (l ++ r) toks = some (hp ++ r, tk) ∧ hp.length = l.length
  | [], l, r, toks, hp, tk, h => by
    simp only [adoptBoxes, Option.some.injEq, Prod.mk.injEq] at h ⊢
    obtain ⟨rfl, rfl⟩ := h
    exact ⟨⟨rfl, rfl⟩, rfl⟩
  | (b, o) :: is, l, r, toks, hp, tk, h => by
    unfold adoptBoxes at h ⊢
    split at h <;> (try (simp at h; done))
    rename_i cs hcs
    split at h <;> (try (simp at h; done))
    rename_i y tk' hy
    have hlt : b < l.length := (List.getElem?_eq_some_iff.1 hcs).1
    obtain ⟨h1, h2⟩ := adoptBoxes_app is (l.set b (cs.set o y)) r tk' hp tk h
    rw [List.getElem?_append_left hlt, hcs]
    simp only [hy]
    rw [List.set_append_left _ _ hlt]
    exact ⟨h1, by simpa using h2⟩

theorem boxes_get (c : Cut) : ∀ (l : List (List AV)) (i j : Nat), (c.boxes i l)[j]? = (l[j]?).map fun cs => match c.raw.contains (i + j) with
    | true => cs
    | false => cs.map fun a => c.tok (a.killTo c.heapLen)
  | [], i, j => by simp [Cut.boxes]
  | cs :: l, i, 0 => by simp only [Cut.boxes, List.getElem?_cons_zero, Option.map_some, Nat.add_zero]; rfl
  | cs :: l, i, j + 1 => by
    simp only [Cut.boxes, List.getElem?_cons_succ]
    rw [boxes_get c l (i + 1) j, Nat.add_assoc, Nat.add_comm 1 j]

theorem boxes_len (c : Cut) : ∀ (l : List (List AV)) (i : Nat), (c.boxes i l).length = l.length
  | [], i => rfl
  | cs :: l, i => by simp [Cut.boxes, boxes_len c l]

/-- AT A LOOP'S HEAD. -/
theorem cut_sim {c : Cut} {s s' : St} (h : SimE w0 lim0 O obs0 s a w) (hc : c.app s = some s') (hasks : ∀ p ∈ c.asks s', p) : SimE w0 lim0 O obs0 s' a w := by
  unfold Cut.app at hc
  split at hc <;> (try (simp at hc; done))
  rename_i hd
  have hnd := distinct_spec _ hd
  split at hc <;> (try (simp at hc; done))
  rename_i l tk1 h1
  split at hc <;> (try (simp at hc; done))
  rename_i hp tk2 h2
  simp only [Option.some.injEq] at hc
  subst hc
  obtain ⟨G0, h0⟩ := h
  have s1 := adoptAll_sim c.adopt { s with tmps := weakAll c.weak (killAll c.kill s.tmps) } l tk1 ⟨G0, weakAll_sim c.weak _ (killAll_sim c.kill s h0)⟩ h1
  obtain ⟨ha, hlen⟩ := adoptBoxes_app c.adoptB (s.heap.take c.heapLen) (s.heap.drop c.heapLen) tk1 hp tk2 h2
  rw [List.take_append_drop] at ha
  obtain ⟨G, k⟩ := adoptBoxes_sim c.adoptB { s with tmps := l, toks := tk1 } _ tk2 s1 ha
  have hi := k.inv
  have hbs : G.bs.length = s.heap.length := by
    rw [hi.hb]
    simp only [List.length_append, hlen, List.length_take, List.length_drop]
    omega
  have hsub : ∀ blk ∈ G.bs.take c.heapLen, blk ∈ G.bs := fun blk hm => List.mem_of_mem_take hm
  have get2 : ∀ {i : Nat} {b : Nat}, (c.toks.map fun t => (G.tb[t]?).join)[i]? = some (some b) → ∃ t, c.toks[i]? = some t ∧ G.tb[t]? = some (some b) := by
    intro i b h
    rw [List.getElem?_map] at h
    obtain ⟨t, ht, hb⟩ := Option.map_eq_some_iff.1 h
    refine ⟨t, ht, ?_⟩
    cases hx : G.tb[t]? with
    | none => rw [hx] at hb; simp at hb
    | some y => rw [hx] at hb; simp at hb; rw [hb]
  have getT : ∀ {i t m : Nat}, c.toks[i]? = some t → (c.toks.map fun t => tk2.getD t none)[i]? = some (some m) → tk2[t]? = some (some m) := by
    intro i t m ht h
    rw [List.getElem?_map, ht] at h
    have h : tk2.getD t none = some m := Option.some.inj h
    rw [List.getD_eq_getElem?_getD] at h
    cases hx : tk2[t]? with
    | none => rw [hx] at h; simp at h
    | some y => rw [hx] at h; simp at h; rw [h]
  refine ⟨⟨G.lim, G.obs, G.bs.take c.heapLen, c.toks.map fun t => (G.tb[t]?).join⟩, ⟨hi.frame, ?_, hi.ho, fun i blk cs e1 e2 => ?_, fun i blk cs e1 e2 => hi.obox i blk cs e1 e2, ?_, fun blk hm => hi.bnew blk (hsub blk hm), hi.oold, by simp, fun t b n e1 e2 => ?_, fun t t' b n n' e1 e2 e3 e4 => ?_⟩,
    by simpa using k.size, fun t v x e1 e2 => ?_, k.defers, k.obs⟩
  · simp only [List.length_take, boxes_len, hlen, hbs]
  · have e1 : (G.bs.take c.heapLen)[i]? = some blk := e1
    have e20 := e2
    rw [boxes_get, Nat.zero_add] at e2
    obtain ⟨ds, hds, hcs⟩ := Option.map_eq_some_iff.1 e2
    have hlt : i < hp.length := (List.getElem?_eq_some_iff.1 hds).1
    have hic : i < c.heapLen := by rw [hlen, List.length_take] at hlt; omega
    rw [List.getElem?_take, if_pos hic] at e1
    obtain ⟨cells, elem, q1, q2, q3, q4⟩ := hi.box i blk ds e1 (by
      show (hp ++ s.heap.drop c.heapLen)[i]? = _
      rw [List.getElem?_append_left hlt]; exact hds)
    cases hraw : c.raw.contains i with
    | true =>
      rw [hraw] at hcs
      simp only at hcs
      subst hcs
      have hflat := hasks _ (List.mem_map.2 ⟨i, by simpa using hraw, rfl⟩)
      have hgd : ((c.boxes 0 hp).getD i []) = ds := by rw [List.getD_eq_getElem?_getD, e20]; rfl
      refine ⟨cells, elem, q1, q2, fun j v x hv hx => ?_, q4⟩
      obtain ⟨z1, z2⟩ := q3 j v x hv hx
      obtain ⟨p, rfl⟩ := hflat x (by
        show x ∈ (c.boxes 0 hp).getD i []
        rw [hgd]
        exact List.mem_of_getElem? hx)
      exact ⟨z1, .v (show PRep G.lim w v p from vp_rep z2)⟩
    | false =>
    rw [hraw] at hcs
    simp only at hcs
    subst hcs
    refine ⟨cells, elem, q1, by simp [q2], fun j v x hv hx => ?_, q4⟩
    rw [List.getElem?_map] at hx
    obtain ⟨y, hy, rfl⟩ := Option.map_eq_some_iff.1 hx
    obtain ⟨z1, z2⟩ := q3 j v y hv hy
    exact ⟨z1, cut_rep z2⟩
  · have := hi.nodup
    rw [List.nodup_append] at this ⊢
    exact ⟨this.1, this.2.1.sublist (List.take_sublist _ _), fun a ha b hb => this.2.2 a ha b (hsub b hb)⟩
  · obtain ⟨u, hu, hb⟩ := get2 e1
    obtain ⟨a1, a2, a3⟩ := hi.tok u b n hb (getT hu e2)
    exact ⟨fun hm => a1 ((List.mem_append.1 hm).elim (List.mem_append_left _) fun h => List.mem_append_right _ (hsub b h)), a2, a3⟩
  · obtain ⟨u, hu, hb⟩ := get2 e1
    obtain ⟨u', hu', hb'⟩ := get2 e2
    have := hi.tdis u u' b n n' hb hb' (getT hu e3) (getT hu' e4)
    subst this
    exact (List.getElem?_inj (List.getElem?_eq_some_iff.1 hu).1 hnd).1 (hu.trans hu'.symm)
  · have e2 : (l.map fun a => c.tok (a.killTo c.heapLen))[t]? = some x := e2
    rw [List.getElem?_map] at e2
    obtain ⟨y, hy, rfl⟩ := Option.map_eq_some_iff.1 e2
    exact cut_rep (k.rep t v y e1 hy)

end
end Go.Ab
