/-
Regions that draw their order: the evaluator's steps commute where they may be taken in another order.
-/
import Derived.Test.YtimkgalclegffaaOpN
namespace Go.Ab
open Go

section
variable {P : Program} {prim : FuncId → List AV → List AV → Prop} {w0 : World} {lim0 : Nat → Nat} {O : Nat → Prop} {obs0 : List Nat} {G : Gh} {s : St} {a : Act} {w : World}

theorem fillCells_congr {pl : Nat → Option (Nat × Nat)} {ρ ρ' : Operand → AV} : ∀ (ps : List (Nat × Operand)) (cs : List PV), (∀ p ∈ ps, ρ p.2 = ρ' p.2) → fillCells pl ρ ps cs = fillCells pl ρ' ps cs
  | [], cs, h => rfl
  | (i, x) :: ps, cs, h => by
    have hx : ρ x = ρ' x := h (i, x) (List.mem_cons_self ..)
    have ih := fun cs => fillCells_congr (pl := pl) ps cs fun p hp => h p (List.mem_cons_of_mem _ hp)
    simp only [fillCells, hx, ih]

theorem fillRows_congr {n : Nat} {ρ ρ' : Operand → AV} : ∀ (ps : List (Nat × Operand)) (cs : List (List PV)), (∀ p ∈ ps, ρ p.2 = ρ' p.2) → fillRows n ρ ps cs = fillRows n ρ' ps cs
  | [], cs, h => rfl
  | (i, x) :: ps, cs, h => by
    have hx : ρ x = ρ' x := h (i, x) (List.mem_cons_self ..)
    have ih := fun cs => fillRows_congr (n := n) ps cs fun p hp => h p (List.mem_cons_of_mem _ hp)
    simp only [fillRows, hx, ih]

theorem map_congr_ops {ρ ρ' : Operand → AV} {l : List Operand} (h : ∀ x ∈ l, ρ x = ρ' x) : l.map ρ = l.map ρ' := List.map_congr_left h

theorem plain_congr {o : Op} {k : Kd} {ρ ρ' : Operand → AV} (h : ∀ x ∈ o.operands.toList, ρ x = ρ' x) : plain P o k ρ = plain P o k ρ' := by
  cases o
  case build t parts =>
    have hp : ∀ p ∈ parts.toList, ρ p.2 = ρ' p.2 := fun p hp => h p.2 (by simp only [Op.operands]; exact List.mem_map.2 ⟨p, hp, rfl⟩)
    simp only [plain]
    split
    · rw [fillCells_congr _ _ hp]
    · rfl
  case buildSlice t n parts =>
    have hp : ∀ p ∈ parts.toList, ρ p.2 = ρ' p.2 := fun p hp => h p.2 (by simp only [Op.operands]; exact List.mem_map.2 ⟨p, hp, rfl⟩)
    cases k <;> simp only [plain]
    split
    · split
      · rw [fillRows_congr _ _ hp]
      · rfl
    · rfl
  case makeFunc f first cap =>
    simp only [plain]
    rw [map_congr_ops (l := first.toList) fun x hx => h x (by simp only [Op.operands, Array.toList_append]; exact List.mem_append_left _ hx),
      map_congr_ops (l := cap.toList) fun x hx => h x (by simp only [Op.operands, Array.toList_append]; exact List.mem_append_right _ hx)]
  case call c =>
    obtain ⟨callee, args, ats⟩ := c
    cases callee with
    | builtin b =>
      cases b <;> (try (cases k <;> rfl))
      all_goals
        simp only [plain]
        split
        · rename_i x t hx ht
          rw [h x (by simp only [Op.operands, Call.operands]; simp [hx])]
        · rfl
    | _ => cases k <;> rfl
  case slice t x lo hi mx =>
    have h1 : ρ x = ρ' x := h x (by simp [Op.operands])
    have h2 : lo.map ρ = lo.map ρ' := by cases lo with | none => rfl | some y => simp [h y (by simp [Op.operands])]
    have h3 : hi.map ρ = hi.map ρ' := by cases hi with | none => rfl | some y => simp [h y (by simp [Op.operands])]
    simp only [plain, h1, h2, h3]
  case pick c x y =>
    have h1 : ρ c = ρ' c := h c (by simp [Op.operands])
    have h2 : ρ x = ρ' x := h x (by simp [Op.operands])
    have h3 : ρ y = ρ' y := h y (by simp [Op.operands])
    cases k <;> simp only [plain, h1, h2, h3]
  case load t x =>
    have h1 : ρ x = ρ' x := h x (by simp [Op.operands])
    cases k <;> simp only [plain, h1]
  case binOp op t x y t' =>
    have h1 : ρ x = ρ' x := h x (by simp [Op.operands])
    have h2 : ρ y = ρ' y := h y (by simp [Op.operands])
    simp only [plain, h1, h2]
  case indexAddr t x y =>
    have h1 : ρ x = ρ' x := h x (by simp [Op.operands])
    have h2 : ρ y = ρ' y := h y (by simp [Op.operands])
    cases k <;> simp only [plain, h1, h2]
  case index t x y =>
    have h1 : ρ x = ρ' x := h x (by simp [Op.operands])
    have h2 : ρ y = ρ' y := h y (by simp [Op.operands])
    simp only [plain, h1, h2]
  case move x => simp only [plain, h x (by simp [Op.operands])]
  case assign x => simp only [plain, h x (by simp [Op.operands])]
  case nilCheck x => simp only [plain, h x (by simp [Op.operands])]
  case unOp op t x => simp only [plain, h x (by simp [Op.operands])]
  case convert s d x =>
    have h1 : ρ x = ρ' x := h x (by simp [Op.operands])
    simp only [plain, h1]
  case fieldAddr t x f => simp only [plain, h x (by simp [Op.operands])]
  case field t x f => simp only [plain, h x (by simp [Op.operands])]
  case extract x f => simp only [plain, h x (by simp [Op.operands])]
  all_goals (cases k <;> rfl)

theorem core_congr {o : Op} {k : Kd} {ρ ρ' : Operand → AV} {T : List (Option Nat)} {ou he : List (List AV)} (h : ∀ x ∈ o.operands.toList, ρ x = ρ' x) : core P o k ρ T ou he = core P o k ρ' T ou he := by
  have hp := plain_congr (P := P) (k := k) h
  cases o
  case box t x => simp only [core, h x (by simp [Op.operands])]
  case makeSlice t x y =>
    have h1 : ρ x = ρ' x := h x (by simp [Op.operands])
    have h2 : ρ y = ρ' y := h y (by simp [Op.operands])
    simp only [core, h1, h2]
  case store t x y =>
    have h1 : ρ x = ρ' x := h x (by simp [Op.operands])
    have h2 : ρ y = ρ' y := h y (by simp [Op.operands])
    cases k <;> simp only [core, h1, h2]
  case load t x =>
    have h1 : ρ x = ρ' x := h x (by simp [Op.operands])
    cases k <;> simp only [core, h1, hp]
  case buildSlice t n parts =>
    cases k <;> simp only [core, hp]
    rw [plain_congr (k := .d) h]
  case call c =>
    obtain ⟨callee, args, ats⟩ := c
    cases callee with
    | builtin b =>
      by_cases hb : b = .append
      · subst hb
        simp only [core]
        split
        · rename_i x y t t' hx ht
          rw [h x (by simp only [Op.operands, Call.operands]; simp [hx]), h y (by simp only [Op.operands, Call.operands]; simp [hx])]
        · rfl
      · have : ∀ r, core P (.call { callee := .builtin b, args := args, argTypes := ats }) k r T ou he = (plain P (.call { callee := .builtin b, args := args, argTypes := ats }) k r).map fun (v, l) => { v, toks := T, outer := ou, heap := he, obls := l } := by
          intro r
          cases b <;> first | exact (hb rfl).elim | (cases k <;> rfl)
        rw [this, this, hp]
    | invoke x n => cases k <;> rfl
    | value f =>
      have hf : ρ f = ρ' f := h f (by simp [Op.operands, Call.operands])
      have ha : args.toList.map ρ = args.toList.map ρ' := map_congr_ops fun x hx => h x (by
        simp only [Op.operands, Call.operands, Array.toList_append]
        exact List.mem_append_right _ hx)
      cases k <;> simp only [core, hf, ha] <;> rfl
  all_goals (simp only [core, hp])

theorem sem_congr {o : Op} {k : Kd} {ρ ρ' : Operand → AV} {T T' : List (Option Nat)} {ou he ou' he' : List (List AV)} {r : Res} (h : ∀ x ∈ o.operands.toList, ρ x = ρ' x)
    (ht : (clsOf o k).tk = true → T' = T) (hh : ((clsOf o k).hr || (clsOf o k).hw) = true → ou' = ou ∧ he' = he) (hs : sem P o k ρ T ou he = some r) :
    sem P o k ρ' T' ou' he' = some { r with toks := if (clsOf o k).tk then r.toks else T', outer := if (clsOf o k).hw then r.outer else ou', heap := if (clsOf o k).hw then r.heap else he' } := by
  unfold sem at hs ⊢
  simp only at hs ⊢
  have e1 : (if (clsOf o k).tk = true then T' else []) = if (clsOf o k).tk = true then T else [] := by
    split
    · rename_i hc; rw [ht hc]
    · rfl
  have e2 : (if ((clsOf o k).hr || (clsOf o k).hw) = true then ou' else []) = if ((clsOf o k).hr || (clsOf o k).hw) = true then ou else [] := by
    split
    · rename_i hc; rw [(hh hc).1]
    · rfl
  have e3 : (if ((clsOf o k).hr || (clsOf o k).hw) = true then he' else []) = if ((clsOf o k).hr || (clsOf o k).hw) = true then he else [] := by
    split
    · rename_i hc; rw [(hh hc).2]
    · rfl
  rw [e1, e2, e3, ← core_congr h]
  split at hs <;> (try (simp at hs; done))
  simp only [Option.some.injEq] at hs ⊢
  subst hs
  simp only [Res.mk.injEq, true_and, and_true]
  refine ⟨?_, ?_, ?_⟩ <;> split <;> rfl

/-! ### steps -/

/-- What a step makes of a state. -/
structure Eff where
  v : AV
  toks : List (Option Nat)
  outer : List (List AV)
  heap : List (List AV)

def Eff.on (f : Eff) (c : Cls) (d : Option Tmp) (s : St) : St :=
  { tmps := s.put d f.v, toks := if c.tk then f.toks else s.toks, outer := if c.hw then f.outer else s.outer, heap := if c.hw then f.heap else s.heap }

def St.like (s s' : St) (c : Cls) (rd : List Tmp) : Prop :=
  (∀ t ∈ rd, s'.tmps.getD t .none = s.tmps.getD t .none) ∧ (c.tk = true → s'.toks = s.toks) ∧ ((c.hr || c.hw) = true → s'.outer = s.outer ∧ s'.heap = s.heap)

theorem evOf_like {l l' : List AV} {x : Operand} (h : ∀ t, x = .tmp t → l'.getD t .none = l.getD t .none) : evOf l' x = evOf l x := by
  cases x with
  | tmp t => exact h t rfl
  | _ => rfl

theorem needs_like {l l' : List AV} {o : Op} (h : ∀ x ∈ o.operands.toList, evOf l' x = evOf l x) : needs l' o = needs l o := by
  have std : (o.operands.toList.flatMap fun x => (evOf l' x).conds.map (fun D => D = true)) = o.operands.toList.flatMap fun x => (evOf l x).conds.map (fun D => D = true) := by
    rw [List.flatMap_def, List.flatMap_def]
    congr 1
    exact List.map_congr_left fun x hx => by rw [h x hx]
  cases o with
  | pick c x y => simp only [needs, h c (by simp [Op.operands]), h x (by simp [Op.operands]), h y (by simp [Op.operands])]
  | _ => exact std

theorem reads_op {ops : List Oper} {o : Oper} {x : Operand} {t : Tmp} (hx : x ∈ o.op.operands.toList) (ht : x = .tmp t) : t ∈ readsOf ops o := by
  subst ht
  exact List.mem_append_left _ (List.mem_filterMap.2 ⟨.tmp t, hx, rfl⟩)

theorem doOp_eff {o : Oper} {k : Kd} {gd : Option Bool} {s : St} {x : Step} {ops : List Oper} (h : doOp P o k gd s = some x) :
    ∃ f : Eff, x.st = f.on (clsOf o.op k) o.dst s ∧ ∀ s', s.like s' (clsOf o.op k) (readsOf ops o) → doOp P o k gd s' = some { st := f.on (clsOf o.op k) o.dst s', obls := x.obls, calls := x.calls } := by
  unfold doOp at h
  split at h <;> (try (simp at h; done))
  rename_i r hr
  split at h <;> (try (simp at h; done))
  rename_i hcl
  simp only [Option.some.injEq] at h
  subst h
  have hown : ({ r with toks := if (clsOf o.op k).tk then r.toks else s.toks, outer := if (clsOf o.op k).hw then r.outer else s.outer, heap := if (clsOf o.op k).hw then r.heap else s.heap } : Res) = r := by
    have := sem_congr (P := P) (o := o.op) (k := k) (fun x _ => rfl) (fun _ => rfl) (fun _ => ⟨rfl, rfl⟩) hr
    rw [hr] at this
    exact (Option.some.inj this).symm
  refine ⟨⟨optG gd r.v, r.toks, r.outer, r.heap⟩, ?_, fun s' hl => ?_⟩
  · simp only [Eff.on, St.mk.injEq, true_and]
    exact ⟨(congrArg Res.toks hown).symm, (congrArg Res.outer hown).symm, (congrArg Res.heap hown).symm⟩
  · obtain ⟨l1, l2, l3⟩ := hl
    have hev : ∀ x ∈ o.op.operands.toList, evOf s'.tmps x = evOf s.tmps x := fun x hx => evOf_like fun t ht => l1 t (reads_op hx ht)
    have hr' := sem_congr (P := P) (ρ' := fun x => (evOf s'.tmps x).strip) (T' := s'.toks) (ou' := s'.outer) (he' := s'.heap) (fun x hx => by rw [hev x hx]) l2 l3 hr
    unfold doOp
    rw [hr']
    simp only [hcl, needs_like hev]
    rfl

theorem skip_eff (o : Oper) (c : Cls) (s : St) (l : List Prop) : ((skipOp o s).also l).st = (⟨.opt false .none, s.toks, s.outer, s.heap⟩ : Eff).on c o.dst s := by
  simp only [Step.also, skipOp, Eff.on, St.mk.injEq, true_and]
  refine ⟨?_, ?_, ?_⟩ <;> split <;> rfl

theorem guardOf_like {ops : List Oper} {o : Oper} {s s' : St} {c : Cls} {j : Nat} {want : Bool} (hg : o.guard = some (j, want)) (hl : s.like s' c (readsOf ops o)) (w : Bool) : guardOf ops s' j w = guardOf ops s j w := by
  unfold guardOf
  split
  · rename_i t ht
    rw [hl.1 t (List.mem_append_right _ (by simp [hg, ht]))]
  · rfl

/-- a step that is not taken leaves toks, boxes alone, whatever they are -/
theorem op1_eff {ops : List Oper} {es : List En} {i : Nat} {s : St} {x : Step} {o : Oper} (ho : ops[i]? = some o) (h : op1 P ops es i s = some x) :
    ∃ c : Cls, (c.tk = true → (clsOf o.op (es.getD i {}).k).tk = true) ∧ (c.hr = true → (clsOf o.op (es.getD i {}).k).hr = true) ∧ (c.hw = true → (clsOf o.op (es.getD i {}).k).hw = true) ∧ ∃ f : Eff, x.st = f.on c o.dst s ∧
      ∀ s', s.like s' c (readsOf ops o) → op1 P ops es i s' = some { st := f.on c o.dst s', obls := x.obls, calls := x.calls } := by
  unfold op1 at h ⊢
  simp only [ho] at h ⊢
  have run : ∀ {gd : Option Bool} {y : Step}, doOp P o (es.getD i {}).k gd s = some y → ∃ c : Cls, (c.tk = true → (clsOf o.op (es.getD i {}).k).tk = true) ∧ (c.hr = true → (clsOf o.op (es.getD i {}).k).hr = true) ∧ (c.hw = true → (clsOf o.op (es.getD i {}).k).hw = true) ∧ ∃ f : Eff, y.st = f.on c o.dst s ∧
      ∀ s', s.like s' c (readsOf ops o) → doOp P o (es.getD i {}).k gd s' = some { st := f.on c o.dst s', obls := y.obls, calls := y.calls } := by
    intro gd y hy
    obtain ⟨f, h1, h2⟩ := doOp_eff (ops := ops) hy
    exact ⟨_, id, id, id, f, h1, h2⟩
  split at h
  · rename_i hg1 hg2
    exact run h
  · simp at h
  · rename_i g j want hgo
    split at h <;> (try (simp at h; done))
    rename_i gv hgv
    have hgl : ∀ {s' : St} {c : Cls}, s.like s' c (readsOf ops o) → guardOf ops s' j want = some gv := fun hl => (guardOf_like hgo hl want).trans hgv
    split at h
    · rename_i heq
      split at h
      · obtain ⟨c, c1, c2, c3, f, h1, h2⟩ := run h
        exact ⟨c, c1, c2, c3, f, h1, fun s' hl => by rw [hgl hl]; exact h2 s' hl⟩
      · simp only [Option.some.injEq] at h
        subst h
        exact ⟨{}, by simp, by simp, by simp, ⟨.opt false .none, s.toks, s.outer, s.heap⟩, skip_eff o {} s [], fun s' hl => by rw [hgl hl]; simp [skipOp, Eff.on]⟩
    · rename_i heq
      obtain ⟨y, hy, rfl⟩ := Option.map_eq_some_iff.1 h
      obtain ⟨c, c1, c2, c3, f, h1, h2⟩ := run hy
      exact ⟨c, c1, c2, c3, f, h1, fun s' hl => by rw [hgl hl]; simp only [h2 s' hl]; rfl⟩
    · rename_i heq
      simp only [Option.some.injEq] at h
      subst h
      exact ⟨{}, by simp, by simp, by simp, ⟨.opt false .none, s.toks, s.outer, s.heap⟩, skip_eff o {} s _, fun s' hl => by rw [hgl hl]; simp [skipOp, Eff.on, Step.also]⟩
    · rename_i heq
      obtain ⟨c, c1, c2, c3, f, h1, h2⟩ := run h
      exact ⟨c, c1, c2, c3, f, h1, fun s' hl => by rw [hgl hl]; exact h2 s' hl⟩

end
end Go.Ab
