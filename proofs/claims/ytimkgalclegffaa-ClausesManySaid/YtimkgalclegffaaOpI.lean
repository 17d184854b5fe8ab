/-
Boxes, tokens: what they come to in memory is what the evaluator says. All operations but calls of functions.
-/
import Derived.Test.YtimkgalclegffaaOpH
namespace Go.Ab
open Go

section
variable {P : Program} {prim : FuncId → List AV → List AV → Prop} {w0 : World} {lim0 : Nat → Nat} {O : Nat → Prop} {G : Gh} {toks : List (Option Nat)} {outer heap : List (List AV)} {w : World}

theorem sem_keep {e : Operand → Value} {ρ : Operand → AV} {t len : Nat} {parts : Array (Nat × Operand)} {rows : List (List PV)} {l : List Prop} (hi : Inv w0 lim0 O G toks outer heap w) (hx : ∀ p ∈ parts.toList, ARep G toks w (e p.2) (ρ p.2))
    (h : plain P (.buildSlice t len parts) .d ρ = some (.v (.sl rows), l)) :
    Does P (do pure (.value (← Instr.buildSlice t len (parts.map fun (i, x) => (i, e x))))) w
      (Good w0 lim0 O G toks w { v := .own toks.length rows, toks := toks ++ [some rows.length], outer, heap, obls := l }) := by
  obtain ⟨X, elem, n, hrun, hF⟩ := sem_buildSlice hi hx h
  refine .of_value hrun ?_
  have hrep := hF.rep (elem := elem) hi
  obtain ⟨i1, k1⟩ := hi.alloc (.cells X elem) X.size
  have hfresh : ∀ (t' : Nat) k, G.tb[t']? = some (some w.heap.size) → toks[t']? = some (some k) → False := fun t' k h1 h2 => by
    have := (hi.tok t' _ _ h1 h2).2.1
    omega
  obtain ⟨i2, k2⟩ := i1.pushTok (o := some rows.length) (ob := some w.heap.size) (fun nb hnb => by
    obtain rfl := Option.some.inj hnb
    refine ⟨fun hmem => ?_, by rw [size_alloc]; omega, fun hlt => ?_, hfresh⟩
    · have := (hi.blk_lt hmem).1; omega
    · have := hi.frame.size; omega)
  refine ⟨_, ?_, i2, k1.trans k2⟩
  refine .own (by simp) (fun n hn => ?_) (hrep.grow k2.grow) ?_
  · simp at hn; omega
  · intro _ hlt
    omega

/-- What an operation comes to that neither sees nor turns boxes and tokens. -/
theorem sem_viaPlain {e : Operand → Value} {ρ : Operand → AV} {o : Oper} {k : Kd} {r r' : Res} {toks' : List (Option Nat)} {outer' heap' : List (List AV)} (hi : Inv w0 lim0 O G toks outer heap w)
    (hop : Opnds G toks w e ρ o.op) (h : (plain P o.op k ρ).map (fun (v, l) => ({ v, toks := toks', outer := outer', heap := heap', obls := l } : Res)) = some r')
    (hr : r = { r' with toks := toks, outer := outer, heap := heap }) (ho : ∀ q ∈ r.obls, q) : Does P (execOp e o) w (Good w0 lim0 O G toks w r) := by
  obtain ⟨⟨v, l⟩, hp, rfl⟩ := Option.map_eq_some_iff.1 h
  subst hr
  exact (plain_sim hi hop hp ho).does

theorem sem_append' {e : Operand → Value} {ρ : Operand → AV} {o : Oper} {r : Res} {args : Array Operand} {ats : Array TypeId} {k : Kd} (hi : Inv w0 lim0 O G toks outer heap w)
    (hx : ∀ x ∈ args.toList, ARep G toks w (e x) (ρ x)) (hop : o.op = .call { callee := .builtin .append, args := args, argTypes := ats })
    (h : core P (.call { callee := .builtin .append, args := args, argTypes := ats }) k ρ toks [] [] = some r) (ho : ∀ q ∈ r.obls, q) :
    Does P (execOp e o) w (Good w0 lim0 O G toks w { r with outer := outer, heap := heap }) := by
  simp only [core] at h
  split at h <;> (try (simp at h; done))
  rename_i s x t t' ha hat
  split at h <;> (try (simp at h; done))
  rename_i e1 e2 ys ht htx hys
  split at h <;> (try (simp at h; done))
  rename_i n by' z hs hb hz
  split at h <;> (try (simp at h; done))
  rename_i hdec
  obtain ⟨hzn, hn, hby⟩ := of_decide_eq_true hdec
  obtain ⟨⟨v, toks', l⟩, hap, rfl⟩ := Option.map_eq_some_iff.1 h
  have hs' := hx s (by rw [ha]; simp)
  have hx' := (hx x (by rw [ha]; simp)).rows hys
  obtain ⟨u, G', w', h1, h2⟩ := sem_append (P := P) (ty := o.type) hi hs' hx' ht htx hs hb hz hzn hby hap ho
  have ea : args = #[s, x] := by rw [← Array.toList_inj, ha]
  have et : ats = #[t, t'] := by rw [← Array.toList_inj, hat]
  refine .of_value (v := u) (w' := w') ?_ ⟨G', h2⟩
  rw [ea, et] at hop
  simp [execOp, hop, resolve, invoke, builtin, h1]

theorem sem_sim0 {e : Operand → Value} {ρ : Operand → AV} {o : Oper} {k : Kd} {r : Res} (hi : Inv w0 lim0 O G toks outer heap w)
    (hop : Opnds G toks w e ρ o.op) (h : sem P o.op k ρ toks outer heap = some r) (ho : ∀ q ∈ r.obls, q)
    (hcall : ∀ f args ats, o.op ≠ .call { callee := .value f, args := args, argTypes := ats }) : Does P (execOp e o) w (Good w0 lim0 O G toks w r) := by
  obtain ⟨dst, op, type, pos, after, guard⟩ := o
  cases op
  case alloc t =>
    simp only [sem, clsOf, core] at h
    split at h <;> (try (simp at h; done))
    rename_i r' hr
    split at hr <;> (try (simp at hr; done))
    · split at hr <;> (try (simp at hr; done))
      rename_i zv hzv
      split at hr <;> (try (simp at hr; done))
      rename_i hone
      simp only [Option.some.injEq] at hr h
      subst hr
      subst h
      obtain ⟨v, G', w', h1, h2⟩ := sem_alloc0 (P := P) hi hzv hone
      exact .of_value h1 ⟨G', h2⟩
    rename_i z n _ hne hz hs
    split at hr <;> (try (simp at hr; done))
    rename_i hzn
    simp only [Option.some.injEq] at hr h
    subst hr
    subst h
    obtain ⟨v, G', w', h1, h2⟩ := sem_alloc (P := P) hi hz (fun hc => hne hc) (n := n)
    exact .of_value h1 ⟨G', h2⟩
  case makeSlice t x y =>
    have hx := hop x (by simp [Op.operands])
    have hy := hop y (by simp [Op.operands])
    simp only [sem, clsOf, core] at h
    split at h <;> (try (simp at h; done))
    rename_i r' hr
    split at hr <;> (try (simp at hr; done))
    rename_i el hu
    split at hr <;> (try (simp at hr; done))
    rename_i n by' z k1 m k2 m' hs hb hz hρx hρy
    split at hr <;> (try (simp at hr; done))
    rename_i hdec
    obtain ⟨hzn, hn, hby⟩ := of_decide_eq_true hdec
    simp only [Option.some.injEq] at hr h
    subst hr
    subst h
    rw [hρx] at hx
    rw [hρy] at hy
    have hm : m' = m := ho _ (List.mem_cons_self ..)
    subst hm
    obtain ⟨v, G', w', h1, h2⟩ := sem_makeSlice (P := P) hi hx hy hu hs hb hz hzn hn hby (ho _ (List.mem_cons_of_mem _ (List.mem_cons_self ..))) (ho _ (List.mem_cons_of_mem _ (List.mem_cons_of_mem _ (List.mem_cons_self ..))))
    exact .of_value h1 ⟨G', h2⟩
  case box t x =>
    simp only [sem, clsOf, core] at h
    split at h <;> (try (simp at h; done))
    rename_i r' hr
    split at hr <;> (try (simp at hr; done))
    rename_i n hs h1 h2 h3
    split at hr <;> (try (simp at hr; done))
    simp only [Option.some.injEq] at hr h
    subst hr
    subst h
    obtain ⟨v, G', w', e1, e2⟩ := sem_box (P := P) (t := t) hi (hop x (by simp [Op.operands])) (fun hc => h1 hc) (fun l hc => h2 l hc) (fun c b hc => h3 c b hc)
    exact .of_value e1 ⟨G', e2⟩
  case store t x y =>
    have hx := hop x (by simp [Op.operands])
    have hy := hop y (by simp [Op.operands])
    by_cases hk : ∃ cs, k = .box cs
    · obtain ⟨cs, rfl⟩ := hk
      simp only [sem, clsOf, core] at h
      split at h <;> (try (simp at h; done))
      rename_i r' hr
      split at hr <;> (try (simp at hr; done))
      rename_i b off hρ
      split at hr <;> (try (simp at hr; done))
      rename_i cs' hst
      split at hr <;> (try (simp at hr; done))
      rename_i hout
      simp only [Option.some.injEq] at hr h
      subst hr
      subst h
      rw [hρ] at hx
      obtain ⟨w', h1, h2⟩ := sem_storeO hi hx hy (ho _ (by simp)) hst hout
      exact .of_skip h1 ⟨G, h2⟩
    by_cases hk2 : ∃ cs cs', k = .put cs cs'
    · obtain ⟨cs, cs', rfl⟩ := hk2
      simp only [sem, clsOf, core] at h
      split at h <;> (try (simp at h; done))
      rename_i r' hr
      split at hr <;> (try (simp at hr; done))
      · rename_i b off hρ
        split at hr <;> (try (simp at hr; done))
        rename_i old hb
        simp only [Option.some.injEq] at hr h
        subst hr
        subst h
        rw [hρ] at hx
        simp only [Bool.true_or, if_true] at hb
        obtain ⟨w', h1, h2⟩ := sem_store hi hx hy hb (ho _ (List.mem_cons_self ..))
        simp only [Bool.true_or, if_true]
        exact .of_skip h1 ⟨G, h2⟩
      rename_i b off hρ
      split at hr <;> (try (simp at hr; done))
      rename_i hout
      simp only [Option.some.injEq] at hr h
      subst hr
      subst h
      rw [hρ] at hx
      obtain ⟨w', h1, h2⟩ := sem_storeO hi hx hy (ho _ (by simp)) (ho (storeIn P t cs off (ρ y) = some cs') (by simp)) hout
      exact .of_skip h1 ⟨G, h2⟩
    · have h' : (match ρ x with
        | .ptr b off => match heap[b]? with
          | some old => match storeIn P t old off (ρ y) with
            | some cs => some ({ v := .none, toks, outer, heap := heap.set b cs } : Res)
            | .none => .none
          | .none => .none
        | _ => .none) = some r := by
        cases k <;> first
          | exact (hk ⟨_, rfl⟩).elim
          | exact (hk2 ⟨_, _, rfl⟩).elim
          | (simp only [sem, clsOf, core] at h
             split at h <;> (try (simp at h; done))
             rename_i r' hr
             split at hr <;> (try (simp at hr; done))
             rename_i b off hρ
             split at hr <;> (try (simp at hr; done))
             rename_i old hb
             split at hr <;> (try (simp at hr; done))
             rename_i cs hst
             simp only [Option.some.injEq] at hr h
             subst hr
             subst h
             simp only [Bool.true_or, if_true] at hb
             simp [hρ, hb, hst])
      split at h' <;> (try (simp at h'; done))
      rename_i b off hρ
      split at h' <;> (try (simp at h'; done))
      rename_i old hb
      split at h' <;> (try (simp at h'; done))
      rename_i cs hst
      simp only [Option.some.injEq] at h'
      subst h'
      rw [hρ] at hx
      obtain ⟨w', h1, h2⟩ := sem_store hi hx hy hb hst
      exact .of_skip h1 ⟨G, h2⟩
  case load t x =>
    have hx := hop x (by simp [Op.operands])
    cases k
    case h =>
      simp only [sem, clsOf, core] at h
      split at h <;> (try (simp at h; done))
      rename_i r' hr
      split at hr <;> (try (simp at hr; done))
      rename_i b off hρ
      split at hr <;> (try (simp at hr; done))
      rename_i cs hb
      obtain ⟨v, hv, rfl⟩ := Option.map_eq_some_iff.1 hr
      simp only [Option.some.injEq] at h
      subst h
      rw [hρ] at hx
      exact (sem_loadH hi hx hb hv).does
    case cell c =>
      simp only [sem, clsOf, core] at h
      split at h <;> (try (simp at h; done))
      rename_i r' hr
      split at hr <;> (try (simp at hr; done))
      rename_i b off hρ hag hsz
      split at hr <;> (try (simp at hr; done))
      rename_i cs hb
      simp only [Option.some.injEq] at hr h
      subst hr
      subst h
      rw [hρ] at hx
      exact (sem_loadC hi hx hb hag (ho _ (by simp))).does
    case boxAt cs c =>
      simp only [sem, clsOf, core] at h
      split at h <;> (try (simp at h; done))
      rename_i r' hr
      split at hr <;> (try (simp at hr; done))
      rename_i b off hρ hag hsz
      simp only [Option.some.injEq] at hr h
      subst hr
      subst h
      rw [hρ] at hx
      have hc : cs[off]? = some c := ho (cs[off]? = some c) (List.mem_cons_of_mem _ (List.mem_cons_self ..))
      exact (sem_loadO hi hx (ho _ (List.mem_cons_self ..)) (by unfold varOf; rw [hag, hsz]; exact hc)).does
    case box cs =>
      simp only [sem, clsOf, core] at h
      split at h <;> (try (simp at h; done))
      rename_i r' hr
      split at hr <;> (try (simp at hr; done))
      rename_i b off hρ
      obtain ⟨v, hv, rfl⟩ := Option.map_eq_some_iff.1 hr
      simp only [Option.some.injEq] at h
      subst h
      rw [hρ] at hx
      exact (sem_loadO hi hx (ho _ (by simp)) hv).does
    all_goals
      simp only [sem, clsOf, core] at h
      split at h <;> (try (simp at h; done))
      rename_i r' hr
      simp only [Option.some.injEq] at h
      exact sem_viaPlain hi hop hr h.symm ho
  case buildSlice t len parts =>
    have hx : ∀ p ∈ parts.toList, ARep G toks w (e p.2) (ρ p.2) := fun p hp => hop p.2 (by simp only [Op.operands]; exact List.mem_map.2 ⟨p, hp, rfl⟩)
    cases k
    case keep =>
      simp only [sem, clsOf, core] at h
      split at h <;> (try (simp at h; done))
      rename_i r' hr
      split at hr <;> (try (simp at hr; done))
      rename_i rows l hp
      simp only [Option.some.injEq] at hr h
      subst hr
      subst h
      exact sem_keep hi hx hp
    all_goals
      simp only [sem, clsOf, core] at h
      split at h <;> (try (simp at h; done))
      rename_i r' hr
      simp only [Option.some.injEq] at h
      exact sem_viaPlain hi hop hr h.symm ho
  case call c =>
    obtain ⟨callee, args, argTypes⟩ := c
    cases callee with
    | value f => exact (hcall _ _ _ rfl).elim
    | invoke a b =>
      cases k <;>
      · simp only [sem, clsOf, core] at h
        split at h <;> (try (simp at h; done))
        rename_i r' hr
        simp [plain] at hr
    | builtin b =>
      have hx : ∀ x ∈ args.toList, ARep G toks w (e x) (ρ x) := fun x hx => hop x (by simp only [Op.operands, Call.operands]; simpa using hx)
      by_cases hb : b = .append
      · subst hb
        have h' : core P (.call { callee := .builtin .append, args := args, argTypes := argTypes }) k ρ toks [] [] = some { r with outer := [], heap := [] } ∧ r.outer = outer ∧ r.heap = heap := by
          cases k <;>
          · simp only [sem, clsOf] at h
            split at h <;> (try (simp at h; done))
            rename_i r' hr
            simp only [Option.some.injEq] at h
            subst h
            simp only [if_true, Bool.or_self, Bool.false_eq_true, if_false] at hr ⊢
            refine ⟨?_, trivial, trivial⟩
            rw [hr]
            have : r'.outer = [] ∧ r'.heap = [] := by
              simp only [core] at hr
              split at hr <;> (try (simp at hr; done))
              split at hr <;> (try (simp at hr; done))
              split at hr <;> (try (simp at hr; done))
              split at hr <;> (try (simp at hr; done))
              obtain ⟨_, _, rfl⟩ := Option.map_eq_some_iff.1 hr
              exact ⟨rfl, rfl⟩
            obtain ⟨rv, rt, ro, rh, rb, rc⟩ := r'
            obtain ⟨rfl, rfl⟩ := this
            rfl
        obtain ⟨hc, h1, h2⟩ := h'
        have := sem_append' (outer := outer) (heap := heap) hi hx (o := ⟨dst, .call { callee := .builtin .append, args := args, argTypes := argTypes }, type, pos, after, guard⟩) rfl hc ho
        simp only [← h1, ← h2] at this
        exact this
      · have : ∀ t ou hh, core P (.call { callee := .builtin b, args := args, argTypes := argTypes }) k ρ t ou hh = (plain P (.call { callee := .builtin b, args := args, argTypes := argTypes }) k ρ).map fun (v, l) => { v, toks := t, outer := ou, heap := hh, obls := l } := by
          intro t ou hh
          cases b <;> first | exact (hb rfl).elim | (cases k <;> rfl)
        have hcl : clsOf (.call { callee := .builtin b, args := args, argTypes := argTypes }) k = {} := by
          cases b <;> first | exact (hb rfl).elim | (cases k <;> rfl)
        simp only [sem, hcl, this] at h
        split at h <;> (try (simp at h; done))
        rename_i r' hr
        simp only [Option.some.injEq] at h
        exact sem_viaPlain hi hop hr h.symm ho
  all_goals
    simp only [sem, clsOf, core] at h
    split at h <;> (try (simp at h; done))
    rename_i r' hr
    simp only [Option.some.injEq] at h
    exact sem_viaPlain hi hop hr h.symm ho

end
end Go.Ab
