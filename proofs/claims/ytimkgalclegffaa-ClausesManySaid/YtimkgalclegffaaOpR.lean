/-
A function from its begin to its end: WHAT THE EVALUATOR SAYS HOLDS.
-/
import Derived.Test.YtimkgalclegffaaOpQ
namespace Go.Ab
open Go

section
variable {P : Program} {prim : FuncId → List AV → List AV → Prop} {w0 : World} {lim0 : Nat → Nat} {O : Nat → Prop} {obs0 : List Nat} {G : Gh} {s : St} {a : Act} {w : World}

/-! ### results -/

theorem run_resVar {rv : ResultVar} {x : AV} (h : SimS w0 lim0 O obs0 G s a w) (hr : resVar P s rv = some x) :
    ∃ v, (match rv with | .tmp t => (pure (a.tmps.getD t undef) : Sem Value) | .cell c t => do loadVar t (← asAddr (a.tmps.getD c undef))).run P w = .ok v w ∧ ARep G s.toks w v x := by
  cases rv with
  | tmp t =>
    simp only [resVar, Option.some.injEq] at hr
    subst hr
    exact ⟨_, rfl, h.at t⟩
  | cell c t =>
    simp only [resVar] at hr
    split at hr <;> (try (simp at hr; done))
    rename_i b off hc
    split at hr <;> (try (simp at hr; done))
    rename_i cs hb
    have hA := h.at c
    rw [hc] at hA
    show ∃ v, (do loadVar t (← asAddr (a.tmps.getD c undef)) : Sem Value).run P w = .ok v w ∧ ARep G s.toks w v x
    generalize a.tmps.getD c undef = V at hA ⊢
    cases hA with
    | @ptr _ _ blk hblk =>
      obtain ⟨v, hv, hrep⟩ := run_varOf (h.inv.box b blk cs hblk hb) hr
      exact ⟨v, by simp [asAddr, hv], hrep⟩

theorem run_results {fn : Func} {l : List AV} (h : SimS w0 lim0 O obs0 G s a w) (hr : resAll P s fn.results.toList = some l) :
    ∃ vs : List Value, (results fn a.tmps).run P w = .ok (wrapV vs) w ∧ Reps2 G s.toks w vs l := by
  let f : ResultVar → Sem Value := fun rv => match rv with | .tmp t => (pure (a.tmps.getD t undef) : Sem Value) | .cell c t => do loadVar t (← asAddr (a.tmps.getD c undef))
  have key : ∀ (rs : List ResultVar) (l : List AV), resAll P s rs = some l → ∃ vs : List Value, (rs.mapM f).run P w = .ok vs w ∧ Reps2 G s.toks w vs l := by
    intro rs
    induction rs with
    | nil =>
      intro l hl
      simp only [resAll, Option.some.injEq] at hl
      subst hl
      exact ⟨[], by simp, rfl, fun i v a hv => by simp at hv⟩
    | cons rv rs ih =>
      intro l hl
      unfold resAll at hl
      split at hl <;> (try (simp at hl; done))
      rename_i x l' hx hl'
      simp only [Option.some.injEq] at hl
      subst hl
      obtain ⟨v, hv, hrep⟩ := run_resVar h hx
      obtain ⟨vs, hvs, hreps⟩ := ih l' hl'
      refine ⟨v :: vs, ?_, by simp [hreps.1], fun i u y hu hy => ?_⟩
      · have hv' : (f rv).run P w = .ok v w := hv
        simp [List.mapM_cons, hv', hvs]
      · cases i with
        | zero => simp at hu hy; subst hu; subst hy; exact hrep
        | succ i => simp at hu hy; exact hreps.2 i u y hu hy
  obtain ⟨vs, hvs, hreps⟩ := key _ _ hr
  refine ⟨vs, ?_, hreps⟩
  have hm : (fn.results.mapM f).run P w = .ok vs.toArray w := by
    rw [← Array.toArray_toList (xs := fn.results)]
    rw [List.mapM_toArray]
    simp [hvs]
  have : results fn a.tmps = (do let vs ← fn.results.mapM f; pure (if h : vs.size = 1 then vs[0] else .tuple vs)) := rfl
  rw [this]
  simp only [Sem.run_bind, hm, Result.andThen_ok, Sem.run_pure]
  congr 1
  match vs with
  | [] => rfl
  | [v] => rfl
  | v :: v' :: vs => simp [wrapV]

/-- What is given back. -/
theorem giveS_rep {toks : List (Option Nat)} : ∀ (as : List AV) (used : List Nat) (r : List AV) (q : List Prop) (vs : List Value), giveS toks as used = some (r, q) → (∀ p ∈ q, p) → Reps2 G toks w vs as →
    ∃ gv : List Nat, gv.length = (resToks r).length ∧ gv.Nodup ∧ (∀ t ∈ gv, t ∉ used) ∧ (∀ (k : Nat) t, gv[k]? = some t → ∃ n, toks[t]? = some (some n) ∧ (resToks r)[k]? = some (some n)) ∧
      ∀ (pre : List (Option Nat)) (prer : List (Option Nat)), pre.length = used.length → prer.length = used.length →
        Reps2 ⟨G.lim, G.obs, [], pre ++ gv.map fun t => (G.tb[t]?).join⟩ (prer ++ resToks r) w vs r
  | [], used, r, q, vs, h, ho, hv => by
    simp only [giveS, Option.some.injEq, Prod.mk.injEq] at h
    obtain ⟨rfl, rfl⟩ := h
    exact ⟨[], rfl, List.nodup_nil, by simp, by simp, fun pre prer _ _ => ⟨hv.1, fun i v a h1 h2 => by simp at h2⟩⟩
  | x :: as, used, r, q, vs, h, ho, hv => by
    obtain ⟨hv1, hv2⟩ := hv
    cases vs with
    | nil => simp at hv1
    | cons v vs =>
      have hx : ARep G toks w v x := hv2 0 v x rfl rfl
      have hvs : Reps2 G toks w vs as := ⟨by simpa using hv1, fun i u b h1 h2 => hv2 (i + 1) u b (by simpa using h1) (by simpa using h2)⟩
      have simple : ∀ {b : AV}, (giveS toks as used).map (fun (l, q) => (b :: l, q)) = some (r, q) → resToks [b] = [] → (∀ l, resToks (b :: l) = resToks l) → (∀ tb T, ARep ⟨G.lim, G.obs, [], tb⟩ T w v b) →
          ∃ gv : List Nat, gv.length = (resToks r).length ∧ gv.Nodup ∧ (∀ t ∈ gv, t ∉ used) ∧ (∀ (k : Nat) t, gv[k]? = some t → ∃ n, toks[t]? = some (some n) ∧ (resToks r)[k]? = some (some n)) ∧
            ∀ (pre : List (Option Nat)) (prer : List (Option Nat)), pre.length = used.length → prer.length = used.length →
              Reps2 ⟨G.lim, G.obs, [], pre ++ gv.map fun t => (G.tb[t]?).join⟩ (prer ++ resToks r) w (v :: vs) r := by
        intro b hh _ hb hrep
        obtain ⟨⟨l, q'⟩, hm, he⟩ := Option.map_eq_some_iff.1 hh
        simp only [Prod.mk.injEq] at he
        obtain ⟨rfl, rfl⟩ := he
        obtain ⟨gv, g1, g2, g3, g4, g5⟩ := giveS_rep as used l q' vs hm ho hvs
        rw [hb]
        refine ⟨gv, g1, g2, g3, g4, fun pre prer p1 p2 => ⟨by simp [(g5 pre prer p1 p2).1], fun i u c h1 h2 => ?_⟩⟩
        cases i with
        | zero => simp at h1 h2; subst h1; subst h2; exact hrep _ _
        | succ i => simp at h1 h2; exact (g5 pre prer p1 p2).2 i u c h1 h2
      unfold giveS at h
      split at h
      · rename_i p
        cases hx with
        | v hp => exact simple h rfl (fun _ => rfl) fun _ _ => .v hp.norm
      · rename_i cs
        cases hx with
        | agg hs hr =>
          refine simple h rfl (fun _ => rfl) fun _ _ => .agg (by simpa using hs) fun i u q h1 h2 => ?_
          rw [List.getElem?_map] at h2
          obtain ⟨q', h3, rfl⟩ := Option.map_eq_some_iff.1 h2
          exact (hr i u q' h1 h3).norm
      · rename_i t rows
        cases hx with
        | @own _ _ A len cap ht hle hp hroom =>
          split at h
          · rename_i n hu htn
            obtain ⟨⟨l, q'⟩, hm, he⟩ := Option.map_eq_some_iff.1 h
            simp only [Prod.mk.injEq] at he
            obtain ⟨rfl, rfl⟩ := he
            have hn : n = rows.length := ho _ (List.mem_cons_self ..)
            subst hn
            obtain ⟨gv, g1, g2, g3, g4, g5⟩ := giveS_rep as (t :: used) l q' vs hm (fun p hp => ho p (List.mem_cons_of_mem _ hp)) hvs
            have htu : t ∉ used := fun hm => by have := List.elem_eq_true_of_mem hm; rw [List.contains] at hu; rw [this] at hu; simp at hu
            refine ⟨t :: gv, by simp [resToks, g1], List.nodup_cons.2 ⟨fun hm => g3 t hm (List.mem_cons_self ..), g2⟩, fun u hu' => ?_, fun k u hk => ?_, fun pre prer p1 p2 => ?_⟩
            · rcases List.mem_cons.1 hu' with rfl | h'
              · exact htu
              · exact fun hh => g3 u h' (List.mem_cons_of_mem _ hh)
            · cases k with
              | zero => simp at hk; subst hk; exact ⟨_, htn, rfl⟩
              | succ k => simp at hk; exact g4 k u hk
            · have hg := g5 (pre ++ [(G.tb[t]?).join]) (prer ++ [some rows.length]) (by simp [p1]) (by simp [p2])
              have e1 : pre ++ (t :: gv).map (fun t => (G.tb[t]?).join) = pre ++ [(G.tb[t]?).join] ++ gv.map (fun t => (G.tb[t]?).join) := by simp
              have e2 : prer ++ resToks (.own used.length rows :: l) = prer ++ [some rows.length] ++ resToks l := by simp [resToks]
              rw [e1, e2]
              refine ⟨by simp [hg.1], fun i u c h1 h2 => ?_⟩
              cases i with
              | succ i => simp at h1 h2; exact hg.2 i u c h1 h2
              | zero =>
                simp at h1 h2
                subst h1; subst h2
                have hz : (prer ++ [some rows.length] ++ resToks l)[used.length]? = some (some rows.length) := by
                  rw [List.append_assoc, List.getElem?_append_right (by omega), ← p2, Nat.sub_self]; rfl
                refine .own (by simp; omega) (fun m hm => ?_) hp fun _ hlt => ?_
                · rw [hz] at hm; simp at hm; omega
                · obtain ⟨b, off, esz, cells, elem, e1, e2, e3, e4, e5, e6, e7⟩ := hroom htn hlt
                  refine ⟨b, off, esz, cells, elem, e1, ?_, e3, e4, e5, e6, e7⟩
                  show (pre ++ [(G.tb[t]?).join] ++ gv.map fun t => (G.tb[t]?).join)[used.length]? = _
                  rw [List.append_assoc, List.getElem?_append_right (by omega), ← p1, Nat.sub_self]
                  simp [e2]
          · exact simple h rfl (fun _ => rfl) fun _ _ => .v hp
      · rename_i b off
        cases hx with
        | optr hb => exact simple h rfl (fun _ => rfl) fun _ _ => .optr hb
      · exact simple h rfl (fun _ => rfl) fun _ _ => .none _
      · cases hx with | vac ht hp hr => exact simple h rfl (fun _ => rfl) fun _ _ => .v hp
      · simp at h

/-- A FUNCTION'S END. -/
theorem fin_sim {fn : Func} {out : Out} (h : SimE w0 lim0 O obs0 s a w) (hf : fin P fn s = some out) (ho : ∀ p ∈ out.obls, p) :
    ∃ v r, (results fn a.tmps).run P w = .ok v w ∧ out.nx = .done r s.outer ∧ Ret w0 lim0 O obs0 r s.outer v w := by
  obtain ⟨G, h⟩ := h
  unfold fin at hf
  split at hf <;> (try (simp at hf; done))
  rename_i l hl
  obtain ⟨⟨r, q⟩, hg, rfl⟩ := Option.map_eq_some_iff.1 hf
  obtain ⟨vs, hrun, hreps⟩ := run_results h hl
  obtain ⟨gv, g1, g2, g3, g4, g5⟩ := giveS_rep l [] r q vs hg ho hreps
  have hfin := g5 [] [] rfl rfl
  simp only [List.nil_append] at hfin
  have hi := h.inv
  have get2 : ∀ {i : Nat} {b : Nat}, (gv.map fun t => (G.tb[t]?).join)[i]? = some (some b) → ∃ t, gv[i]? = some t ∧ G.tb[t]? = some (some b) := by
    intro i b h
    rw [List.getElem?_map] at h
    obtain ⟨t, ht, hb⟩ := Option.map_eq_some_iff.1 h
    refine ⟨t, ht, ?_⟩
    cases hx : G.tb[t]? with
    | none => rw [hx] at hb; simp at hb
    | some y => rw [hx] at hb; simp at hb; rw [hb]
  refine ⟨_, r, hrun, rfl, G.lim, G.obs, gv.map (fun t => (G.tb[t]?).join), h.obs, ⟨hi.frame, rfl, hi.ho, fun i blk cs e => by simp at e, fun i blk cs e1 e2 => hi.obox i blk cs e1 e2, ?_, fun blk hm => by simp at hm, hi.oold, by simp [g1], fun t b n e1 e2 => ?_, fun t t' b n n' e1 e2 e3 e4 => ?_⟩, vs, rfl, hfin⟩
  · have := hi.nodup
    rw [List.nodup_append] at this
    simpa using this.1
  · obtain ⟨u, hu, hb⟩ := get2 e1
    obtain ⟨m, hm, _⟩ := g4 t u hu
    obtain ⟨a1, a2, a3⟩ := hi.tok u b m hb hm
    exact ⟨fun hm => a1 (List.mem_append_left _ (by simpa using hm)), a2, a3⟩
  · obtain ⟨u, hu, hb⟩ := get2 e1
    obtain ⟨u', hu', hb'⟩ := get2 e2
    obtain ⟨m, hm, _⟩ := g4 t u hu
    obtain ⟨m', hm', _⟩ := g4 t' u' hu'
    have := hi.tdis u u' b _ _ hb hb' hm hm'
    subst this
    exact (List.getElem?_inj (List.getElem?_eq_some_iff.1 hu).1 g2).1 (hu.trans hu'.symm)

theorem resToks_soft : ∀ (r : List AV), resToks (r.map AV.soft) = []
  | [] => rfl
  | a :: r => by cases a <;> exact resToks_soft r

theorem ARep.soft {lim : Nat → Nat} {obs : List Nat} {tb : List (Option Nat)} {toks : List (Option Nat)} {v : Value} {x : AV} (h : ARep ⟨lim, obs, [], tb⟩ toks w v x) : ARep ⟨lim, obs, [], []⟩ [] w v x.soft := by
  cases h with
  | v h => exact .v h
  | own ht hle h hr => exact .v h
  | agg hs h => exact .agg hs h
  | optr h => exact .optr h
  | _ => exact .none _

theorem Ret.soft {r : List AV} {outer' : List (List AV)} {v : Value} (h : Ret w0 lim0 O obs0 r outer' v w) : Ret w0 lim0 O obs0 (r.map AV.soft) outer' v w := by
  obtain ⟨lim', obs', tb', h1, hi, vs, hv, hr⟩ := h
  refine ⟨lim', obs', [], h1, ?_, vs, hv, ?_⟩
  · rw [resToks_soft]
    exact ⟨hi.frame, hi.hb, hi.ho, fun i blk cs e1 e2 => by simp at e1, fun i blk cs e1 e2 => hi.obox i blk cs e1 e2, hi.nodup, hi.bnew, hi.oold, rfl, fun t b n e => by simp at e, fun t t' b n n' e => by simp at e⟩
  · rw [resToks_soft]
    refine ⟨by simp [hr.1], fun i u a h2 h3 => ?_⟩
    rw [List.getElem?_map] at h3
    obtain ⟨a', h4, rfl⟩ := Option.map_eq_some_iff.1 h3
    exact (hr.2 i u a' h2 h4).soft

/-! ### control -/

/-- What comes of a frame. -/
def Ends (P : Program) (w0 : World) (lim0 : Nat → Nat) (O : Nat → Prop) (obs0 : List Nat) (b : Frame) (cs : List Frame) (m : Machine) (r : List AV) (outer' : List (List AV)) : Prop :=
  ∃ v w' fr, Ret w0 lim0 O obs0 r outer' v w' ∧ Steps P m (lone fr cs w') ∧ fr.fn = b.fn ∧ fr.leaving P w' (.returned v)

def Comes2 (P : Program) (w0 : World) (lim0 : Nat → Nat) (O : Nat → Prop) (obs0 : List Nat) (b : Frame) (cs : List Frame) (m : Machine) : Nx → Prop
  | .done r outer' => Ends P w0 lim0 O obs0 b cs m r outer'
  | .cont todo s => ∃ a w, SimE w0 lim0 O obs0 s a w ∧ Steps P m (lone (b.at a todo) cs w)

theorem Comes2.of_steps {b : Frame} {cs : List Frame} {m m' : Machine} {nx : Nx} (h : Steps P m m') (k : Comes2 P w0 lim0 O obs0 b cs m' nx) : Comes2 P w0 lim0 O obs0 b cs m nx := by
  cases nx with
  | done r o =>
    obtain ⟨v, w', fr, h1, h2, h3, h4⟩ := k
    exact ⟨v, w', fr, h1, h.trans h2, h3, h4⟩
  | cont todo s =>
    obtain ⟨a, w, h1, h2⟩ := k
    exact ⟨a, w, h1, h.trans h2⟩

theorem fin_comes {fn : Func} {out : Out} {b : Frame} {cs : List Frame} {m : Machine} {todo : List Item} (hk : b.kind = .normal) (hf : P.funcs[b.fn]? = some fn) (h : SimE w0 lim0 O obs0 s a w) (he : fin P fn s = some out) (ho : ∀ p ∈ out.obls, p)
    (hs : Steps P m (lone { b.at a todo with mode := .returning } cs w)) : Comes2 P w0 lim0 O obs0 b cs m out.nx := by
  obtain ⟨v, r, hrun, hnx, hret⟩ := fin_sim h he ho
  rw [hnx]
  obtain ⟨G, h⟩ := h
  exact ⟨v, w, _, hret, hs, rfl, rfl, h.defers, hk, fn, hf, hrun⟩

theorem exec_sim (hP : PrimOK P prim) (hm : P.follows .mixedOrders = true) {fn : Func} {b : Frame} {cs : List Frame} (hk : b.kind = .normal) (hf : P.funcs[b.fn]? = some fn) : ∀ (n : Nat) (todo : List Item) (s : St) (sc : List SC) (out : Out) (a : Act) (w : World),
    exec P fn n todo s sc = some out → SimE w0 lim0 O obs0 s a w → (∀ p ∈ out.obls, p) → (∀ c ∈ out.calls, c.sim P) → Comes2 P w0 lim0 O obs0 b cs (lone (b.at a todo) cs w) out.nx := by
  intro n
  induction n with
  | zero => intro todo s sc out a w he; simp [exec] at he
  | succ n ih =>
    intro todo s sc out a w he hs ho hc
    have go : ∀ {todo' : List Item} {sc' : List SC} {a' : Act} {w' : World}, exec P fn n todo' s sc' = some out → SimE w0 lim0 O obs0 s a' w' → Steps P (lone (b.at a todo) cs w) (lone (b.at a' todo') cs w') → Comes2 P w0 lim0 O obs0 b cs (lone (b.at a todo) cs w) out.nx :=
      fun h1 h2 h3 => Comes2.of_steps h3 (ih _ _ _ _ _ _ h1 h2 ho hc)
    have cutTo : ∀ {c : Cut} {todo' : List Item}, (c.app s).map (fun s' => ({ nx := .cont todo' s', obls := c.asks s' } : Out)) = some out → Steps P (lone (b.at a todo) cs w) (lone (b.at a todo') cs w) → Comes2 P w0 lim0 O obs0 b cs (lone (b.at a todo) cs w) out.nx := by
      intro c todo' h1 h2
      obtain ⟨s', hs', rfl⟩ := Option.map_eq_some_iff.1 h1
      exact ⟨a, w, cut_sim hs hs' ho, h2⟩
    have alsoGo : ∀ {todo' : List Item} {sc' : List SC} {s' : St} {a' : Act} {w' : World} {l : List Prop} {calls : List CallO}, (exec P fn n todo' s' sc').map (·.also l calls) = some out → ((∀ p ∈ l, p) → (∀ c ∈ calls, c.sim P) → SimE w0 lim0 O obs0 s' a' w' ∧ Steps P (lone (b.at a todo) cs w) (lone (b.at a' todo') cs w')) →
        Comes2 P w0 lim0 O obs0 b cs (lone (b.at a todo) cs w) out.nx := by
      intro todo' sc' s' a' w' l calls h1 h2
      obtain ⟨o', ho', rfl⟩ := Option.map_eq_some_iff.1 h1
      obtain ⟨h3, h4⟩ := h2 (fun p hp => ho p (List.mem_append_left _ hp)) fun c hc' => hc c (List.mem_append_left _ hc')
      exact Comes2.of_steps (nx := o'.nx) h4 (ih _ _ _ o' _ _ ho' h3 (fun p hp => ho p (List.mem_append_right _ hp)) fun c hc' => hc c (List.mem_append_right _ hc'))
    unfold exec at he
    cases todo with
    | nil => exact fin_comes hk hf hs he ho (.one step_end)
    | cons it k =>
      cases it with
      | code c =>
        cases c with
        | skip => exact go he hs (.one step_skip)
        | label l => exact go he hs (.one step_label)
        | seq x y => exact go he hs (.one step_seq)
        | block id c => exact go he hs (.one step_block)
        | ret => exact fin_comes hk hf hs he ho (.one step_ret)
        | exit id =>
          simp only at he
          split at he <;> (try (simp at he; done))
          rename_i k' hk'
          exact go he hs (.one (step_exit hk'))
        | loop c =>
          simp only at he
          split at he
          · exact cutTo he (.one step_loop)
          · exact go he hs (.one step_loop)
        | cond x y z =>
          simp only at he
          split at he <;> (try (simp at he; done))
          rename_i d sc' hsc
          split at he <;> (try (simp at he; done))
          rename_i B hB
          have hv : a.eval x = .bool B := by
            obtain ⟨G, h⟩ := hs
            have := h.ev x
            rw [hB] at this
            exact this.bool_of
          split at he
          · split at he
            · exact go he hs (.one (by simpa using step_cond hv))
            · exact go he hs (.one (by simpa using step_cond hv))
          · refine alsoGo he fun h1 _ => ⟨hs, ?_⟩
            have : B = true := h1 _ (List.mem_singleton.2 rfl)
            subst this
            exact .one (by simpa using step_cond hv)
          · refine alsoGo he fun h1 _ => ⟨hs, ?_⟩
            have : B = false := h1 _ (List.mem_singleton.2 rfl)
            subst this
            exact .one (by simpa using step_cond hv)
        | region id ops draw =>
          simp only at he
          split at he <;> (try (simp at he; done))
          rename_i es sc' hsc
          split at he <;> (try (simp at he; done))
          rename_i hd
          split at he <;> (try (simp at he; done))
          rename_i x hx
          obtain ⟨o', ho', rfl⟩ := Option.map_eq_some_iff.1 he
          obtain ⟨e, a', w', ⟨rfl, hs'⟩, harr⟩ := region_sim (id := id) hP hm hs hd hx (fun p hp => ho p (List.mem_append_left _ hp)) (fun c hc' => hc c (List.mem_append_left _ hc')) b k cs
          exact Comes2.of_steps (nx := o'.nx) harr (ih _ _ _ o' _ _ ho' hs' (fun p hp => ho p (List.mem_append_right _ hp)) fun c hc' => hc c (List.mem_append_right _ hc'))
        | _ => simp at he
      | inBlock id => exact go he hs (.one step_inBlock)
      | inLoop c =>
        simp only at he
        split at he
        · exact cutTo he (.one step_inLoop)
        · exact go he hs (.one step_inLoop)
      | _ => simp at he

/-- A frame's begin. -/
theorem init_sim {fn : Func} {args : List AV} {toks : List (Option Nat)} {outer : List (List AV)} {lim : Nat → Nat} {obs : List Nat} {tb : List (Option Nat)} {cargs : Array Value} (hi : Inv w lim O ⟨lim, obs, [], tb⟩ toks outer [] w)
    (hr : Reps2 ⟨lim, obs, [], tb⟩ toks w cargs.toList args) : SimE w lim O obs (initSt fn args toks outer) { tmps := cargs ++ Array.replicate (fn.ntmps - cargs.size) undef, defers := [] } w := by
  have hl : cargs.size = args.length := by simpa using hr.1
  refine ⟨_, hi, by simp [initSt, hl], fun t v x h1 h2 => ?_, rfl, fun b blk h => h⟩
  have h2 : (args ++ List.replicate (fn.ntmps - args.length) .none)[t]? = some x := h2
  rcases Nat.lt_or_ge t args.length with h | h
  · rw [List.getElem?_append_left h] at h2
    have h1 : (cargs ++ Array.replicate (fn.ntmps - cargs.size) undef)[t]? = some v := h1
    rw [Array.getElem?_append_left (by omega)] at h1
    exact hr.2 t v x (by simpa using h1) h2
  · rw [List.getElem?_append_right h, List.getElem?_replicate] at h2
    split at h2 <;> (try (simp at h2; done))
    obtain rfl := Option.some.inj h2
    exact .none _

theorem EvK.sim (hP : PrimOK P prim) (hm : P.follows .mixedOrders = true) {fn : Func} {todo : List Item} {s : St} {r : List AV} {h : List (List AV)} (hk : EvK P prim fn todo s r h) :
    ∀ (w0 : World) (lim0 : Nat → Nat) (O : Nat → Prop) (obs0 : List Nat) (b : Frame) (cs : List Frame) (a : Act) (w : World), b.kind = .normal → P.funcs[b.fn]? = some fn → SimE w0 lim0 O obs0 s a w → Ends P w0 lim0 O obs0 b cs (lone (b.at a todo) cs w) r h := by
  have callSim : ∀ {calls : List CallO}, (∀ c ∈ calls, c.cond → ¬ c.given prim → ∀ g b, P.funcs[c.f]? = some g → g.body = some b →
      ∀ (w0 : World) (lim0 : Nat → Nat) (O : Nat → Prop) (obs0 : List Nat) (b' : Frame) (cs : List Frame) (a : Act) (w : World), b'.kind = .normal → P.funcs[b'.fn]? = some g → SimE w0 lim0 O obs0 (initSt g c.args c.toks c.outer) a w → Ends P w0 lim0 O obs0 b' cs (lone (b'.at a [.code b]) cs w) c.r c.outer') →
      ∀ c ∈ calls, c.sim P := by
    intro calls ih c hc hcond hb
    by_cases hgv : c.given prim
    · obtain ⟨g1, g2, g3, g4⟩ := hgv
      rw [g2, g3, g4]
      exact hP _ _ _ g1
    intro w lim O obs tb cargs hi hr cs
    unfold hasBody at hb
    split at hb <;> (try (simp at hb; done))
    rename_i g hg
    simp only [Bool.and_eq_true, Option.isSome_iff_exists] at hb
    obtain ⟨⟨b, hbb⟩, -⟩ := hb
    let b' : Frame := { (default : Frame) with fn := c.f, kind := .normal }
    obtain ⟨v, w', fr, h1, h2, h3, h4⟩ := ih c hc hcond hgv g b hg hbb w lim O obs b' cs _ w rfl hg (init_sim hi hr)
    refine ⟨.returned v, w', fr, ⟨v, rfl, h1⟩, ?_, h3, h4⟩
    have henter : Frame.enter P c.f cargs .normal = b'.at { tmps := cargs ++ Array.replicate (g.ntmps - cargs.size) undef, defers := [] } [.code b] := by
      simp [Frame.enter, Frame.at, hg, hbb, b']
    rw [henter]
    exact h2
  induction hk with
  | done e ho hc ih =>
    intro w0 lim0 O obs0 b cs a w hk hf hs
    exact exec_sim hP hm hk hf _ _ _ _ _ _ _ e hs ho (callSim ih)
  | cont e ho hc hk ih ihk =>
    intro w0 lim0 O obs0 b cs a w hkd hf hs
    obtain ⟨a', w', h1, h2⟩ := exec_sim hP hm hkd hf _ _ _ _ _ _ _ e hs ho (callSim ih)
    obtain ⟨v, w'', fr, k1, k2, k3, k4⟩ := ihk w0 lim0 O obs0 b cs a' w' hkd hf h1
    exact ⟨v, w'', fr, k1, h2.trans k2, k3, k4⟩
  | soft hk ih =>
    intro w0 lim0 O obs0 b cs a w hkd hf hs
    obtain ⟨v, w', fr, k1, k2, k3, k4⟩ := ih w0 lim0 O obs0 b cs a w hkd hf hs
    exact ⟨v, w', fr, k1.soft, k2, k3, k4⟩

/-- WHAT THE EVALUATOR SAYS OF A FUNCTION HOLDS. -/
theorem EvF.sim (hP : PrimOK P prim) (hm : P.follows .mixedOrders = true) {f : FuncId} {args : List AV} {toks : List (Option Nat)} {outer : List (List AV)} {r : List AV} {outer' : List (List AV)} (h : EvF P prim f args toks outer r outer') (hb : hasBody P f = true) : SimF P f args toks outer r outer' := by
  intro w lim O obs tb cargs hi hr cs
  unfold hasBody at hb
  split at hb <;> (try (simp at hb; done))
  rename_i g hg
  simp only [Bool.and_eq_true, Option.isSome_iff_exists] at hb
  obtain ⟨⟨b, hbb⟩, -⟩ := hb
  let b' : Frame := { (default : Frame) with fn := f, kind := .normal }
  obtain ⟨v, w', fr, h1, h2, h3, h4⟩ := (h g b hg hbb).sim hP hm w lim O obs b' cs _ w rfl hg (init_sim hi hr)
  refine ⟨.returned v, w', fr, ⟨v, rfl, h1⟩, ?_, h3, h4⟩
  have henter : Frame.enter P f cargs .normal = b'.at { tmps := cargs ++ Array.replicate (g.ntmps - cargs.size) undef, defers := [] } [.code b] := by
    simp [Frame.enter, Frame.at, hg, hbb, b']
  rw [henter]
  exact h2

end
end Go.Ab
