/-
Calls that see no boxes; calls of functions whose meaning is given.
-/
import Derived.Test.YtimkgalclegffaaOpJ
namespace Go.Ab
open Go

section
variable {P : Program} {prim : FuncId → List AV → List AV → Prop} {w0 : World} {lim0 : Nat → Nat} {O : Nat → Prop} {G : Gh} {toks toks0 : List (Option Nat)} {outer heap : List (List AV)} {w : World}

/-- The state in which the callee begins. -/
theorem Inv.begin (hi : Inv w0 lim0 O G toks outer heap w) {toks1 mine tbm : List (Option Nat)} (k : Took G toks toks1 mine tbm) :
    Inv w G.lim (fun b => ∃ (j m : Nat), tbm[j]? = some (some b) ∧ mine[j]? = some (some m)) ⟨G.lim, [], [], tbm⟩ mine [] [] w := by
  refine ⟨Frame0.refl _ _ _ hi.frame.above, rfl, rfl, fun i blk cs h => by simp at h, fun i blk cs h => by simp at h, by simp, fun blk h => by simp at h, fun blk h => by simp at h, k.mlen, fun t b n h1 h2 => ?_, fun t t' b n n' h1 h2 h3 h4 => k.dis t t' b n n' h1 h2 h3 h4⟩
  obtain ⟨t', e1, e2, e3⟩ := k.src t b n h1 h2
  exact ⟨by simp, (hi.tok t' b n e1 e2).2.1, fun _ => ⟨t, n, h1, h2⟩⟩

/-- Tokens, without any. -/
theorem Inv.noToks {T : List (Option Nat)} {obs : List Nat} {tb : List (Option Nat)} {lim' : Nat → Nat} (hi : Inv w0 lim0 O ⟨lim', obs, [], tb⟩ T outer [] w) : Inv w0 lim0 O ⟨lim', obs, [], []⟩ [] outer [] w :=
  ⟨hi.frame, rfl, hi.ho, fun i blk cs h => by simp at h, fun i blk cs h1 h2 => hi.obox i blk cs h1 h2, hi.nodup, fun blk h => by simp at h, hi.oold, rfl, fun t b n h => by simp at h, fun t t' b n n' h => by simp at h⟩

/-- The caller's state behind a call that sees no boxes. -/
theorem Inv.called (hi : Inv w0 lim0 O G toks outer heap w) {toks1 mine tbm T tb' : List (Option Nat)} {obs' : List Nat} {lim' : Nat → Nat} {w' : World} (k : Took G toks toks1 mine tbm)
    (hc : Inv w G.lim (fun b => ∃ (j m : Nat), tbm[j]? = some (some b) ∧ mine[j]? = some (some m)) ⟨lim', obs', [], tb'⟩ T [] [] w') :
    Inv w0 lim0 O ⟨lim', G.obs, G.bs, G.tb ++ tb'⟩ (toks1 ++ T) outer heap w' ∧ Keep G toks w ⟨lim', G.obs, G.bs, G.tb ++ tb'⟩ (toks1 ++ T) w' := by
  have hlen : G.tb.length = toks1.length := by rw [hi.tlen, k.len]
  have quiet : ∀ b, b < w.heap.size → (∀ (j m : Nat), tbm[j]? = some (some b) → mine[j]? = some (some m) → False) → w'.heap[b]? = w.heap[b]? ∧ lim' b = G.lim b :=
    fun b hb hn => hc.frame.blk b hb fun ⟨j, m, h1, h2⟩ => hn j m h1 h2
  have boxq : ∀ b, b ∈ G.obs ++ G.bs → w'.heap[b]? = w.heap[b]? ∧ lim' b = G.lim b := fun b hb =>
    quiet b (hi.blk_lt hb).1 fun j m h1 h2 => by
      obtain ⟨t, e1, e2, e3⟩ := k.src j b m h1 h2
      exact (hi.tok t b m e1 e2).1 hb
  have old : ∀ (t : Nat) n, (toks1 ++ T)[t]? = some (some n) → t < toks1.length → toks[t]? = some (some n) ∧ toks1[t]? = some (some n) := by
    intro t n h ht
    rw [List.getElem?_append_left ht] at h
    rcases k.old t _ h with h' | h'
    · simp at h'
    · exact ⟨h', h⟩
  have tokq : ∀ (t : Nat) n b, toks1[t]? = some (some n) → toks[t]? = some (some n) → G.tb[t]? = some (some b) → w'.heap[b]? = w.heap[b]? ∧ lim' b = G.lim b := by
    intro t n b h1 h2 h3
    refine quiet b (hi.tok t b n h3 h2).2.1 fun j m e1 e2 => ?_
    obtain ⟨t', d1, d2, d3⟩ := k.src j b m e1 e2
    have := hi.tdis t t' b _ _ h3 d1 h2 d2
    subst this
    rw [h1] at d3
    simp at d3
  have hk : Keep G toks w ⟨lim', G.obs, G.bs, G.tb ++ tb'⟩ (toks1 ++ T) w' := by
    refine ⟨hc.frame.grow, fun _ _ h => h, fun _ _ h => h, by simp [k.len], fun t n h ht => ?_⟩
    obtain ⟨h1, h2⟩ := old t n h (by rw [k.len]; exact ht)
    refine ⟨n, h1, .inr ⟨rfl, fun b hb => ?_⟩⟩
    obtain ⟨q1, q2⟩ := tokq t n b h2 h1 hb
    exact ⟨(List.getElem?_append_left (List.getElem?_eq_some_iff.1 hb).1).trans hb, q2, q1⟩
  refine ⟨⟨⟨Nat.le_trans hi.frame.size hc.frame.size, hc.frame.os.trans hi.frame.os, hc.frame.tape.trans hi.frame.tape, hc.frame.output.trans hi.frame.output, fun b hb hO => ?_, hi.frame.grow.trans hc.frame.grow, hc.frame.above⟩,
    hi.hb, hi.ho, fun i blk cs h1 h2 => ?_, fun i blk cs h1 h2 => ?_, hi.nodup, hi.bnew, hi.oold, ?_, fun t b n h1 h2 => ?_, fun t t' b n n' h1 h2 h3 h4 => ?_⟩, hk⟩
  · have hb' : b < w.heap.size := Nat.lt_of_lt_of_le hb hi.frame.size
    obtain ⟨q1, q2⟩ := quiet b hb' fun j m h1 h2 => by
      obtain ⟨t, e1, e2, e3⟩ := k.src j b m h1 h2
      exact hO ((hi.tok t b m e1 e2).2.2 hb)
    obtain ⟨q3, q4⟩ := hi.frame.blk b hb hO
    exact ⟨q1.trans q3, q2.trans q4⟩
  · obtain ⟨q1, q2⟩ := boxq blk (List.mem_append_right _ (List.mem_of_getElem? h1))
    exact (hi.box i blk cs h1 h2).keep hk q1 q2
  · obtain ⟨q1, q2⟩ := boxq blk (List.mem_append_left _ (List.mem_of_getElem? h1))
    exact (hi.obox i blk cs h1 h2).keep hk.low q1 q2
  · have h : tb'.length = T.length := hc.tlen
    show (G.tb ++ tb').length = _
    simp only [List.length_append]
    omega
  · show b ∉ G.obs ++ G.bs ∧ b < w'.heap.size ∧ (b < w0.heap.size → O b)
    rcases Nat.lt_or_ge t toks1.length with ht | ht
    · obtain ⟨e1, e2⟩ := old t n h2 ht
      have h1' : G.tb[t]? = some (some b) := by
        have h1' : (G.tb ++ tb')[t]? = some (some b) := h1
        rwa [List.getElem?_append_left (by omega)] at h1'
      obtain ⟨a1, a2, a3⟩ := hi.tok t b n h1' e1
      exact ⟨a1, Nat.lt_of_lt_of_le a2 hc.frame.size, a3⟩
    · have h1' : tb'[t - toks1.length]? = some (some b) := by
        have h1' : (G.tb ++ tb')[t]? = some (some b) := h1
        rwa [List.getElem?_append_right (by omega), hlen] at h1'
      have h2' : T[t - toks1.length]? = some (some n) := by rwa [List.getElem?_append_right ht] at h2
      obtain ⟨a1, a2, a3⟩ := hc.tok _ b n h1' h2'
      have src : b < w.heap.size → ∃ (t' m : Nat), G.tb[t']? = some (some b) ∧ toks[t']? = some (some m) := fun hb => by
        obtain ⟨j, m, e1, e2⟩ := a3 hb
        obtain ⟨t', d1, d2, d3⟩ := k.src j b m e1 e2
        exact ⟨t', m, d1, d2⟩
      refine ⟨fun hmem => ?_, a2, fun hb => ?_⟩
      · obtain ⟨t', m, d1, d2⟩ := src (hi.blk_lt hmem).1
        exact (hi.tok t' b m d1 d2).1 hmem
      · obtain ⟨t', m, d1, d2⟩ := src (Nat.lt_of_lt_of_le hb hi.frame.size)
        exact (hi.tok t' b m d1 d2).2.2 hb
  · have cases' : ∀ (t : Nat) n, (G.tb ++ tb')[t]? = some (some b) → (toks1 ++ T)[t]? = some (some n) → (t < toks1.length ∧ G.tb[t]? = some (some b) ∧ toks[t]? = some (some n) ∧ toks1[t]? = some (some n)) ∨ (toks1.length ≤ t ∧ tb'[t - toks1.length]? = some (some b) ∧ T[t - toks1.length]? = some (some n)) := by
      intro t n e1 e2
      rcases Nat.lt_or_ge t toks1.length with ht | ht
      · obtain ⟨q1, q2⟩ := old t n e2 ht
        exact .inl ⟨ht, by rwa [List.getElem?_append_left (by omega)] at e1, q1, q2⟩
      · exact .inr ⟨ht, by rwa [List.getElem?_append_right (by omega), hlen] at e1, by rwa [List.getElem?_append_right ht] at e2⟩
    have clash : ∀ (t s : Nat) n n', G.tb[t]? = some (some b) → toks[t]? = some (some n) → toks1[t]? = some (some n) → tb'[s]? = some (some b) → T[s]? = some (some n') → False := by
      intro t s n n' e1 e2 e3 e4 e5
      obtain ⟨a1, a2, a3⟩ := hc.tok _ b n' e4 e5
      obtain ⟨j, m, c1, c2⟩ := a3 (hi.tok t b n e1 e2).2.1
      obtain ⟨t', d1, d2, d3⟩ := k.src j b m c1 c2
      have := hi.tdis t t' b _ _ e1 d1 e2 d2
      subst this
      rw [e3] at d3
      simp at d3
    rcases cases' t n h1 h3 with ⟨a1, a2, a3, a4⟩ | ⟨a1, a2, a3⟩ <;> rcases cases' t' n' h2 h4 with ⟨c1, c2, c3, c4⟩ | ⟨c1, c2, c3⟩
    · exact hi.tdis t t' b n n' a2 c2 a3 c3
    · exact (clash t _ n n' a2 a3 a4 c2 c3).elim
    · exact (clash t' _ n' n c2 c3 c4 a2 a3).elim
    · have := hc.tdis _ _ b n n' a2 c2 a3 c3
      omega

/-! ### results -/

theorem takeRes_spec {keep : Bool} {n : Nat} : ∀ (r : List AV) (k : Nat) (rs : List AV) (new : List (Option Nat)), takeRes keep n r k = some (rs, new) → rs.length = r.length ∧ new = (if keep then resToks r else []) ∧
    ∀ (i : Nat) a b, r[i]? = some a → rs[i]? = some b → ((a = .none ∨ ∃ p, a = .v p) ∧ b = a) ∨ ((∃ cs, a = .agg cs) ∧ b = a) ∨ (∃ j rows, a = .own j rows ∧ ((keep = true ∧ b = .own (n + j) rows) ∨ (keep = false ∧ b = .v (.sl rows)))) ∨ ∃ j e, a = .vac j e ∧ ((keep = true ∧ b = .vac (n + j) e) ∨ (keep = false ∧ b = .v (.sl [])))
  | [], k, rs, new, h => by
    simp [takeRes] at h
    obtain ⟨rfl, rfl⟩ := h
    refine ⟨rfl, ?_, fun i a b h => by simp at h⟩
    cases keep <;> rfl
  | a :: as, k, rs, new, h => by
    have step : ∀ {b : AV} {x : List (Option Nat)} {k' : Nat}, (takeRes keep n as k').map (fun (bs, t) => (b :: bs, x ++ t)) = some (rs, new) → resToks (a :: as) = (if keep then x else []) ++ resToks as ∨ keep = false → (keep = false → x = []) →
        (((a = .none ∨ ∃ p, a = .v p) ∧ b = a) ∨ ((∃ cs, a = .agg cs) ∧ b = a) ∨ (∃ j rows, a = .own j rows ∧ ((keep = true ∧ b = .own (n + j) rows) ∨ (keep = false ∧ b = .v (.sl rows)))) ∨ ∃ j e, a = .vac j e ∧ ((keep = true ∧ b = .vac (n + j) e) ∨ (keep = false ∧ b = .v (.sl [])))) →
        rs.length = (a :: as).length ∧ new = (if keep then resToks (a :: as) else []) ∧
        ∀ (i : Nat) a' b, (a :: as)[i]? = some a' → rs[i]? = some b → ((a' = .none ∨ ∃ p, a' = .v p) ∧ b = a') ∨ ((∃ cs, a' = .agg cs) ∧ b = a') ∨ (∃ j rows, a' = .own j rows ∧ ((keep = true ∧ b = .own (n + j) rows) ∨ (keep = false ∧ b = .v (.sl rows)))) ∨ ∃ j e, a' = .vac j e ∧ ((keep = true ∧ b = .vac (n + j) e) ∨ (keep = false ∧ b = .v (.sl []))) := by
      intro b x k' hh h1 h0 h2
      obtain ⟨⟨bs, t⟩, hm, he⟩ := Option.map_eq_some_iff.1 hh
      simp only [Prod.mk.injEq] at he
      obtain ⟨rfl, rfl⟩ := he
      obtain ⟨e1, e2, e3⟩ := takeRes_spec as k' bs t hm
      refine ⟨by simp [e1], ?_, fun i a' b' ha hb => ?_⟩
      · cases keep with
        | true =>
          simp only [if_true] at e2 h1 ⊢
          rcases h1 with h1 | h1
          · rw [h1, e2]
          · simp at h1
        | false => simp at e2; simp [e2, h0 rfl]
      · cases i with
        | zero => simp at ha hb; subst ha; subst hb; exact h2
        | succ i => simp at ha hb; exact e3 i a' b' ha hb
    unfold takeRes at h
    simp only at h
    split at h
    · exact step (x := []) h (.inl (by cases keep <;> simp [resToks])) (fun _ => rfl) (.inl ⟨.inr ⟨_, rfl⟩, rfl⟩)
    · exact step (x := []) h (.inl (by cases keep <;> simp [resToks])) (fun _ => rfl) (.inr (.inl ⟨⟨_, rfl⟩, rfl⟩))
    · exact step (x := []) h (.inl (by cases keep <;> simp [resToks])) (fun _ => rfl) (.inl ⟨.inl rfl, rfl⟩)
    · rename_i j rows
      split at h
      · rename_i hk
        split at h <;> (try (simp at h; done))
        rename_i hj
        subst hj
        exact step (x := [some rows.length]) h (.inl (by simp [hk, resToks])) (fun hf => by rw [hk] at hf; simp at hf) (.inr (.inr (.inl ⟨_, _, rfl, .inl ⟨hk, rfl⟩⟩)))
      · rename_i hk
        exact step (x := []) h (.inr (by simpa using hk)) (fun _ => rfl) (.inr (.inr (.inl ⟨_, _, rfl, .inr ⟨by simpa using hk, rfl⟩⟩)))
    · rename_i j e
      split at h
      · rename_i hk
        split at h <;> (try (simp at h; done))
        rename_i hj
        subst hj
        exact step (x := [some 0]) h (.inl (by simp [hk, resToks])) (fun hf => by rw [hk] at hf; simp at hf) (.inr (.inr (.inr ⟨_, _, rfl, .inl ⟨hk, rfl⟩⟩)))
      · rename_i hk
        exact step (x := []) h (.inr (by simpa using hk)) (fun _ => rfl) (.inr (.inr (.inr ⟨_, _, rfl, .inr ⟨by simpa using hk, rfl⟩⟩)))
    · simp at h

/-- A call's value, as the caller has it. -/
theorem wrap_rep {G' : Gh} {toks' : List (Option Nat)} {w' : World} {vs : List Value} {rs : List AV} (h : Reps2 G' toks' w' vs rs) : ARep G' toks' w' (wrapV vs) (wrapRes rs) := by
  obtain ⟨h1, h2⟩ := h
  match vs, rs, h1 with
  | [v], [a], _ => exact h2 0 v a rfl rfl
  | [], [], _ => exact .tup rfl fun i v a h => by simp at h
  | v :: v' :: vs, a :: a' :: rs, h1 =>
    refine .tup (by simpa using h1) fun i x b hx hb => h2 i x b ?_ hb
    simpa using hx

theorem ARep.pure {lim : Nat → Nat} {obs bs obs' bs' : List Nat} {tb tb' T T' : List (Option Nat)} {w' : World} {v : Value} {a : AV} (h : ARep ⟨lim, obs, bs, tb⟩ T w' v a) (ha : (a = .none ∨ ∃ p, a = .v p) ∨ ∃ cs, a = .agg cs) : ARep ⟨lim, obs', bs', tb'⟩ T' w' v a := by
  rcases ha with (rfl | ⟨p, rfl⟩) | ⟨cs, rfl⟩
  · exact .none _
  · cases h with | v h => exact .v h
  · cases h with | agg hs h => exact .agg hs h

theorem ARep.sl {lim : Nat → Nat} {obs bs obs' bs' : List Nat} {tb tb' T T' : List (Option Nat)} {w' : World} {v : Value} {j : Nat} {rows : List (List PV)} (h : ARep ⟨lim, obs, bs, tb⟩ T w' v (.own j rows)) : ARep ⟨lim, obs', bs', tb'⟩ T' w' v (.v (.sl rows)) := by
  cases h with | own ht hle h hr => exact .v h

theorem sem_callS {e : Operand → Value} {ρ : Operand → AV} {o : Oper} {f : Operand} {args : Array Operand} {ats : Array TypeId} {g : FuncId} {cons : List Bool} {keep : Bool} {r as rs : List AV} {toks1 mine new : List (Option Nat)} {l : List Prop}
    (hi : Inv w0 lim0 O G toks outer heap w) (hop : o.op = .call { callee := .value f, args := args, argTypes := ats }) (hf : ARep G toks w (e f) (.fn (.func g) [] [])) (hx : ∀ x ∈ args.toList, ARep G toks w (e x) (ρ x))
    (hb : hasBody P g = true) (hp : passArgs none cons (args.toList.map ρ) toks [] = some (as, toks1, mine, l)) (ho : ∀ q ∈ l, q) (ht : takeRes keep toks1.length r 0 = some (rs, new))
    (hs : SimF P g as mine [] r []) : Does P (execOp e o) w (Good w0 lim0 O G toks w { v := wrapRes rs, toks := toks1 ++ new, outer, heap, obls := l }) := by
  generalize hV : e f = V at hf
  cases hf with
  | @fn _ fi ca _ _ h1 h2 h3 h4 =>
    have hfi : fi = #[] := by simpa using h1
    have hca : ca = #[] := by simpa using h2
    subst hfi hca
    obtain ⟨tbm, k, -, -, hreps⟩ := passArgs_rep (obsC := []) (.inl rfl) hi.tdis _ _ _ _ _ _ _ _ (args.toList.map e) [] hp ho
      ⟨by simp, fun i v a hv ha => by
        simp only [List.getElem?_map] at hv ha
        obtain ⟨x, hx1, rfl⟩ := Option.map_eq_some_iff.1 hv
        obtain ⟨y, hy1, rfl⟩ := Option.map_eq_some_iff.1 ha
        rw [hx1] at hy1
        obtain rfl := Option.some.inj hy1
        exact hx x (List.mem_of_getElem? hx1)⟩ (Took.refl G toks)
    have hrun : (execOp e o).run P w = .ok (.enter g (args.map e)) w := by
      unfold hasBody at hb
      split at hb <;> (try (simp at hb; done))
      rename_i fn hfn
      simp only [Bool.and_eq_true, Bool.not_eq_true'] at hb
      have hn : ¬ fn.name = "runtime.NumGoroutine" := by simpa using hb.2
      simp [execOp, hop, resolve, hV, Deferred.ofValue, invoke, callFunc, hfn, hn, Option.isNone_iff_eq_none, Option.isSome_iff_ne_none.1 hb.1]
    refine .of_enter hrun (Calls.mono (hs w G.lim _ [] tbm (args.map e) (hi.begin k) (by simpa using hreps)) fun en w' ⟨v, hv, lim', obs', tb', _, hI, vs, hw, hR⟩ => ⟨v, hv, ?_⟩)
    subst hw
    obtain ⟨t1, t2, t3⟩ := takeRes_spec r 0 rs new ht
    cases keep with
    | true =>
      simp only [if_true] at t2
      subst t2
      obtain ⟨i1, k1⟩ := hi.called k hI
      refine ⟨_, wrap_rep ⟨hR.1.trans t1.symm, fun i x b hx hb => ?_⟩, i1, k1⟩
      have hlt : i < r.length := by rw [← t1]; exact (List.getElem?_eq_some_iff.1 hb).1
      have hra := List.getElem?_eq_getElem hlt
      have hA := hR.2 i x _ hx hra
      rcases t3 i _ b hra hb with ⟨hp, rfl⟩ | ⟨hp, rfl⟩ | ⟨j, rows, hj, ⟨-, rfl⟩ | ⟨hf, -⟩⟩ | ⟨j, e, hj, ⟨-, rfl⟩ | ⟨hf, -⟩⟩
      · exact hA.pure (.inl hp)
      · exact hA.pure (.inr hp)
      · rw [hj] at hA
        cases hA with
        | own ht hle h hr =>
          have hn : toks1.length = G.tb.length := by rw [k.len, hi.tlen]
          refine .own (by simp; exact ht) (fun n hn' => ?_) h ?_
          · rw [List.getElem?_append_right (by omega), Nat.add_sub_cancel_left] at hn'
            exact hle n hn'
          · intro hn' hlt'
            rw [List.getElem?_append_right (by omega), Nat.add_sub_cancel_left] at hn'
            obtain ⟨b, off, esz, cells, elem, e1, e2, e3, e4, e5, e6, e7⟩ := hr hn' hlt'
            refine ⟨b, off, esz, cells, elem, e1, ?_, e3, e4, e5, e6, e7⟩
            show (G.tb ++ tb')[toks1.length + j]? = _
            rw [hn, List.getElem?_append_right (by omega), Nat.add_sub_cancel_left]
            exact e2
      · simp at hf
      · rw [hj] at hA
        cases hA with
        | vac ht h hr =>
          have hn : toks1.length = G.tb.length := by rw [k.len, hi.tlen]
          refine .vac (by simp; exact ht) h fun hn' hlt' => ?_
          rw [List.getElem?_append_right (by omega), Nat.add_sub_cancel_left] at hn'
          obtain ⟨b, off, cells, elem, e1, e2, e3, e4, e5⟩ := hr hn' hlt'
          refine ⟨b, off, cells, elem, e1, ?_, e3, e4, e5⟩
          show (G.tb ++ tb')[toks1.length + j]? = _
          rw [hn, List.getElem?_append_right (by omega), Nat.add_sub_cancel_left]
          exact e2
      · simp at hf
    | false =>
      simp only [Bool.false_eq_true, if_false] at t2
      subst t2
      obtain ⟨i1, k1⟩ := hi.called k hI.noToks
      refine ⟨_, wrap_rep ⟨hR.1.trans t1.symm, fun i x b hx hb => ?_⟩, i1, k1⟩
      have hlt : i < r.length := by rw [← t1]; exact (List.getElem?_eq_some_iff.1 hb).1
      have hra := List.getElem?_eq_getElem hlt
      have hA := hR.2 i x _ hx hra
      rcases t3 i _ b hra hb with ⟨hp, rfl⟩ | ⟨hp, rfl⟩ | ⟨j, rows, hj, ⟨hf, -⟩ | ⟨-, rfl⟩⟩ | ⟨j, e, hj, ⟨hf, -⟩ | ⟨-, rfl⟩⟩
      · exact hA.pure (.inl hp)
      · exact hA.pure (.inr hp)
      · simp at hf
      · rw [hj] at hA
        exact hA.sl
      · simp at hf
      · rw [hj] at hA
        cases hA with | vac ht h hr => exact .v h

/-! ### a call that reads slices of boxes -/

/-- While it runs, nobody writes our boxes. -/
def lent (G : Gh) (w : World) (b : Nat) : Nat :=
  if b ∈ G.bs then (match w.heap[b]? with | some (.cells X _ _) => X.size | _ => 0) else G.lim b

theorem lent_grow (hi : Inv w0 lim0 O G toks outer heap w) : Grow G.lim w (lent G w) w := by
  refine ⟨fun b => ?_, fun _ _ _ => rfl⟩
  unfold lent
  split
  · rename_i hb
    rw [(hi.blk_lt (List.mem_append_right _ hb)).2]
    exact Nat.zero_le _
  · exact Nat.le_refl _

theorem vp_rep {v : Value} {p : PV} (h : ARep G toks w v (.v p)) : PRep G.lim w v p := by cases h with | v h => exact h

theorem lend_rep (hi : Inv w0 lim0 O G toks outer heap w) : ∀ (as : List AV) (rs : List (List (List PV))) (bs : List AV) (l : List Prop) (vs : List Value), lendArgs heap rs as = some (bs, l) → (∀ q ∈ l, q) → Reps2 G toks w vs as →
    Reps2 ⟨lent G w, [], [], []⟩ [] w vs bs
  | [], rs, bs, l, vs, h, ho, hv => by
    simp [lendArgs] at h
    obtain ⟨rfl, rfl⟩ := h
    exact ⟨hv.1, fun i v a h1 h2 => by simp at h2⟩
  | a :: as, rs, bs, l, vs, h, ho, hv => by
    have g := lent_grow hi
    obtain ⟨hv1, hv2⟩ := hv
    cases vs with
    | nil => simp at hv1
    | cons v vs =>
      have ha : ARep G toks w v a := hv2 0 v a rfl rfl
      have hvs : Reps2 G toks w vs as := ⟨by simpa using hv1, fun i x b h1 h2 => hv2 (i + 1) x b (by simpa using h1) (by simpa using h2)⟩
      have go : ∀ {b : AV} {rs' : List (List (List PV))} {l' : List Prop}, (lendArgs heap rs' as).map (fun (bs, q) => (b :: bs, l' ++ q)) = some (bs, l) → ((∀ q ∈ l', q) → ARep ⟨lent G w, [], [], []⟩ [] w v b) → Reps2 ⟨lent G w, [], [], []⟩ [] w (v :: vs) bs := by
        intro b rs' l' hh hr
        obtain ⟨⟨bs', q'⟩, hp, he⟩ := Option.map_eq_some_iff.1 hh
        simp only [Prod.mk.injEq] at he
        obtain ⟨rfl, rfl⟩ := he
        have ih := lend_rep hi as rs' bs' q' vs hp (fun q hq => ho q (List.mem_append_right _ hq)) hvs
        refine ⟨by simp [ih.1], fun i x c h1 h2 => ?_⟩
        cases i with
        | zero => simp at h1 h2; subst h1; subst h2; exact hr fun q hq => ho q (List.mem_append_left _ hq)
        | succ i => simp at h1 h2; exact ih.2 i x c h1 h2
      unfold lendArgs at h
      split at h
      · exact go (l' := []) h fun _ => by cases ha with | v hp => exact .v (hp.grow g).norm
      · rename_i cs
        cases ha with
        | agg hs hr =>
          refine go (l' := []) h fun _ => .agg (by simpa using hs) fun i u q h1 h2 => ?_
          rw [List.getElem?_map] at h2
          obtain ⟨q', h3, rfl⟩ := Option.map_eq_some_iff.1 h2
          exact ((hr i u q' h1 h3).grow g).norm
      · exact go (l' := []) h fun _ => by cases ha with | own ht hle hp hroom => exact .v (hp.grow g)
      · rename_i b n len
        split at h <;> (try (simp at h; done))
        rename_i rows rs' cs hb
        refine go (l' := [cs = rows.flatten.map .v, rows.length = len, ∀ r ∈ rows, r.length = n]) (by simpa using h) fun hq => ?_
        have q1 : cs = rows.flatten.map .v := hq _ (by simp)
        have q2 : rows.length = len := hq _ (by simp)
        have q3 : ∀ r ∈ rows, r.length = n := hq (∀ r ∈ rows, r.length = n) (by simp)
        cases ha with
        | @bsl _ _ _ cap blk hblk hc =>
          obtain ⟨X, elem, e1, e2, e3, e4⟩ := hi.box b blk cs hblk hb
          have hmem : blk ∈ G.bs := List.mem_of_getElem? hblk
          have hl : lent G w blk = X.size := by unfold lent; rw [if_pos hmem, e1]
          have key : ∀ i j p, at2 rows i j = some p → ∃ u, X[i * n + j]? = some u ∧ PRep G.lim w u p := by
            intro i j p hp
            have hf := flat_at rows i j p q3 hp
            have hc : cs[i * n + j]? = some (.v p) := by rw [q1, List.getElem?_map, hf]; rfl
            have hlt : i * n + j < X.size := by rw [e2]; exact (List.getElem?_eq_some_iff.1 hc).1
            exact ⟨_, Array.getElem?_eq_getElem hlt, vp_rep (e3 _ _ _ (Array.getElem?_eq_getElem hlt) hc).2⟩
          refine .v (.sl blk 0 len cap n rows (fun i j => X.getD (i * n + j) undef) q2 hc q3 (fun i j p hp => ?_) fun i j p hp => ?_)
          · obtain ⟨u, hu, _⟩ := key i j p hp
            rw [Nat.zero_add, cell_of_box e1]
            refine ⟨by rw [hu]; simp [Array.getD_eq_getD_getElem?, hu], ?_⟩
            show _ < lent G w blk
            rw [hl]
            exact (Array.getElem?_eq_some_iff.1 hu).1
          · obtain ⟨u, hu, hr⟩ := key i j p hp
            have e : X.getD (i * n + j) undef = u := by simp [Array.getD_eq_getD_getElem?, hu]
            rw [e]
            exact hr.grow g
      · simp at h

theorem scal_rep {G' : Gh} {T' : List (Option Nat)} {w' : World} {v : Value} {a : AV} (h : ARep G toks w v a) (ha : a.scal = true) : ARep G' T' w' v a := by
  cases h with
  | none v => exact .none v
  | v h =>
    cases h with
    | bool b => exact .v (.bool b)
    | int k n => exact .v (.int k n)
    | str s => exact .v (.str s)
    | cplx k re im => exact .v (.cplx k re im)
    | _ => simp [AV.scal] at ha
  | _ => simp [AV.scal] at ha

theorem sem_callB {e : Operand → Value} {ρ : Operand → AV} {o : Oper} {f : Operand} {args : Array Operand} {ats : Array TypeId} {g : FuncId} {rs : List (List (List PV))} {r as : List AV} {l : List Prop}
    (hi : Inv w0 lim0 O G toks outer heap w) (hop : o.op = .call { callee := .value f, args := args, argTypes := ats }) (hf : ARep G toks w (e f) (.fn (.func g) [] [])) (hx : ∀ x ∈ args.toList, ARep G toks w (e x) (ρ x))
    (hb : hasBody P g = true) (hp : lendArgs heap rs (args.toList.map ρ) = some (as, l)) (ho : ∀ q ∈ l, q) (hr : r.all AV.scal = true)
    (hs : SimF P g as [] [] r []) : Does P (execOp e o) w (Good w0 lim0 O G toks w { v := wrapRes r, toks, outer, heap, obls := l }) := by
  generalize hV : e f = V at hf
  cases hf with
  | @fn _ fi ca _ _ h1 h2 h3 h4 =>
    have hfi : fi = #[] := by simpa using h1
    have hca : ca = #[] := by simpa using h2
    subst hfi hca
    have hreps := lend_rep hi _ _ _ _ (args.toList.map e) hp ho
      ⟨by simp, fun i v a hv ha => by
        simp only [List.getElem?_map] at hv ha
        obtain ⟨x, hx1, rfl⟩ := Option.map_eq_some_iff.1 hv
        obtain ⟨y, hy1, rfl⟩ := Option.map_eq_some_iff.1 ha
        rw [hx1] at hy1
        obtain rfl := Option.some.inj hy1
        exact hx x (List.mem_of_getElem? hx1)⟩
    have hrun : (execOp e o).run P w = .ok (.enter g (args.map e)) w := by
      unfold hasBody at hb
      split at hb <;> (try (simp at hb; done))
      rename_i fn hfn
      simp only [Bool.and_eq_true, Bool.not_eq_true'] at hb
      have hn : ¬ fn.name = "runtime.NumGoroutine" := by simpa using hb.2
      simp [execOp, hop, resolve, hV, Deferred.ofValue, invoke, callFunc, hfn, hn, Option.isNone_iff_eq_none, Option.isSome_iff_ne_none.1 hb.1]
    have habove : ∀ b, w.heap.size ≤ b → lent G w b = 0 := by
      intro b hb
      unfold lent
      split
      · rename_i hm
        have := (hi.blk_lt (List.mem_append_right _ hm)).1
        omega
      · exact hi.frame.above b hb
    have hbegin : Inv w (lent G w) (fun _ => False) ⟨lent G w, [], [], []⟩ [] [] [] w :=
      ⟨Frame0.refl _ _ _ habove, rfl, rfl, fun i blk cs h => by simp at h, fun i blk cs h => by simp at h, by simp, fun blk h => by simp at h, fun blk h => by simp at h, rfl, fun t b n h => by simp at h, fun t t' b n n' h => by simp at h⟩
    refine .of_enter hrun (Calls.mono (hs w (lent G w) _ [] [] (args.map e) hbegin (by simpa using hreps)) fun en w' ⟨v, hv, lim', obs', tb', _, hI, vs, hw, hR⟩ => ⟨v, hv, ?_⟩)
    subst hw
    obtain ⟨i1, k1⟩ := hi.quiet (w' := w') (lim' := fun b => if b < w.heap.size then G.lim b else 0) hI.frame.size hI.frame.os hI.frame.tape hI.frame.output
      (fun b hb => ⟨(hI.frame.blk b hb (fun h => h)).1, if_pos hb⟩) (fun b hb => by
        have := hI.frame.size
        exact if_neg (by omega))
    refine ⟨_, wrap_rep ⟨hR.1, fun i x b hx hb => ?_⟩, i1, k1⟩
    exact scal_rep (hR.2 i x b hx hb) (List.all_eq_true.1 hr b (List.mem_of_getElem? hb))

end
end Go.Ab
