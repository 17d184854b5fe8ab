/-
All operations; an operation with its guard; regions that run in the text's order.
-/
import Derived.Test.YtimkgalclegffaaOpL
import Derived.Orders
namespace Go.Ab
open Go

section
variable {P : Program} {prim : FuncId → List AV → List AV → Prop} {w0 : World} {lim0 : Nat → Nat} {O : Nat → Prop} {G : Gh} {toks toks0 : List (Option Nat)} {outer heap : List (List AV)} {w : World}

def CallO.sim (P : Program) (c : CallO) : Prop := c.cond → hasBody P c.f = true → SimF P c.f c.args c.toks c.outer c.r c.outer'

theorem passArgs_quiet {n : Option Nat} : ∀ (as : List AV) (fl : List Bool) (toks mine toks2 : List (Option Nat)) (bs : List AV) (toks1 mine1 : List (Option Nat)) (l : List Prop), fl.any id = false →
    passArgs n fl as toks mine = some (bs, toks1, mine1, l) → toks1 = toks ∧ mine1 = mine ∧ passArgs n fl as toks2 mine = some (bs, toks2, mine, l)
  | [], fl, toks, mine, toks2, bs, toks1, mine1, l, hf, h => by simp [passArgs] at h; obtain ⟨rfl, rfl, rfl, rfl⟩ := h; exact ⟨rfl, rfl, rfl⟩
  | a :: as, fl, toks, mine, toks2, bs, toks1, mine1, l, hf, h => by
    have hft : fl.tail.any id = false := by cases fl <;> simp_all
    have hfh : fl.headD false = false := by cases fl <;> simp_all
    have key : ∀ {b : AV} {l' : List Prop}, (passArgs n fl.tail as toks mine).map (fun (bs, t, m, q) => (b :: bs, t, m, l' ++ q)) = some (bs, toks1, mine1, l) → toks1 = toks ∧ mine1 = mine ∧
        (passArgs n fl.tail as toks2 mine).map (fun (bs, t, m, q) => (b :: bs, t, m, l' ++ q)) = some (bs, toks2, mine, l) := by
      intro b l' hh
      obtain ⟨⟨bs', t', m', q'⟩, hp, he⟩ := Option.map_eq_some_iff.1 hh
      simp only [Prod.mk.injEq] at he
      obtain ⟨rfl, rfl, rfl, rfl⟩ := he
      obtain ⟨e1, e2, e3⟩ := passArgs_quiet as _ _ _ toks2 _ _ _ _ hft hp
      exact ⟨e1, e2, by rw [e3]; rfl⟩
    unfold passArgs at h ⊢
    simp only [hfh] at h ⊢
    split at h
    · exact key (l' := []) h
    · exact key (l' := []) h
    · exact key (l' := []) h
    · exact key (l' := []) h
    · exact key (l' := []) h
    · exact key (l' := []) h
    · rename_i h0 h1 h2 h3 h4 h5
      split at h <;> (try (simp at h; done))
      split at h <;> (try (simp at h; done))
      rename_i n' b hb
      have := key (l' := []) h
      refine ⟨this.1, this.2.1, ?_⟩
      rw [← this.2.2]

theorem takeRes_n {n n' : Nat} : ∀ (r : List AV) (k k' : Nat), takeRes false n r k = takeRes false n' r k'
  | [], k, k' => rfl
  | a :: as, k, k' => by
    have ih := takeRes_n (n := n) (n' := n') as k k'
    cases a <;> simp only [takeRes, Bool.false_eq_true, if_false, ih]

theorem callee_fn {v : AV} {g : FuncId} {first cap : List AV} (h : callee? v = some (g, first, cap)) : v = .fn (.func g) first cap := by
  unfold callee? at h
  split at h <;> simp at h
  obtain ⟨rfl, rfl, rfl⟩ := h
  rfl

theorem sem_sim {e : Operand → Value} {ρ : Operand → AV} {o : Oper} {k : Kd} {r : Res} (hP : PrimOK P prim) (hi : Inv w0 lim0 O G toks outer heap w)
    (hop : Opnds G toks w e ρ o.op) (h : sem P o.op k ρ toks outer heap = some r) (ho : ∀ q ∈ r.obls, q) (hc : ∀ c ∈ r.calls, c.sim P) : Does P (execOp e o) w (Good w0 lim0 O G toks w r) := by
  by_cases hcall : ∃ f args ats, o.op = .call { callee := .value f, args := args, argTypes := ats }
  · obtain ⟨f, args, ats, hoc⟩ := hcall
    rw [hoc] at hop h
    have hf : ARep G toks w (e f) (ρ f) := hop f (by simp [Op.operands, Call.operands])
    have hx : ∀ x ∈ args.toList, ARep G toks w (e x) (ρ x) := fun x hx => hop x (by
      simp only [Op.operands, Call.operands, Array.toList_append]
      exact List.mem_append_right _ hx)
    cases k
    case call cons keep rr =>
      by_cases htk : (keep || cons.any id) = true
      · simp only [sem, clsOf, htk, core] at h
        split at h <;> (try (simp at h; done))
        rename_i r' hr
        split at hr <;> (try (simp at hr; done))
        rename_i g hcal
        split at hr <;> (try (simp at hr; done))
        rename_i as toks1 mine l hb hp
        split at hr <;> (try (simp at hr; done))
        rename_i rs new ht
        simp only [Option.some.injEq] at hr h
        subst hr
        subst h
        rw [callee_fn hcal] at hf
        have := hc _ (List.mem_singleton.2 rfl) trivial hb
        exact sem_callS hi hoc hf hx hb hp ho ht this
      · have htk' : keep = false ∧ cons.any id = false := by simpa using htk
        simp only [sem, clsOf, htk, core] at h
        split at h <;> (try (simp at h; done))
        rename_i r' hr
        split at hr <;> (try (simp at hr; done))
        rename_i g hcal
        split at hr <;> (try (simp at hr; done))
        rename_i as toks1 mine l hb hp
        split at hr <;> (try (simp at hr; done))
        rename_i rs new ht
        simp only [Option.some.injEq] at hr h
        subst hr
        subst h
        rw [callee_fn hcal] at hf
        obtain ⟨rfl, rfl, hp'⟩ := passArgs_quiet _ _ _ _ toks _ _ _ _ htk'.2 hp
        have := hc _ (List.mem_singleton.2 rfl) trivial hb
        rw [htk'.1] at ht
        have hnew := (takeRes_spec _ _ _ _ ht).2.1
        simp at hnew
        subst hnew
        have fin := sem_callS hi hoc hf hx hb hp' ho ((takeRes_n (n' := toks.length) _ 0 0) ▸ ht) this
        rw [List.append_nil] at fin
        exact fin
    case callB rs rr =>
      simp only [sem, clsOf, core] at h
      split at h <;> (try (simp at h; done))
      rename_i r' hr
      split at hr <;> (try (simp at hr; done))
      rename_i g hcal
      split at hr <;> (try (simp at hr; done))
      rename_i as l hb hl
      simp only [Option.some.injEq] at hr h
      subst hr
      subst h
      rw [callee_fn hcal] at hf
      simp only [Bool.and_eq_true] at hb
      simp only [Bool.true_or, if_true] at hl
      have := hc _ (List.mem_singleton.2 rfl) trivial hb.1
      exact sem_callB hi hoc hf hx hb.1 hl ho hb.2 this
    case callR rr =>
      simp only [sem, clsOf, core] at h
      split at h <;> (try (simp at h; done))
      rename_i r' hr
      split at hr <;> (try (simp at hr; done))
      rename_i g first cap hcal
      split at hr <;> (try (simp at hr; done))
      rename_i as t1 mine l hp hb hpa hl1
      split at hr <;> (try (simp at hr; done))
      rename_i rs new ht
      simp only [Option.some.injEq] at hr h
      subst hr
      subst h
      rw [callee_fn hcal] at hf
      obtain ⟨rfl, rfl, hpa'⟩ := passArgs_quiet _ _ _ _ toks _ _ _ _ rfl hpa
      have := hc _ (List.mem_singleton.2 rfl) trivial hb
      exact sem_callH hi hoc hf hx hb hpa' (fun q hq => ho q (List.mem_append_right _ hq)) ht hl1 hl1 rfl rfl (fun cs hcs => .inl hcs)
        (fun q hq => ho q (List.mem_append_left _ hq)) this
    case callH rr outer' heap' =>
      simp only [sem, clsOf, core] at h
      split at h <;> (try (simp at h; done))
      rename_i r' hr
      split at hr <;> (try (simp at hr; done))
      rename_i g first cap hcal
      split at hr <;> (try (simp at hr; done))
      rename_i as t1 mine l hp hp' hb hpa hl1 hl2
      split at hr <;> (try (simp at hr; done))
      rename_i rs new ht
      simp only [Option.some.injEq] at hr h
      subst hr
      subst h
      rw [callee_fn hcal] at hf
      simp only [Bool.and_eq_true, beq_iff_eq] at hb
      obtain ⟨rfl, rfl, hpa'⟩ := passArgs_quiet _ _ _ _ toks _ _ _ _ rfl hpa
      have := hc _ (List.mem_singleton.2 rfl) trivial hb.1
      have ho1 := ho _ (List.mem_cons_self ..)
      have ho2 := ho _ (List.mem_cons_of_mem _ (List.mem_cons_self ..))
      exact sem_callH hi hoc hf hx hb.1 hpa' (fun q hq => ho q (List.mem_cons_of_mem _ (List.mem_cons_of_mem _ (List.mem_append_right _ hq)))) ht hl1 hl2 ho1 hb.2 ho2
        (fun q hq => ho q (List.mem_cons_of_mem _ (List.mem_cons_of_mem _ (List.mem_append_left _ hq)))) this
    all_goals
      simp only [sem, clsOf, core] at h
      split at h <;> (try (simp at h; done))
      rename_i r' hr
      simp [plain] at hr
  · exact sem_sim0 hi hop h ho fun f args ats hh => hcall ⟨f, args, ats, hh⟩

end
end Go.Ab
