/-
All operations but calls: what they come to in memory is what the evaluator says.
-/
import Derived.Test.YtimkgalclegffaaOpG
import Derived.Calls
namespace Go.Ab
open Go

section
variable {P : Program} {w0 : World} {lim0 : Nat → Nat} {O : Nat → Prop} {G : Gh} {toks : List (Option Nat)} {outer heap : List (List AV)} {w : World}

/-- What an operation comes to: a value, or a call that comes to one. -/
def Does (P : Program) (x : Sem Next) (w : World) (K : Value → World → Prop) : Prop :=
  match x.run P w with
  | .ok (.value v) w' => K v w'
  | .ok .skip w' => K undef w'
  | .ok (.enter f args) w' => Calls P f args w' fun e w'' => ∃ v, e = .returned v ∧ K v w''
  | _ => False

theorem Does.of_value {x : Sem Next} {K : Value → World → Prop} {v : Value} {w' : World} (h : x.run P w = .ok (.value v) w') (k : K v w') : Does P x w K := by
  unfold Does; rw [h]; exact k
theorem Does.of_skip {x : Sem Next} {K : Value → World → Prop} {w' : World} (h : x.run P w = .ok .skip w') (k : K undef w') : Does P x w K := by
  unfold Does; rw [h]; exact k
theorem Does.of_enter {x : Sem Next} {K : Value → World → Prop} {f : FuncId} {args : Array Value} {w' : World} (h : x.run P w = .ok (.enter f args) w')
    (k : Calls P f args w' fun e w'' => ∃ v, e = .returned v ∧ K v w'') : Does P x w K := by
  unfold Does; rw [h]; exact k

/-- What the evaluator says of an operation. -/
def Good (w0 : World) (lim0 : Nat → Nat) (O : Nat → Prop) (G : Gh) (toks : List (Option Nat)) (w : World) (r : Res) (v : Value) (w' : World) : Prop :=
  ∃ G', After w0 lim0 O G toks w r.v r.toks r.outer r.heap v G' w'

theorem Plain.does {x : Sem Next} {a : AV} {l : List Prop} {cs : List CallO} (h : Plain P w0 lim0 O G toks outer heap w x a) :
    Does P x w (Good w0 lim0 O G toks w { v := a, toks, outer, heap, obls := l, calls := cs }) := by
  obtain ⟨v, G', w', h1, h2⟩ := h
  exact .of_value h1 ⟨G', h2⟩

theorem Does.mono {x : Sem Next} {K K' : Value → World → Prop} (h : Does P x w K) (k : ∀ v w', K v w' → K' v w') : Does P x w K' := by
  unfold Does at *
  split at h
  · exact k _ _ h
  · exact k _ _ h
  · exact Calls.mono h fun e w'' ⟨v, he, hv⟩ => ⟨v, he, k _ _ hv⟩
  · exact h.elim

/-- The plain operations, but picks, calls. -/
theorem plain_sim {e : Operand → Value} {ρ : Operand → AV} {o : Oper} {k : Kd} {a : AV} {l : List Prop} (hi : Inv w0 lim0 O G toks outer heap w)
    (hop : Opnds G toks w e ρ o.op) (h : plain P o.op k ρ = some (a, l)) (ho : ∀ q ∈ l, q) : Plain P w0 lim0 O G toks outer heap w (execOp e o) a := by
  obtain ⟨dst, op, type, pos, after, guard⟩ := o
  cases op
  case move x => simp only [plain, Option.some.injEq, Prod.mk.injEq] at h; obtain ⟨rfl, rfl⟩ := h; exact .pure hi (by simp [execOp]) (hop x (by simp [Op.operands]))
  case assign x => simp only [plain, Option.some.injEq, Prod.mk.injEq] at h; obtain ⟨rfl, rfl⟩ := h; exact .pure hi (by simp [execOp]) (hop x (by simp [Op.operands]))
  case pick c x y =>
    obtain ⟨hc, hxy⟩ := hop
    have key : ∀ {B : Bool}, ρ c = .v (.bool B) → ARep G toks w (if B then e x else e y) a → Plain P w0 lim0 O G toks outer heap w (execOp e ⟨dst, .pick c x y, type, pos, after, guard⟩) a := fun hB hr => sem_pick hi hc hB hr
    by_cases hk : ∃ t, k = .pk t
    · obtain ⟨t, rfl⟩ := hk
      simp only [plain] at h
      split at h <;> (try (simp at h; done))
      rename_i B hB
      simp only [Option.some.injEq, Prod.mk.injEq] at h
      obtain ⟨rfl, rfl⟩ := h
      have hBt : B = t := ho _ (by simp)
      subst hBt
      refine key hB ?_
      cases B with
      | true => exact (hxy _ hB).1 rfl
      | false => exact (hxy _ hB).2 rfl
    · have h' : (match ρ c with
        | .v (.bool B) => match ρ x, ρ y with
          | .v (.bool x), .v (.bool y) => some ((.v (.bool (bif B then x else y)), []) : AV × List Prop)
          | x, y => match B with
            | true => some (x, [])
            | false => some (y, [])
        | _ => none) = some (a, l) := by
        cases k <;> first | exact h | exact (hk ⟨_, rfl⟩).elim
      clear h
      split at h' <;> (try (simp at h'; done))
      rename_i B hB
      refine key hB ?_
      split at h'
      · rename_i bx by' hx hy
        simp only [Option.some.injEq, Prod.mk.injEq] at h'
        obtain ⟨rfl, rfl⟩ := h'
        cases B with
        | true => have := (hxy _ hB).1 rfl; rw [hx] at this; exact this
        | false => have := (hxy _ hB).2 rfl; rw [hy] at this; exact this
      · split at h' <;> simp only [Option.some.injEq, Prod.mk.injEq] at h' <;> obtain ⟨rfl, rfl⟩ := h'
        · exact (hxy _ hB).1 rfl
        · exact (hxy _ hB).2 rfl
  case build t parts => exact sem_build hi (fun p hp => hop p.2 (by simp only [Op.operands]; exact List.mem_map.2 ⟨p, hp, rfl⟩)) h
  case buildSlice t len parts =>
    have hk : k = .d := by cases k <;> simp [plain] at h ⊢
    subst hk
    exact sem_buildSliceP hi (fun p hp => hop p.2 (by simp only [Op.operands]; exact List.mem_map.2 ⟨p, hp, rfl⟩)) h
  case load t x =>
    have hk : k = .d := by cases k <;> simp [plain] at h ⊢
    subst hk
    exact sem_loadP hi (hop x (by simp [Op.operands])) h
  case nilCheck x => exact sem_nilCheck hi (hop x (by simp [Op.operands])) rfl h
  case binOp op t x y t' => exact sem_binOp hi (hop x (by simp [Op.operands])) (hop y (by simp [Op.operands])) h ho
  case unOp op t x => exact sem_unOp hi (hop x (by simp [Op.operands])) h
  case convert s d x => exact sem_convert hi (hop x (by simp [Op.operands])) h ho
  case makeFunc f first cap =>
    simp only [plain, Option.some.injEq, Prod.mk.injEq] at h
    obtain ⟨rfl, rfl⟩ := h
    exact sem_makeFunc hi (fun x hx => hop x (by simp only [Op.operands, Array.toList_append]; exact List.mem_append_left _ hx)) fun x hx => hop x (by simp only [Op.operands, Array.toList_append]; exact List.mem_append_right _ hx)
  case slice t x lo hh mx =>
    exact sem_slice hi (hop x (by simp [Op.operands])) (fun y hy => hop y (by cases hy; simp [Op.operands])) (fun y hy => hop y (by cases hy; simp [Op.operands])) h ho
  case fieldAddr s x f => exact sem_fieldAddr hi (hop x (by simp [Op.operands])) h
  case field t x f => exact sem_field hi (hop x (by simp [Op.operands])) h
  case indexAddr t x ix => exact sem_indexAddr hi (hop x (by simp [Op.operands])) (hop ix (by simp [Op.operands])) h ho
  case index t x ix => exact sem_index hi (hop x (by simp [Op.operands])) (hop ix (by simp [Op.operands])) h ho
  case extract x i => exact sem_extract hi (hop x (by simp [Op.operands])) h
  case call c =>
    obtain ⟨callee, args, argTypes⟩ := c
    cases callee with
    | builtin b =>
      cases b <;> (try (simp [plain] at h; done))
      exact sem_len hi (fun x hx => hop x (by simp only [Op.operands, Call.operands]; simpa using hx)) rfl h
    | _ => simp [plain] at h
  all_goals (simp [plain] at h)

end
end Go.Ab
