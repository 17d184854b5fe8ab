/-
The laws of chapter 21.
-/
import Derived.Test.YtdddimnfhgmadaaPrune
namespace Go.Ab.S2
open Go Go.Proofs Go.Ab

/-! ### which clauses stay -/

/-- 'pre', 'post': the other clauses. -/
def gone (pre : List (List Hf)) (x : List Hf) (post : List (List Hf)) : Bool := pre.any (fun y => withinB y x) || post.any (fun y => withinB y x && decide (y.length < x.length))

def stayZ : List (List Hf) → List (List Hf) → List (List Hf)
  | _, [] => []
  | pre, x :: post => if gone pre x post then stayZ (pre ++ [x]) post else x :: stayZ (pre ++ [x]) post

/-- A clause with no half twice, none that is never or always, no two that can't both hold. -/
def tidy (c : List Hf) : Prop := (∀ h ∈ c, h.nev = false ∧ h.alw = false) ∧ c.Pairwise fun x y => against x y = false ∧ x ≠ y

theorem hasB_iff (l : List Hf) (h : Hf) : hasB l h = true ↔ h ∈ l := by
  unfold hasB
  rw [List.any_eq_true]
  constructor
  · rintro ⟨x, hx, he⟩; have : x = h := by simpa using he
    exact this ▸ hx
  · intro hh; exact ⟨h, hh, by simp⟩

theorem tidy_snoc {out : List Hf} {h : Hf} (ht : tidy out) (hn : h.nev = false) (ha : h.alw = false) (hg : out.any (fun x => against x h) = false) (hh : hasB out h = false) : tidy (out ++ [h]) := by
  refine ⟨fun y hy => ?_, ?_⟩
  · rcases List.mem_append.1 hy with hy | hy
    · exact ht.1 y hy
    · simp at hy; subst hy; exact ⟨hn, ha⟩
  · rw [List.pairwise_append]
    refine ⟨ht.2, by simp, fun x hx y hy => ?_⟩
    simp at hy
    subst hy
    rw [List.any_eq_false] at hg
    refine ⟨by simpa using hg x hx, fun he => ?_⟩
    subst he
    rw [(hasB_iff out x).2 hx] at hh
    exact Bool.noConfusion hh

theorem cleanC_tidy : ∀ (c out y : List Hf), tidy out → cleanC c out = some y → tidy y
  | [], out, y, ht, h => by simp only [cleanC, Option.some.injEq] at h; exact h ▸ ht
  | h :: l, out, y, ht, hc => by
    unfold cleanC at hc
    cases hn : h.nev with
    | true => simp [hn] at hc
    | false =>
      cases ha : out.any (fun x => against x h) with
      | true => simp [hn, ha] at hc
      | false =>
        rw [hn, ha, if_neg (by simp), if_neg (by simp)] at hc
        by_cases hk : (!h.alw && !hasB out h) = true
        · rw [if_pos hk] at hc
          simp only [Bool.and_eq_true, Bool.not_eq_true'] at hk
          exact cleanC_tidy l _ y (tidy_snoc ht hn hk.1 ha hk.2) hc
        · rw [if_neg hk] at hc
          exact cleanC_tidy l out y ht hc

theorem cleanC_same : ∀ (c out : List Hf), tidy (out ++ c) → cleanC c out = some (out ++ c)
  | [], out, _ => by simp [cleanC]
  | h :: l, out, ht => by
    have hm : h ∈ out ++ h :: l := by simp
    obtain ⟨h1, h2⟩ := ht.1 h hm
    have hp := (List.pairwise_append.1 ht.2).2.2
    have ha : out.any (fun x => against x h) = false := by
      rw [List.any_eq_false]
      intro x hx
      have := (hp x hx h (List.mem_cons_self ..)).1
      simp [this]
    have hh : hasB out h = false := by
      rw [Bool.eq_false_iff]
      intro hb
      exact (hp h ((hasB_iff out h).1 hb) h (List.mem_cons_self ..)).2 rfl
    unfold cleanC
    rw [h1, ha, h2, hh, if_neg (by simp), if_neg (by simp), if_pos (by simp), cleanC_same l (out ++ [h]) (by simpa using ht)]
    simp

theorem cleanC_len : ∀ (c out y : List Hf), cleanC c out = some y → y.length ≤ out.length + c.length
  | [], out, y, h => by simp only [cleanC, Option.some.injEq] at h; subst h; simp
  | h :: l, out, y, hc => by
    unfold cleanC at hc
    split at hc
    · simp at hc
    split at hc
    · simp at hc
    have := cleanC_len l _ y hc
    split at this
    · simp at this ⊢; omega
    · simp; omega

theorem cleanC_mem : ∀ (c out y : List Hf), cleanC c out = some y → ∀ h ∈ y, h ∈ out ∨ h ∈ c
  | [], out, y, h => by simp only [cleanC, Option.some.injEq] at h; subst h; intro h hh; exact .inl hh
  | h :: l, out, y, hc => by
    unfold cleanC at hc
    split at hc
    · simp at hc
    split at hc
    · simp at hc
    intro k hk
    rcases cleanC_mem l _ y hc k hk with h1 | h1
    · split at h1
      · rcases List.mem_append.1 h1 with h2 | h2
        · exact .inl h2
        · simp at h2; subst h2; exact .inr (List.mem_cons_self ..)
      · exact .inl h1
    · exact .inr (List.mem_cons_of_mem _ h1)

/-! ### what is left means the same -/

theorem against_not {x h : Hf} {s : Six} (ha : against x h = true) (h1 : x.holds s = true) (h2 : h.holds s = true) : False := by
  unfold against at ha
  have hc : (x.o == 1) = true ∧ (h.o == 1) = true ∧ (x.a == h.a) = true ∧ (x.h == h.h) = true ∧ (x.m == h.m) = true ∧ (x.v != h.v) = true := by
    cases e1 : (x.o == 1) <;> cases e2 : (h.o == 1) <;> cases e3 : (x.a == h.a) <;> cases e4 : (x.h == h.h) <;> cases e5 : (x.m == h.m) <;> cases e6 : (x.v != h.v) <;> simp [e1, e2, e3, e4, e5, e6] at ha ⊢
  simp only [beq_iff_eq, bne_iff_ne] at hc
  obtain ⟨c1, c2, c3, c4, c5, c6⟩ := hc
  unfold Hf.holds at h1 h2
  split at h1
  · split at h2
    · rw [c1, comp1] at h1
      rw [c2, comp1] at h2
      rw [← c3, ← c4, ← c5] at h2
      exact c6 (h1.symm.trans h2)
    · simp at h2
  · simp at h1

def optB (s : Six) : Option (List Hf) → Bool
  | some y => clauseB s y
  | none => false

theorem cleanC_means (s : Six) : ∀ (c out : List Hf), (∀ h ∈ c, h.ok) → (clauseB s out && clauseB s c) = optB s (cleanC c out)
  | [], out, _ => by simp [cleanC, optB, clauseB]
  | h :: l, out, hok => by
    have hh := hok h (List.mem_cons_self ..)
    have hl := fun k hk => hok k (List.mem_cons_of_mem _ hk)
    have e0 : clauseB s (h :: l) = (h.holds s && clauseB s l) := by simp [clauseB]
    rw [e0]
    unfold cleanC
    cases hn : h.nev with
    | true => rw [nev_not h s hh hn]; simp [optB]
    | false =>
      cases ha : out.any (fun x => against x h) with
      | true =>
        obtain ⟨x, hx, hax⟩ := List.any_eq_true.1 ha
        have : (clauseB s out && (h.holds s && clauseB s l)) = false := by
          cases h1 : clauseB s out with
          | false => rfl
          | true =>
            cases h2 : h.holds s with
            | false => rfl
            | true =>
              unfold clauseB at h1
              rw [List.all_eq_true] at h1
              exact (against_not hax (h1 x hx) h2).elim
        rw [this]
        simp [optB]
      | false =>
        rw [if_neg (by simp), if_neg (by simp)]
        by_cases hk : (!h.alw && !hasB out h) = true
        · rw [if_pos hk, ← cleanC_means s l (out ++ [h]) hl]
          simp [clauseB, Bool.and_assoc]
        · rw [if_neg hk, ← cleanC_means s l out hl]
          cases h1 : h.alw with
          | true => rw [alw_all h s hh h1]; simp
          | false =>
            have h2 : hasB out h = true := by cases h2 : hasB out h <;> simp_all
            have h3 := (hasB_iff out h).1 h2
            cases h4 : clauseB s out with
            | false => rfl
            | true =>
              unfold clauseB at h4
              rw [List.all_eq_true] at h4
              rw [h4 h h3]
              simp

def tu (c : List Hf) : Option (List Hf) := cleanC c []
def leftL (L : List (List Hf)) : List (List Hf) := L.filterMap tu
def clean (L : List (List Hf)) : List (List Hf) := stayZ [] (leftL L)

theorem left_means (s : Six) : ∀ (L : List (List Hf)), (∀ c ∈ L, ∀ h ∈ c, h.ok) → someB s (leftL L) = someB s L
  | [], _ => rfl
  | c :: L, hok => by
    have ih := left_means s L fun d hd => hok d (List.mem_cons_of_mem _ hd)
    have hc := cleanC_means s c [] (hok c (List.mem_cons_self ..))
    have e : clauseB s [] = true := rfl
    rw [e, Bool.true_and] at hc
    unfold leftL at ih ⊢
    unfold someB at ih ⊢
    rw [List.any_cons, hc, ← ih]
    cases hz : cleanC c [] with
    | none => rw [List.filterMap_cons_none (show tu c = none from hz)]; rfl
    | some y => rw [List.filterMap_cons_some (show tu c = some y from hz), List.any_cons]; rfl

theorem within_holds {s : Six} {y x : List Hf} (h : withinB y x = true) (hx : clauseB s x = true) : clauseB s y = true := by
  unfold clauseB at hx ⊢
  unfold withinB at h
  rw [List.all_eq_true] at h hx ⊢
  exact fun k hk => hx k ((hasB_iff x k).1 (h k hk))

theorem stay_mem : ∀ (l pre : List (List Hf)) (x : List Hf) (post : List (List Hf)), gone (pre ++ l) x post = false → x ∈ stayZ pre (l ++ x :: post)
  | [], pre, x, post, h => by
    rw [List.append_nil] at h
    simp [stayZ, h]
  | a :: l, pre, x, post, h => by
    have := stay_mem l (pre ++ [a]) x post (by simpa using h)
    simp only [List.cons_append, stayZ]
    split
    · exact this
    · exact List.mem_cons_of_mem _ this

theorem stay_sub : ∀ (l pre : List (List Hf)), ∀ x ∈ stayZ pre l, x ∈ l
  | [], _, x, h => by simp [stayZ] at h
  | a :: l, pre, x, h => by
    unfold stayZ at h
    split at h
    · exact List.mem_cons_of_mem _ (stay_sub l _ x h)
    · rcases List.mem_cons.1 h with rfl | h
      · exact List.mem_cons_self ..
      · exact List.mem_cons_of_mem _ (stay_sub l _ x h)

theorem split_of {α : Type} {x : α} : ∀ {l : List α}, x ∈ l → ∃ p q, l = p ++ x :: q := fun h => List.append_of_mem h

/-- Of clauses that hold, one stays: a shortest one, the first of these. -/
theorem stay_some (s : Six) (W : List (List Hf)) (hlen : ∀ y ∈ W, ∀ x ∈ W, withinB y x = true → y.length ≤ x.length) : ∀ (n : Nat) (pre : List (List Hf)) (x : List Hf) (post : List (List Hf)), W = pre ++ x :: post → clauseB s x = true → x.length * (W.length + 1) + pre.length ≤ n →
    ∃ z ∈ stayZ [] W, clauseB s z = true := by
  intro n
  induction n using Nat.strongRecOn with
  | _ n ih =>
    intro pre x post hW hx hn
    have hWl : W.length = pre.length + post.length + 1 := by rw [hW]; simp; omega
    cases hg : gone pre x post with
    | false =>
      refine ⟨x, ?_, hx⟩
      rw [hW]
      exact stay_mem pre [] x post (by simpa using hg)
    | true =>
      unfold gone at hg
      rw [Bool.or_eq_true, List.any_eq_true, List.any_eq_true] at hg
      have mx : x ∈ W := by rw [hW]; simp
      rcases hg with ⟨y, hy, hw⟩ | ⟨y, hy, hw⟩
      · obtain ⟨p, q, hp⟩ := split_of hy
        have my : y ∈ W := by rw [hW]; exact List.mem_append_left _ hy
        have hle := hlen y my x mx hw
        have hpl : pre.length = p.length + q.length + 1 := by rw [hp]; simp; omega
        have h1 : y.length * (W.length + 1) ≤ x.length * (W.length + 1) := Nat.mul_le_mul_right _ hle
        exact ih (y.length * (W.length + 1) + p.length) (by omega) p y (q ++ x :: post) (by rw [hW, hp]; simp) (within_holds hw hx) (Nat.le_refl _)
      · rw [Bool.and_eq_true, decide_eq_true_eq] at hw
        obtain ⟨p, q, hp⟩ := split_of hy
        have h1 : (y.length + 1) * (W.length + 1) ≤ x.length * (W.length + 1) := Nat.mul_le_mul_right _ hw.2
        have h2 : (y.length + 1) * (W.length + 1) = y.length * (W.length + 1) + (W.length + 1) := by rw [Nat.add_mul]; simp
        have hpl : post.length = p.length + q.length + 1 := by rw [hp]; simp; omega
        have hql : (pre ++ x :: p).length = pre.length + p.length + 1 := by simp; omega
        exact ih (y.length * (W.length + 1) + (pre ++ x :: p).length) (by omega) (pre ++ x :: p) y q (by rw [hW, hp]; simp) (within_holds hw.1 hx) (Nat.le_refl _)

theorem stay_means (s : Six) (W : List (List Hf)) (hlen : ∀ y ∈ W, ∀ x ∈ W, withinB y x = true → y.length ≤ x.length) : someB s (stayZ [] W) = someB s W := by
  unfold someB
  rw [Bool.eq_iff_iff, List.any_eq_true, List.any_eq_true]
  constructor
  · rintro ⟨x, hx, h⟩
    exact ⟨x, stay_sub W [] x hx, h⟩
  · rintro ⟨x, hx, h⟩
    obtain ⟨p, q, hp⟩ := split_of hx
    exact stay_some s W hlen _ p x q hp h (Nat.le_refl _)

theorem nodup_len : ∀ (y x : List Hf), y.Pairwise (fun a b => against a b = false ∧ a ≠ b) → (∀ h ∈ y, h ∈ x) → y.length ≤ x.length
  | [], x, _, _ => by simp
  | a :: y, x, hp, hm => by
    rw [List.pairwise_cons] at hp
    have ha := hm a (List.mem_cons_self ..)
    have := nodup_len y (x.erase a) hp.2 fun h hh => by
      have hx := hm h (List.mem_cons_of_mem _ hh)
      exact (List.mem_erase_of_ne (fun he => (hp.1 h hh).2 he.symm)).2 hx
    rw [List.length_erase_of_mem ha] at this
    have : 0 < x.length := List.length_pos_of_mem ha
    simp
    omega

theorem left_tidy {L : List (List Hf)} : ∀ c ∈ leftL L, tidy c := by
  intro c hc
  unfold leftL at hc
  obtain ⟨d, _, hd⟩ := List.mem_filterMap.1 hc
  exact cleanC_tidy d [] c ⟨by simp, by simp⟩ hd

theorem left_within {L : List (List Hf)} : ∀ y ∈ leftL L, ∀ x ∈ leftL L, withinB y x = true → y.length ≤ x.length := by
  intro y hy x _ h
  refine nodup_len y x (left_tidy y hy).2 fun k hk => ?_
  unfold withinB at h
  rw [List.all_eq_true] at h
  exact (hasB_iff x k).1 (h k hk)

theorem clean_means (s : Six) (L : List (List Hf)) (hok : ∀ c ∈ L, ∀ h ∈ c, h.ok) : someB s (clean L) = someB s L := by
  unfold clean
  rw [stay_means s _ left_within, left_means s L hok]

/-! ### what was cleaned stays -/

theorem gone_less {pre pre' post post' : List (List Hf)} {x : List Hf} (h1 : ∀ y ∈ pre', y ∈ pre) (h2 : ∀ y ∈ post', y ∈ post) (hg : gone pre x post = false) : gone pre' x post' = false := by
  unfold gone at hg ⊢
  rw [Bool.or_eq_false_iff, List.any_eq_false, List.any_eq_false] at hg ⊢
  exact ⟨fun y hy => hg.1 y (h1 y hy), fun y hy => hg.2 y (h2 y hy)⟩

theorem stay_again : ∀ (l pre pre' : List (List Hf)), (∀ y ∈ pre', y ∈ pre) → stayZ pre' (stayZ pre l) = stayZ pre l
  | [], _, _, _ => by simp [stayZ]
  | x :: post, pre, pre', h => by
    have e : stayZ pre (x :: post) = if gone pre x post then stayZ (pre ++ [x]) post else x :: stayZ (pre ++ [x]) post := rfl
    cases hg : gone pre x post with
    | true =>
      rw [e, hg, if_pos rfl]
      exact stay_again post (pre ++ [x]) pre' fun y hy => List.mem_append_left _ (h y hy)
    | false =>
      rw [e, hg, if_neg (by simp)]
      have hg' := gone_less (post' := stayZ (pre ++ [x]) post) h (fun y hy => stay_sub post _ y hy) hg
      have ih := stay_again post (pre ++ [x]) (pre' ++ [x]) fun y hy => by
        rcases List.mem_append.1 hy with hy | hy
        · exact List.mem_append_left _ (h y hy)
        · exact List.mem_append_right _ hy
      show (if gone pre' x (stayZ (pre ++ [x]) post) then stayZ (pre' ++ [x]) (stayZ (pre ++ [x]) post) else x :: stayZ (pre' ++ [x]) (stayZ (pre ++ [x]) post)) = _
      rw [hg', if_neg (by simp), ih]

theorem left_same : ∀ (L : List (List Hf)), (∀ c ∈ L, tidy c) → leftL L = L
  | [], _ => rfl
  | c :: L, h => by
    have hc := cleanC_same c [] (by simpa using h c (List.mem_cons_self ..))
    have ih := left_same L fun d hd => h d (List.mem_cons_of_mem _ hd)
    unfold leftL at ih ⊢
    rw [List.filterMap_cons_some (show tu c = _ from hc), ih]
    rfl

theorem clean_twice (L : List (List Hf)) : clean (clean L) = clean L := by
  unfold clean
  rw [left_same (stayZ [] (leftL L)) fun c hc => left_tidy c (stay_sub _ _ c hc)]
  exact stay_again (leftL L) [] [] (by simp)

theorem stay_len : ∀ (l pre : List (List Hf)), (stayZ pre l).length ≤ l.length
  | [], _ => by simp [stayZ]
  | x :: l, pre => by
    have := stay_len l (pre ++ [x])
    unfold stayZ
    split
    · simp; omega
    · simp; omega

theorem clean_len (L : List (List Hf)) : (clean L).length ≤ L.length := by
  have h1 := stay_len (leftL L) []
  have h2 : (leftL L).length ≤ L.length := List.length_filterMap_le ..
  unfold clean
  omega

theorem clean_mem {L : List (List Hf)} : ∀ c ∈ clean L, ∃ d ∈ L, c.length ≤ d.length ∧ ∀ h ∈ c, h ∈ d := by
  intro c hc
  have := stay_sub _ _ c hc
  unfold leftL at this
  obtain ⟨d, hd, hy⟩ := List.mem_filterMap.1 this
  refine ⟨d, hd, by simpa using cleanC_len d [] c hy, fun h hh => ?_⟩
  rcases cleanC_mem d [] c hy h hh with h1 | h1
  · simp at h1
  · exact h1

end Go.Ab.S2
