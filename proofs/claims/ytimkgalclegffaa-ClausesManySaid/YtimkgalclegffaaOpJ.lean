/-
Calls: what goes in, what comes out.
-/
import Derived.Test.YtimkgalclegffaaOpI
namespace Go.Ab
open Go

/-- A value that a value of 'l' is: of more than one a tuple. -/
def wrapV : List Value → Value
  | [v] => v
  | l => .tuple l.toArray

def resToks : List AV → List (Option Nat)
  | [] => []
  | .own _ rows :: l => some rows.length :: resToks l
  | .vac _ _ :: l => some 0 :: resToks l
  | _ :: l => resToks l

def Reps2 (G : Gh) (toks : List (Option Nat)) (w : World) (vs : List Value) (l : List AV) : Prop :=
  vs.length = l.length ∧ ∀ (i : Nat) v a, vs[i]? = some v → l[i]? = some a → ARep G toks w v a

def Outs (G : Gh) (toks : List (Option Nat)) (w : World) (v : Value) (r : List AV) : Prop := ∃ vs, v = wrapV vs ∧ Reps2 G toks w vs r

/-- What a call comes to. -/
def Ret (w : World) (lim : Nat → Nat) (O : Nat → Prop) (obs : List Nat) (r : List AV) (outer' : List (List AV)) (v : Value) (w' : World) : Prop :=
  ∃ lim' obs' tb', (∀ (b : Nat) blk, obs[b]? = some blk → obs'[b]? = some blk) ∧ Inv w lim O ⟨lim', obs', [], tb'⟩ (resToks r) outer' [] w' ∧ Outs ⟨lim', obs', [], tb'⟩ (resToks r) w' v r

/-- WHAT THE EVALUATOR SAYS OF A FUNCTION HOLDS OF IT. -/
def SimF (P : Program) (f : FuncId) (args : List AV) (toks : List (Option Nat)) (outer : List (List AV)) (r : List AV) (outer' : List (List AV)) : Prop :=
  ∀ (w : World) (lim : Nat → Nat) (O : Nat → Prop) (obs : List Nat) (tb : List (Option Nat)) (cargs : Array Value), Inv w lim O ⟨lim, obs, [], tb⟩ toks outer [] w → Reps2 ⟨lim, obs, [], tb⟩ toks w cargs.toList args →
    Calls P f cargs w fun e w' => ∃ v, e = .returned v ∧ Ret w lim O obs r outer' v w'

/-- The functions whose meaning is given have it. -/
def PrimOK (P : Program) (prim : FuncId → List AV → List AV → Prop) : Prop :=
  ∀ g as r, prim g as r → SimF P g as (ownToks as) [] r []

section
variable {P : Program} {prim : FuncId → List AV → List AV → Prop} {w0 : World} {lim0 : Nat → Nat} {O : Nat → Prop} {G : Gh} {toks toks0 : List (Option Nat)} {outer heap : List (List AV)} {w : World}

/-! ### arguments -/

/-- Which tokens have gone to the callee. -/
structure Took (G : Gh) (toks0 toks mine tbm : List (Option Nat)) : Prop where
  len : toks.length = toks0.length
  old : ∀ (t : Nat) x, toks[t]? = some x → x = none ∨ toks0[t]? = some x
  mlen : tbm.length = mine.length
  src : ∀ (j b m : Nat), tbm[j]? = some (some b) → mine[j]? = some (some m) → ∃ t : Nat, G.tb[t]? = some (some b) ∧ toks0[t]? = some (some m) ∧ toks[t]? = some none
  dis : ∀ (j j' b m m' : Nat), tbm[j]? = some (some b) → tbm[j']? = some (some b) → mine[j]? = some (some m) → mine[j']? = some (some m') → j = j'

theorem Took.refl (G : Gh) (toks : List (Option Nat)) : Took G toks toks [] [] :=
  ⟨rfl, fun t x h => .inr h, rfl, fun j b m h => by simp at h, fun j j' b m m' h => by simp at h⟩

theorem getElem?_snoc {α : Type} {l : List α} {a x : α} {j : Nat} (h : (l ++ [a])[j]? = some x) : l[j]? = some x ∨ (j = l.length ∧ x = a) := by
  rcases Nat.lt_trichotomy j l.length with h1 | h1 | h1
  · rw [List.getElem?_append_left h1] at h; exact .inl h
  · subst h1; simp at h; exact .inr ⟨rfl, h.symm⟩
  · rw [List.getElem?_append_right (by omega)] at h
    have : j - l.length ≠ 0 := by omega
    obtain ⟨k, hk⟩ := Nat.exists_eq_succ_of_ne_zero this
    rw [hk] at h
    simp at h

theorem Took.snoc {mine tbm : List (Option Nat)} {t m : Nat} (hdis : ∀ (t t' b : Nat) n n', G.tb[t]? = some (some b) → G.tb[t']? = some (some b) → toks0[t]? = some (some n) → toks0[t']? = some (some n') → t = t')
    (k : Took G toks0 toks mine tbm) (ht : toks[t]? = some (some m)) : Took G toks0 (toks.set t none) (mine ++ [some m]) (tbm ++ [(G.tb[t]?).join]) := by
  have h0 : toks0[t]? = some (some m) := by
    rcases k.old t _ ht with h | h
    · simp at h
    · exact h
  have htl : t < toks.length := (List.getElem?_eq_some_iff.1 ht).1
  have hfresh : ∀ (j b m' : Nat), tbm[j]? = some (some b) → mine[j]? = some (some m') → G.tb[t]? = some (some b) → False := by
    intro j b m' h1 h2 h3
    obtain ⟨t', e1, e2, e3⟩ := k.src j b m' h1 h2
    have := hdis t t' b _ _ h3 e1 h0 e2
    subst this
    rw [ht] at e3
    simp at e3
  have hj : ∀ {x : Option (Option Nat)} {b : Nat}, some b = x.join → x = some (some b) := by
    intro x b h
    cases x with
    | none => simp at h
    | some y => simp at h; rw [h]
  refine ⟨by simp [k.len], fun t' x hx => ?_, by simp [k.mlen], fun j b m' h1 h2 => ?_, fun j j' b m1 m2 h1 h2 h3 h4 => ?_⟩
  · by_cases e : t' = t
    · subst e; rw [List.getElem?_set_self htl] at hx; simp at hx; exact .inl hx.symm
    · rw [List.getElem?_set_ne (Ne.symm e)] at hx; exact k.old _ _ hx
  · rcases getElem?_snoc h1 with a1 | ⟨e1, a1⟩
    · have hjl : j < mine.length := by rw [← k.mlen]; exact (List.getElem?_eq_some_iff.1 a1).1
      rw [List.getElem?_append_left hjl] at h2
      obtain ⟨t', e1, e2, e3⟩ := k.src j b m' a1 h2
      refine ⟨t', e1, e2, ?_⟩
      by_cases e : t' = t
      · subst e; rw [List.getElem?_set_self htl]
      · rw [List.getElem?_set_ne (Ne.symm e)]; exact e3
    · subst e1
      rw [k.mlen] at h2
      simp at h2
      subst h2
      exact ⟨t, hj a1, h0, by rw [List.getElem?_set_self htl]⟩
  · have lt : ∀ {j : Nat} {b : Nat}, tbm[j]? = some (some b) → j < mine.length := fun h => by rw [← k.mlen]; exact (List.getElem?_eq_some_iff.1 h).1
    rcases getElem?_snoc h1 with a1 | ⟨e1, a1⟩
    · rw [List.getElem?_append_left (lt a1)] at h3
      rcases getElem?_snoc h2 with a2 | ⟨e2, a2⟩
      · rw [List.getElem?_append_left (lt a2)] at h4
        exact k.dis _ _ _ _ _ a1 a2 h3 h4
      · exact (hfresh j b m1 a1 h3 (hj a2)).elim
    · rcases getElem?_snoc h2 with a2 | ⟨e2, a2⟩
      · rw [List.getElem?_append_left (lt a2)] at h4
        exact (hfresh j' b m2 a2 h4 (hj a1)).elim
      · rw [e1, e2]

theorem Took.adopt {mine tbm : List (Option Nat)} (k : Took G toks0 toks mine tbm) : Took G toks0 toks (mine ++ [some 0]) (tbm ++ [none]) := by
  have lt : ∀ {j b : Nat}, (tbm ++ [none])[j]? = some (some b) → tbm[j]? = some (some b) ∧ j < mine.length := fun {j b} h => by
    rcases getElem?_snoc h with a1 | ⟨_, a1⟩
    · exact ⟨a1, by rw [← k.mlen]; exact (List.getElem?_eq_some_iff.1 a1).1⟩
    · simp at a1
  refine ⟨k.len, k.old, by simp [k.mlen], fun j b m h1 h2 => ?_, fun j j' b m m' h1 h2 h3 h4 => ?_⟩
  · obtain ⟨a1, hj⟩ := lt h1
    rw [List.getElem?_append_left hj] at h2
    exact k.src j b m a1 h2
  · obtain ⟨a1, hj⟩ := lt h1
    obtain ⟨a2, hj'⟩ := lt h2
    rw [List.getElem?_append_left hj] at h3
    rw [List.getElem?_append_left hj'] at h4
    exact k.dis j j' b m m' a1 a2 h3 h4

theorem liftL_rep (n : Nat) : ∀ (l l' : List AV), AV.lift.liftL n l = some l' → l'.length = l.length ∧ ∀ (i : Nat) a b, l[i]? = some a → l'[i]? = some b →
    (∃ c off, a = .ptr c off ∧ b = .optr (n + c) off) ∨ (∃ c off, a = .optr c off ∧ b = .optr c off) ∨ (∃ p, a = .v p ∧ b = .v p)
  | [], l', h => by simp [AV.lift.liftL] at h; subst h; simp
  | a :: l, l', h => by
    unfold AV.lift.liftL at h
    split at h <;> (try (simp at h; done))
    all_goals
      rename_i heq
      cases heq
    all_goals
      obtain ⟨m, hm, rfl⟩ := Option.map_eq_some_iff.1 h
      obtain ⟨h1, h2⟩ := liftL_rep n _ m hm
      refine ⟨by simp [h1], fun i a b ha hb => ?_⟩
      cases i with
      | zero => simp at ha hb; subst ha; subst hb; simp
      | succ i => simp at ha hb; exact h2 i a b ha hb

theorem lift_rep {v : Value} {a b : AV} {T TB : List (Option Nat)} (h : a.lift G.obs.length = some b) (ha : ARep G toks w v a) : ARep ⟨G.lim, G.obs ++ G.bs, [], TB⟩ T w v b := by
  have pt : ∀ {c off blk}, G.bs[c]? = some blk → ARep ⟨G.lim, G.obs ++ G.bs, [], TB⟩ T w (.pointer (some ⟨blk, off, none⟩)) (.optr (G.obs.length + c) off) := fun h => .optr (by simp [List.getElem?_append_right, h])
  have ot : ∀ {c off blk}, G.obs[c]? = some blk → ARep ⟨G.lim, G.obs ++ G.bs, [], TB⟩ T w (.pointer (some ⟨blk, off, none⟩)) (.optr c off) := fun {c off blk} h =>
    .optr (by show (G.obs ++ G.bs)[c]? = _; rw [List.getElem?_append_left (List.getElem?_eq_some_iff.1 h).1]; exact h)
  have inner : ∀ {v a b}, ARep G toks w v a → ((∃ c off, a = .ptr c off ∧ b = .optr (G.obs.length + c) off) ∨ (∃ c off, a = .optr c off ∧ b = .optr c off) ∨ (∃ p, a = .v p ∧ b = .v p)) → ARep ⟨G.lim, G.obs ++ G.bs, [], TB⟩ T w v b := by
    rintro v a b hr (⟨c, off, rfl, rfl⟩ | ⟨c, off, rfl, rfl⟩ | ⟨p, rfl, rfl⟩)
    · cases hr with | ptr h => exact pt h
    · cases hr with | optr h => exact ot h
    · cases hr with | v h => exact .v h
  cases ha with
  | none v => simp [AV.lift] at h; subst h; exact .none v
  | v h' => simp [AV.lift] at h; subst h; exact .v h'
  | agg hs h' => simp [AV.lift] at h; subst h; exact .agg hs h'
  | ptr h' => simp [AV.lift] at h; subst h; exact pt h'
  | optr h' => simp [AV.lift] at h; subst h; exact ot h'
  | fn h1 h2 h3 h4 =>
    simp only [AV.lift] at h
    split at h <;> (try (simp at h; done))
    rename_i l1 l2 e1 e2
    simp only [Option.some.injEq] at h
    subst h
    obtain ⟨n1, q1⟩ := liftL_rep _ _ _ e1
    obtain ⟨n2, q2⟩ := liftL_rep _ _ _ e2
    refine .fn (by rw [h1, n1]) (by rw [h2, n2]) (fun i v b hv hb => ?_) fun i v b hv hb => ?_
    · have hi : i < l1.length := (List.getElem?_eq_some_iff.1 hb).1
      have := List.getElem?_eq_getElem (l := _) (show i < _ from n1 ▸ hi)
      exact inner (h3 i v _ hv this) (q1 i _ _ this hb)
    · have hi : i < l2.length := (List.getElem?_eq_some_iff.1 hb).1
      have := List.getElem?_eq_getElem (l := _) (show i < _ from n2 ▸ hi)
      exact inner (h4 i v _ hv this) (q2 i _ _ this hb)
  | _ => simp [AV.lift] at h

theorem passArgs_rep {n : Option Nat} {obsC : List Nat} (hn : n = none ∨ (n = some G.obs.length ∧ obsC = G.obs ++ G.bs))
    (hdis : ∀ (t t' b : Nat) n n', G.tb[t]? = some (some b) → G.tb[t']? = some (some b) → toks0[t]? = some (some n) → toks0[t']? = some (some n') → t = t') :
    ∀ (as : List AV) (fl : List Bool) (toks mine : List (Option Nat)) (bs : List AV) (toks1 mine1 : List (Option Nat)) (l : List Prop) (vs : List Value) (tbm : List (Option Nat)),
      passArgs n fl as toks mine = some (bs, toks1, mine1, l) → (∀ q ∈ l, q) → Reps2 G toks0 w vs as → Took G toks0 toks mine tbm →
      ∃ tbm1, Took G toks0 toks1 mine1 tbm1 ∧ mine.length ≤ mine1.length ∧ (∀ j, j < mine.length → mine1[j]? = mine[j]? ∧ tbm1[j]? = tbm[j]?) ∧ Reps2 ⟨G.lim, obsC, [], tbm1⟩ mine1 w vs bs := by
  intro as
  induction as with
  | nil =>
    intro fl toks mine bs toks1 mine1 l vs tbm h ho hv hk
    simp [passArgs] at h
    obtain ⟨rfl, rfl, rfl, rfl⟩ := h
    exact ⟨tbm, hk, Nat.le_refl _, fun j hj => ⟨rfl, rfl⟩, hv.1, fun i v a h1 h2 => by simp at h2⟩
  | cons a as ih =>
    intro fl toks mine bs toks1 mine1 l vs tbm h ho hv hk
    obtain ⟨hv1, hv2⟩ := hv
    cases vs with
    | nil => simp at hv1
    | cons v vs =>
      have ha : ARep G toks0 w v a := hv2 0 v a rfl rfl
      have hvs : Reps2 G toks0 w vs as := ⟨by simpa using hv1, fun i x b h1 h2 => hv2 (i + 1) x b (by simpa using h1) (by simpa using h2)⟩
      have go : ∀ {b : AV} {toks' mine' : List (Option Nat)} {l' : List Prop} {tbm' : List (Option Nat)}, (passArgs n fl.tail as toks' mine').map (fun (bs, t, m, q) => (b :: bs, t, m, l' ++ q)) = some (bs, toks1, mine1, l) →
          Took G toks0 toks' mine' tbm' → mine.length ≤ mine'.length → (∀ j, j < mine.length → mine'[j]? = mine[j]? ∧ tbm'[j]? = tbm[j]?) →
          (∀ (mine1 tbm1 : List (Option Nat)), mine'.length ≤ mine1.length → (∀ j, j < mine'.length → mine1[j]? = mine'[j]? ∧ tbm1[j]? = tbm'[j]?) → ARep ⟨G.lim, obsC, [], tbm1⟩ mine1 w v b) →
          ∃ tbm1, Took G toks0 toks1 mine1 tbm1 ∧ mine.length ≤ mine1.length ∧ (∀ j, j < mine.length → mine1[j]? = mine[j]? ∧ tbm1[j]? = tbm[j]?) ∧ Reps2 ⟨G.lim, obsC, [], tbm1⟩ mine1 w (v :: vs) bs := by
        intro b toks' mine' l' tbm' hh hk' hle hpre hrep
        obtain ⟨⟨bs', t', m', q'⟩, hp, he⟩ := Option.map_eq_some_iff.1 hh
        simp only [Prod.mk.injEq] at he
        obtain ⟨rfl, rfl, rfl, rfl⟩ := he
        obtain ⟨tbm1, k1, k2, k3, k4⟩ := ih _ _ _ _ _ _ _ vs _ hp (fun q hq => ho q (List.mem_append_right _ hq)) hvs hk'
        refine ⟨tbm1, k1, Nat.le_trans hle k2, fun j hj => ?_, by simp [k4.1], fun i x c h1 h2 => ?_⟩
        · have := k3 j (Nat.lt_of_lt_of_le hj hle)
          exact ⟨this.1.trans (hpre j hj).1, this.2.trans (hpre j hj).2⟩
        · cases i with
          | zero => simp at h1 h2; subst h1; subst h2; exact hrep _ _ k2 k3
          | succ i => simp at h1 h2; exact k4.2 i x c h1 h2
      have same : ∀ {b : AV} {l' : List Prop}, (passArgs n fl.tail as toks mine).map (fun (bs, t, m, q) => (b :: bs, t, m, l' ++ q)) = some (bs, toks1, mine1, l) →
          (∀ (mine1 tbm1 : List (Option Nat)), ARep ⟨G.lim, obsC, [], tbm1⟩ mine1 w v b) → ∃ tbm1, Took G toks0 toks1 mine1 tbm1 ∧ mine.length ≤ mine1.length ∧ (∀ j, j < mine.length → mine1[j]? = mine[j]? ∧ tbm1[j]? = tbm[j]?) ∧ Reps2 ⟨G.lim, obsC, [], tbm1⟩ mine1 w (v :: vs) bs :=
        fun hh hr => go hh hk (Nat.le_refl _) (fun j hj => ⟨rfl, rfl⟩) fun m1 t1 _ _ => hr m1 t1
      have lifted : ∀ {n' : Nat} {b : AV}, n = some n' → a.lift n' = some b → ∀ (mine1 tbm1 : List (Option Nat)), ARep ⟨G.lim, obsC, [], tbm1⟩ mine1 w v b := by
        intro n' b hn' hb mine1 tbm1
        rcases hn with hn | ⟨hn, rfl⟩
        · rw [hn'] at hn; simp at hn
        · rw [hn'] at hn
          obtain rfl := Option.some.inj hn
          exact lift_rep hb ha
      unfold passArgs at h
      simp only at h
      split at h
      · cases ha with
        | v hp =>
          cases hp with
          | nil =>
            split at h
            · refine go h (hk.adopt) (by simp) (fun j hj => ⟨List.getElem?_append_left hj, List.getElem?_append_left (by rw [hk.mlen]; exact hj)⟩) fun m1 t1 hl hpre => ?_
              have hz := (hpre mine.length (by simp)).1
              rw [List.getElem?_append_right (Nat.le_refl _), Nat.sub_self] at hz
              simp at hz
              exact .own (by simp at hl; omega) (fun n hn => by simp) .nil0 (fun _ hlt => absurd hlt (Nat.lt_irrefl 0))
            · exact same (l' := []) h fun m1 t1 => .v .nil0
      · rename_i p
        cases ha with | v hp => exact same (l' := []) h fun m1 t1 => .v hp.norm
      · rename_i cs
        cases ha with
        | agg hs hr =>
          refine same (l' := []) h fun m1 t1 => .agg (by simpa using hs) fun i u q h1 h2 => ?_
          rw [List.getElem?_map] at h2
          obtain ⟨q', h3, rfl⟩ := Option.map_eq_some_iff.1 h2
          exact (hr i u q' h1 h3).norm
      · cases ha with | vac ht hp hr => exact same (l' := []) h fun m1 t1 => .v hp
      · rename_i t rows
        cases ha with
        | @own _ _ A len cap ht hle hp hroom =>
          split at h
          · split at h <;> (try (simp at h; done))
            rename_i m htm
            have h0 : toks0[t]? = some (some m) := by
              rcases hk.old t _ htm with h | h
              · simp at h
              · exact h
            have hm : m = rows.length := by
              obtain ⟨⟨bs', t', m', q'⟩, hp', he⟩ := Option.map_eq_some_iff.1 h
              simp only [Prod.mk.injEq] at he
              obtain ⟨-, -, -, rfl⟩ := he
              exact ho _ (by simp)
            subst hm
            refine go h (hk.snoc hdis htm) (by simp) (fun j hj => ⟨List.getElem?_append_left hj, List.getElem?_append_left (by rw [hk.mlen]; exact hj)⟩) fun m1 t1 hl hpre => ?_
            have hz := hpre mine.length (by simp)
            rw [List.getElem?_append_right (Nat.le_refl _), Nat.sub_self] at hz
            have hz2 := hz.2
            rw [List.getElem?_append_right (by rw [hk.mlen]; exact Nat.le_refl _), hk.mlen, Nat.sub_self] at hz2
            simp at hz hz2
            refine .own (by simp at hl; omega) (fun n hn => by rw [hz.1] at hn; simp at hn; omega) hp ?_
            intro hn hlt
            obtain ⟨b, off, esz, cells, elem, e1, e2, e3, e4, e5, e6, e7⟩ := hroom h0 hlt
            refine ⟨b, off, esz, cells, elem, e1, ?_, e3, e4, e5, e6, e7⟩
            show t1[mine.length]? = _
            rw [hz2, e2]
            rfl
          · exact same (l' := []) h fun m1 t1 => .v hp
      · rename_i f
        cases ha with
        | fn h1 h2 h3 h4 => exact same (l' := []) h fun m1 t1 => .fn h1 h2 (fun i v a h1 h2 => by simp at h2) fun i v a h1 h2 => by simp at h2
      · split at h <;> (try (simp at h; done))
        rename_i n'
        split at h <;> (try (simp at h; done))
        rename_i b hb
        exact same (l' := []) h (lifted rfl hb)

end
end Go.Ab
