/-
Calls that see all boxes; calls of functions whose meaning is given; all operations together.
-/
import Derived.Test.YtimkgalclegffaaOpK
namespace Go.Ab
open Go

section
variable {P : Program} {prim : FuncId → List AV → List AV → Prop} {w0 : World} {lim0 : Nat → Nat} {O : Nat → Prop} {G : Gh} {toks toks0 : List (Option Nat)} {outer heap : List (List AV)} {w : World}

theorem reps_map {e : Operand → Value} {ρ : Operand → AV} {l : List Operand} (hx : ∀ x ∈ l, ARep G toks w (e x) (ρ x)) : Reps2 G toks w (l.map e) (l.map ρ) :=
  ⟨by simp, fun i v a hv ha => by
    simp only [List.getElem?_map] at hv ha
    obtain ⟨x, hx1, rfl⟩ := Option.map_eq_some_iff.1 hv
    obtain ⟨y, hy1, rfl⟩ := Option.map_eq_some_iff.1 ha
    rw [hx1] at hy1
    obtain rfl := Option.some.inj hy1
    exact hx x (List.mem_of_getElem? hx1)⟩

theorem Reps2.append {vs vs' : List Value} {l l' : List AV} (h : Reps2 G toks w vs l) (h' : Reps2 G toks w vs' l') : Reps2 G toks w (vs ++ vs') (l ++ l') := by
  refine ⟨by simp [h.1, h'.1], fun i v a hv ha => ?_⟩
  rcases Nat.lt_or_ge i vs.length with hi | hi
  · rw [List.getElem?_append_left hi] at hv
    rw [List.getElem?_append_left (by rw [← h.1]; exact hi)] at ha
    exact h.2 i v a hv ha
  · rw [List.getElem?_append_right hi] at hv
    rw [List.getElem?_append_right (by rw [← h.1]; exact hi), ← h.1] at ha
    exact h'.2 _ v a hv ha

theorem passArgs_mine {n : Option Nat} : ∀ (as : List AV) (toks mine : List (Option Nat)) (bs : List AV) (toks1 mine1 : List (Option Nat)) (l : List Prop), passArgs n [] as toks mine = some (bs, toks1, mine1, l) → toks1 = toks ∧ mine1 = mine
  | [], toks, mine, bs, toks1, mine1, l, h => by simp [passArgs] at h; exact ⟨h.2.1.symm, h.2.2.1.symm⟩
  | a :: as, toks, mine, bs, toks1, mine1, l, h => by
    have key : ∀ {b : AV} {l' : List Prop}, (passArgs n [] as toks mine).map (fun (bs, t, m, q) => (b :: bs, t, m, l' ++ q)) = some (bs, toks1, mine1, l) → toks1 = toks ∧ mine1 = mine := by
      intro b l' hh
      obtain ⟨⟨bs', t', m', q'⟩, hp, he⟩ := Option.map_eq_some_iff.1 hh
      simp only [Prod.mk.injEq] at he
      obtain ⟨-, rfl, rfl, -⟩ := he
      exact passArgs_mine as _ _ _ _ _ _ hp
    unfold passArgs at h
    simp only [List.tail_nil, List.headD_nil] at h
    split at h
    · exact key (l' := []) h
    · exact key (l' := []) h
    · exact key (l' := []) h
    · exact key (l' := []) h
    · exact key (l' := []) h
    · exact key (l' := []) h
    · split at h <;> (try (simp at h; done))
      split at h <;> (try (simp at h; done))
      exact key (l' := []) h

/-! ### boxes, as the callee sees them -/

/-- A value that names the callers' boxes alone. -/
inductive Low (n : Nat) : AV → Prop
  | none : Low n .none
  | v (p : PV) : Low n (.v p)
  | agg (cs : List PV) : Low n (.agg cs)
  | eptr (cs : List PV) : Low n (.eptr cs)
  | own (t : Nat) (rows : List (List PV)) : Low n (.own t rows)
  | ptr (b off : Nat) : Low n (.ptr b off)
  | bsl (b m len : Nat) : Low n (.bsl b m len)
  | vac (t e : Nat) : Low n (.vac t e)
  | optr {b : Nat} (off : Nat) (h : b < n) : Low n (.optr b off)
  | fn (f : Fn) {first cap : List AV} (h1 : ∀ a ∈ first, Low n a) (h2 : ∀ a ∈ cap, Low n a) : Low n (.fn f first cap)
  | tup {l : List AV} (h : ∀ a ∈ l, Low n a) : Low n (.tup l)
  | opt {c : Bool} {a : AV} (h : c = true → Low n a) : Low n (.opt c a)

theorem ARep.lowIt {lim : Nat → Nat} {obs bs : List Nat} {tb T : List (Option Nat)} {v : Value} {a : AV} (h : ARep ⟨lim, obs, bs, tb⟩ T w v a) : Low obs.length a := by
  generalize hG : (⟨lim, obs, bs, tb⟩ : Gh) = G' at h
  have pick : ∀ {X : Array Value} {l : List AV}, X.size = l.length → (∀ (i : Nat) v a, X[i]? = some v → l[i]? = some a → Low obs.length a) → ∀ a ∈ l, Low obs.length a := by
    intro X l hs hh a ha
    obtain ⟨i, hi⟩ := List.mem_iff_getElem?.1 ha
    have hlt : i < X.size := by rw [hs]; exact (List.getElem?_eq_some_iff.1 hi).1
    exact hh i _ a (Array.getElem?_eq_getElem hlt) hi
  induction h with
  | none v => exact .none
  | v h => exact .v _
  | agg hs h => exact .agg _
  | own ht hle h hr => exact .own _ _
  | ptr h => exact .ptr _ _
  | bsl h hc => exact .bsl _ _ _
  | vac ht h hr => exact .vac _ _
  | optr h => subst hG; exact .optr _ (List.getElem?_eq_some_iff.1 h).1
  | eptr u hc hp => exact .eptr _
  | fn h1 h2 h3 h4 ih3 ih4 => exact .fn _ (pick h1 ih3) (pick h2 ih4)
  | tup h1 h2 ih => exact .tup (pick h1 ih)
  | opt h hu ih => exact .opt ih

theorem low_of {n : Nat} {a : AV} (h : ∀ p ∈ a.low n, p) : Low n a := by
  have inner : ∀ {l : List AV}, (∀ p ∈ l.flatMap (AV.low1 n), p) → ∀ a ∈ l, Low n a := by
    intro l hl a ha
    have hq := fun p hp => hl p (List.mem_flatMap.2 ⟨a, ha, hp⟩)
    cases a with
    | none => exact .none
    | v p => exact .v p
    | agg cs => exact .agg cs
    | own t rows => exact .own t rows
    | ptr b off => exact .ptr b off
    | bsl b m len => exact .bsl b m len
    | vac t e => exact .vac t e
    | optr b off => exact .optr off (hq (b < n) (by simp [AV.low1]))
    | eptr cs => exact .eptr cs
    | fn f first cap => exact (hq False (by simp [AV.low1])).elim
    | tup l => exact (hq False (by simp [AV.low1])).elim
    | opt c a => exact (hq False (by simp [AV.low1])).elim
  cases a with
  | none => exact .none
  | v p => exact .v p
  | agg cs => exact .agg cs
  | own t rows => exact .own t rows
  | ptr b off => exact .ptr b off
  | bsl b m len => exact .bsl b m len
  | vac t e => exact .vac t e
  | optr b off => exact .optr off (h (b < n) (by simp [AV.low]))
  | eptr cs => exact .eptr cs
  | fn f first cap =>
    have := inner (l := first ++ cap) (by simpa only [AV.low] using h)
    exact .fn f (fun a ha => this a (List.mem_append_left _ ha)) fun a ha => this a (List.mem_append_right _ ha)
  | tup l => exact (h False (by simp [AV.low])).elim
  | opt c a => exact (h False (by simp [AV.low])).elim

theorem ARep.lower' {lim : Nat → Nat} {obs bs : List Nat} {w' : World} {v : Value} {a : AV} {G' : Gh} {T : List (Option Nat)} (h : ARep G' T w' v a) : G' = ⟨lim, obs ++ bs, [], []⟩ → T = [] → Low obs.length a → ARep ⟨lim, obs, [], []⟩ [] w' v a := by
  induction h with
  | none v => exact fun _ _ _ => .none v
  | v h => intro hG hT hl; subst hG; exact .v h
  | agg hs h => intro hG hT hl; subst hG; exact .agg hs h
  | own ht hle h hr => intro hG hT hl; subst hT; simp at ht
  | ptr h => intro hG hT hl; subst hG; simp at h
  | bsl h hc => intro hG hT hl; subst hG; simp at h
  | vac ht h hr => intro hG hT hl; subst hT; simp at ht
  | optr h =>
    intro hG hT hl
    subst hG
    cases hl with
    | optr off hlt => exact .optr (by rwa [List.getElem?_append_left hlt] at h)
  | eptr u hc hp => intro hG hT hl; subst hG; exact .eptr u hc hp
  | fn h1 h2 h3 h4 ih3 ih4 =>
    intro hG hT hl
    cases hl with
    | fn f l1 l2 => exact .fn h1 h2 (fun i v a hv ha => ih3 i v a hv ha hG hT (l1 a (List.mem_of_getElem? ha))) fun i v a hv ha => ih4 i v a hv ha hG hT (l2 a (List.mem_of_getElem? ha))
  | tup h1 h2 ih =>
    intro hG hT hl
    cases hl with
    | tup l => exact .tup h1 fun i v a hv ha => ih i v a hv ha hG hT (l a (List.mem_of_getElem? ha))
  | opt h hu ih =>
    intro hG hT hl
    cases hl with
    | opt l => exact .opt (fun hc => ih hc hG hT (l hc)) hu

/-- The callee's values that name the caller's callers' boxes alone. -/
theorem ARep.lower {lim : Nat → Nat} {obs bs : List Nat} {w' : World} {v : Value} {a : AV} (h : ARep ⟨lim, obs ++ bs, [], []⟩ [] w' v a) (hl : Low obs.length a) : ARep ⟨lim, obs, [], []⟩ [] w' v a := h.lower' rfl rfl hl

/-- What the callee has left in a box of ours. -/
theorem unlift {lim : Nat → Nat} {obs bs : List Nat} {tb T : List (Option Nat)} {w' : World} {v : Value} {a b : AV} (hb : a.lift obs.length = some b) (h : ARep ⟨lim, obs ++ bs, [], []⟩ [] w' v b) (hl : Low obs.length a) :
    ARep ⟨lim, obs, bs, tb⟩ T w' v a := by
  have pt : ∀ {c off v}, ARep ⟨lim, obs ++ bs, [], []⟩ [] w' v (.optr (obs.length + c) off) → ARep ⟨lim, obs, bs, tb⟩ T w' v (.ptr c off) := by
    intro c off v h
    cases h with
    | optr h =>
      refine .ptr ?_
      have h : (obs ++ bs)[obs.length + c]? = _ := h
      rwa [List.getElem?_append_right (Nat.le_add_right _ _), Nat.add_sub_cancel_left] at h
  have ot : ∀ {c off v}, c < obs.length → ARep ⟨lim, obs ++ bs, [], []⟩ [] w' v (.optr c off) → ARep ⟨lim, obs, bs, tb⟩ T w' v (.optr c off) := by
    intro c off v hc h
    cases h with
    | optr h =>
      refine .optr ?_
      have h : (obs ++ bs)[c]? = _ := h
      rwa [List.getElem?_append_left hc] at h
  have inner : ∀ {v a b}, ((∃ c off, a = .ptr c off ∧ b = .optr (obs.length + c) off) ∨ (∃ c off, a = .optr c off ∧ b = .optr c off) ∨ (∃ p, a = .v p ∧ b = .v p)) → Low obs.length a → ARep ⟨lim, obs ++ bs, [], []⟩ [] w' v b → ARep ⟨lim, obs, bs, tb⟩ T w' v a := by
    rintro v a b (⟨c, off, rfl, rfl⟩ | ⟨c, off, rfl, rfl⟩ | ⟨p, rfl, rfl⟩) hl h
    · exact pt h
    · cases hl with | optr _ hc => exact ot hc h
    · cases h with | v h => exact .v h
  cases a with
  | none => exact .none v
  | v p => simp [AV.lift] at hb; subst hb; cases h with | v h => exact .v h
  | agg cs => simp [AV.lift] at hb; subst hb; cases h with | agg hs h => exact .agg hs h
  | ptr c off => simp [AV.lift] at hb; subst hb; exact pt h
  | optr c off => simp [AV.lift] at hb; subst hb; cases hl with | optr _ hc => exact ot hc h
  | fn f first cap =>
    simp only [AV.lift] at hb
    split at hb <;> (try (simp at hb; done))
    rename_i l1 l2 e1 e2
    simp only [Option.some.injEq] at hb
    subst hb
    obtain ⟨n1, q1⟩ := liftL_rep _ _ _ e1
    obtain ⟨n2, q2⟩ := liftL_rep _ _ _ e2
    cases hl with
    | fn _ l1' l2' =>
      cases h with
      | fn h1 h2 h3 h4 =>
        refine .fn (by rw [h1, n1]) (by rw [h2, n2]) (fun i v a hv ha => ?_) fun i v a hv ha => ?_
        · have hi : i < first.length := (List.getElem?_eq_some_iff.1 ha).1
          have hb := List.getElem?_eq_getElem (l := l1) (show i < _ from n1.symm ▸ hi)
          exact inner (q1 i a _ ha hb) (l1' a (List.mem_of_getElem? ha)) (h3 i v _ hv hb)
        · have hi : i < cap.length := (List.getElem?_eq_some_iff.1 ha).1
          have hb := List.getElem?_eq_getElem (l := l2) (show i < _ from n2.symm ▸ hi)
          exact inner (q2 i a _ ha hb) (l2' a (List.mem_of_getElem? ha)) (h4 i v _ hv hb)
  | _ => simp [AV.lift] at hb

theorem liftBox_spec {n : Nat} : ∀ (l l' : List AV), liftBox n l = some l' → l'.length = l.length ∧ ∀ (i : Nat) a b, l[i]? = some a → l'[i]? = some b → a.lift n = some b
  | [], l', h => by simp [liftBox] at h; subst h; simp
  | a :: l, l', h => by
    unfold liftBox at h
    split at h <;> (try (simp at h; done))
    rename_i b m h1 h2
    simp at h
    subst h
    obtain ⟨e1, e2⟩ := liftBox_spec l m h2
    refine ⟨by simp [e1], fun i x y hx hy => ?_⟩
    cases i with
    | zero => simp at hx hy; subst hx; subst hy; exact h1
    | succ i => simp at hx hy; exact e2 i x y hx hy

theorem liftAll_spec {n : Nat} : ∀ (l l' : List (List AV)), liftAll n l = some l' → l'.length = l.length ∧ ∀ (i : Nat) a b, l[i]? = some a → l'[i]? = some b → liftBox n a = some b
  | [], l', h => by simp [liftAll] at h; subst h; simp
  | a :: l, l', h => by
    unfold liftAll at h
    split at h <;> (try (simp at h; done))
    rename_i b m h1 h2
    simp at h
    subst h
    obtain ⟨e1, e2⟩ := liftAll_spec l m h2
    refine ⟨by simp [e1], fun i x y hx hy => ?_⟩
    cases i with
    | zero => simp at hx hy; subst hx; subst hy; exact h1
    | succ i => simp at hx hy; exact e2 i x y hx hy

theorem BoxOK.lifted {lim : Nat → Nat} {blk : Nat} {cs cs' : List AV} (h : BoxOK G toks w lim blk cs) (hl : liftBox G.obs.length cs = some cs') : BoxOK ⟨G.lim, G.obs ++ G.bs, [], []⟩ [] w lim blk cs' := by
  obtain ⟨cells, elem, h1, h2, h3, h4⟩ := h
  obtain ⟨e1, e2⟩ := liftBox_spec _ _ hl
  refine ⟨cells, elem, h1, by rw [e1, h2], fun j v a hv ha => ?_, h4⟩
  have hj : j < cs.length := by rw [← e1]; exact (List.getElem?_eq_some_iff.1 ha).1
  have hc := List.getElem?_eq_getElem hj
  obtain ⟨q1, q2⟩ := h3 j v _ hv hc
  exact ⟨q1, lift_rep (e2 j _ a hc ha) q2⟩

/-- The state in which a callee begins that sees all boxes. -/
theorem Inv.beginH (hi : Inv w0 lim0 O G toks outer heap w) {hp : List (List AV)} (hl : liftAll outer.length heap = some hp) :
    Inv w G.lim (fun b => b ∈ G.obs ++ G.bs) ⟨G.lim, G.obs ++ G.bs, [], []⟩ [] (outer ++ hp) [] w := by
  obtain ⟨e1, e2⟩ := liftAll_spec _ _ hl
  rw [← hi.ho] at e2
  refine ⟨Frame0.refl _ _ _ hi.frame.above, rfl, by simp [hi.ho, hi.hb, e1], fun i blk cs h => by simp at h, fun i blk cs h1 h2 => ?_, by simpa using hi.nodup, fun blk h => by simp at h, fun blk h => h, rfl, fun t b n h => by simp at h, fun t t' b n n' h => by simp at h⟩
  have h1 : (G.obs ++ G.bs)[i]? = some blk := h1
  show BoxOK ⟨G.lim, G.obs ++ G.bs, [], []⟩ [] w G.lim blk cs
  rcases Nat.lt_or_ge i outer.length with hlt | hge
  · rw [List.getElem?_append_left (by rw [hi.ho]; exact hlt)] at h1
    rw [List.getElem?_append_left hlt] at h2
    exact (hi.obox i blk cs h1 h2).keepB ⟨Grow.refl _ _, fun b bl hb => by
      have hb : G.obs[b]? = some bl := hb
      show (G.obs ++ G.bs)[b]? = some bl
      rw [List.getElem?_append_left (List.getElem?_eq_some_iff.1 hb).1]; exact hb, fun b bl hb => by simp [Gh.low] at hb, Nat.le_refl _, fun t n h _ => by simp at h⟩
  · rw [List.getElem?_append_right (by rw [hi.ho]; exact hge), hi.ho] at h1
    rw [List.getElem?_append_right hge] at h2
    have hj : i - outer.length < heap.length := by rw [← e1]; exact (List.getElem?_eq_some_iff.1 h2).1
    have hc := List.getElem?_eq_getElem hj
    exact (hi.box _ blk _ h1 hc).lifted (e2 _ _ _ hc h2)

/-- The caller's state behind a call that sees all boxes. -/
theorem Inv.calledH (hi : Inv w0 lim0 O G toks outer heap w) {T tb' : List (Option Nat)} {obs' : List Nat} {lim' : Nat → Nat} {w' : World} {outer' heap' hp' : List (List AV)}
    (hl : liftAll outer.length heap' = some hp') (ho1 : outer'.length = outer.length) (ho2 : heap'.length = heap.length) (hlow : LowS outer outer') (hlh : ∀ p ∈ lows outer.length heap', p)
    (hpre : ∀ (b : Nat) blk, (G.obs ++ G.bs)[b]? = some blk → obs'[b]? = some blk) (hc : Inv w G.lim (fun b => b ∈ G.obs ++ G.bs) ⟨lim', obs', [], tb'⟩ T (outer' ++ hp') [] w') :
    Inv w0 lim0 O ⟨lim', G.obs, G.bs, G.tb⟩ toks outer' heap' w' ∧ Keep G toks w ⟨lim', G.obs, G.bs, G.tb⟩ toks w' := by
  obtain ⟨e1, e2⟩ := liftAll_spec _ _ hl
  rw [← hi.ho] at e2
  have hobs : obs' = G.obs ++ G.bs := by
    have h1 : obs'.length = (outer' ++ hp').length := hc.ho
    simp only [List.length_append] at h1
    apply List.ext_getElem?
    intro j
    rcases Nat.lt_or_ge j (G.obs ++ G.bs).length with hj | hj
    · have h2 := List.getElem?_eq_getElem hj
      rw [hpre j _ h2, h2]
    · rw [List.getElem?_eq_none hj, List.getElem?_eq_none]
      rw [List.length_append, hi.ho, hi.hb] at hj
      omega
  subst hobs
  have hobox : ∀ (i : Nat) blk cs, (G.obs ++ G.bs)[i]? = some blk → (outer' ++ hp')[i]? = some cs → BoxOK ⟨lim', G.obs ++ G.bs, [], []⟩ [] w' lim' blk cs := hc.obox
  have hk : Keep G toks w ⟨lim', G.obs, G.bs, G.tb⟩ toks w' := by
    refine ⟨hc.frame.grow, fun _ _ h => h, fun _ _ h => h, Nat.le_refl _, fun t n h ht => ⟨n, h, .inr ⟨rfl, fun b hb => ?_⟩⟩⟩
    obtain ⟨a1, a2, a3⟩ := hi.tok t b n hb h
    obtain ⟨q1, q2⟩ := hc.frame.blk b a2 a1
    exact ⟨hb, q2, q1⟩
  refine ⟨⟨⟨Nat.le_trans hi.frame.size hc.frame.size, hc.frame.os.trans hi.frame.os, hc.frame.tape.trans hi.frame.tape, hc.frame.output.trans hi.frame.output, fun b hb hO => ?_, hi.frame.grow.trans hc.frame.grow, hc.frame.above⟩,
    by rw [ho2]; exact hi.hb, by rw [ho1]; exact hi.ho, fun i blk cs h1 h2 => ?_, fun i blk cs h1 h2 => ?_, hi.nodup, hi.bnew, hi.oold, hi.tlen, fun t b n h1 h2 => ?_, hi.tdis⟩, hk⟩
  · have hb' : b < w.heap.size := Nat.lt_of_lt_of_le hb hi.frame.size
    obtain ⟨q1, q2⟩ := hc.frame.blk b hb' fun hmem => by
      rcases List.mem_append.1 hmem with h | h
      · exact hO (hi.oold b h)
      · have := hi.bnew b h; omega
    obtain ⟨q3, q4⟩ := hi.frame.blk b hb hO
    exact ⟨q1.trans q3, q2.trans q4⟩
  · have h1 : G.bs[i]? = some blk := h1
    have hj : i < hp'.length := by rw [e1]; exact (List.getElem?_eq_some_iff.1 h2).1
    have hc' := List.getElem?_eq_getElem hj
    obtain ⟨cells, elem, q1, q2, q3, q4⟩ := hobox (G.obs.length + i) blk hp'[i] (by rw [List.getElem?_append_right (Nat.le_add_right _ _), Nat.add_sub_cancel_left]; exact h1)
      (by rw [List.getElem?_append_right (by rw [ho1, hi.ho]; omega), ho1, hi.ho, Nat.add_sub_cancel_left]; exact hc')
    obtain ⟨f1, f2⟩ := liftBox_spec _ _ (e2 i cs _ h2 hc')
    refine ⟨cells, elem, q1, by rw [q2, f1], fun j v a hv ha => ?_, q4⟩
    have hjj : j < hp'[i].length := by rw [f1]; exact (List.getElem?_eq_some_iff.1 ha).1
    have hb := List.getElem?_eq_getElem hjj
    obtain ⟨z1, z2⟩ := q3 j v _ hv hb
    refine ⟨z1, unlift (f2 j a _ ha hb) z2 (low_of fun p hp => hlh p ?_)⟩
    rw [← hi.ho]
    exact List.mem_flatMap.2 ⟨cs, List.mem_of_getElem? h2, List.mem_flatMap.2 ⟨a, List.mem_of_getElem? ha, hp⟩⟩
  · have h1 : G.obs[i]? = some blk := h1
    have hlt : i < outer'.length := (List.getElem?_eq_some_iff.1 h2).1
    obtain ⟨cells, elem, q1, q2, q3, q4⟩ := hobox i blk cs (by rw [List.getElem?_append_left (List.getElem?_eq_some_iff.1 h1).1]; exact h1) (by rw [List.getElem?_append_left hlt]; exact h2)
    refine ⟨cells, elem, q1, q2, fun j v a hv ha => ?_, q4⟩
    obtain ⟨z1, z2⟩ := q3 j v a hv ha
    refine ⟨z1, z2.lower ?_⟩
    rcases hlow cs (List.mem_of_getElem? h2) with hm | hm
    · obtain ⟨i', hi'⟩ := List.mem_iff_getElem?.1 hm
      have hlt' : i' < G.obs.length := by rw [hi.ho]; exact (List.getElem?_eq_some_iff.1 hi').1
      obtain ⟨cells0, elem0, p1, p2, p3, p4⟩ := hi.obox i' _ cs (List.getElem?_eq_getElem hlt') hi'
      have hjj : j < cells0.size := by rw [p2]; exact (List.getElem?_eq_some_iff.1 ha).1
      exact (p3 j _ a (Array.getElem?_eq_getElem hjj) ha).2.lowIt
    · rw [hi.ho]
      exact low_of (hm a (List.mem_of_getElem? ha))
  · obtain ⟨a1, a2, a3⟩ := hi.tok t b n h1 h2
    exact ⟨a1, Nat.lt_of_lt_of_le a2 hc.frame.size, a3⟩

theorem sem_callH {e : Operand → Value} {ρ : Operand → AV} {o : Oper} {f : Operand} {args : Array Operand} {ats : Array TypeId} {g : FuncId} {first cap r as rs : List AV} {toks1 mine new : List (Option Nat)} {l : List Prop} {outer' heap' hp hp' : List (List AV)}
    (hi : Inv w0 lim0 O G toks outer heap w) (hop : o.op = .call { callee := .value f, args := args, argTypes := ats }) (hf : ARep G toks w (e f) (.fn (.func g) first cap)) (hx : ∀ x ∈ args.toList, ARep G toks w (e x) (ρ x))
    (hb : hasBody P g = true) (hp1 : passArgs (some outer.length) [] (first ++ args.toList.map ρ ++ cap) toks [] = some (as, toks1, mine, l)) (hl : ∀ q ∈ l, q) (ht : takeRes false 0 r 0 = some (rs, new))
    (hl1 : liftAll outer.length heap = some hp) (hl2 : liftAll outer.length heap' = some hp') (ho1 : outer'.length = outer.length) (ho2 : heap'.length = heap.length) (hlow : LowS outer outer') (hlh : ∀ p ∈ lows outer.length heap', p)
    (hs : SimF P g as [] (outer ++ hp) r (outer' ++ hp')) {ob : List Prop} {cs : List CallO} : Does P (execOp e o) w (Good w0 lim0 O G toks w { v := wrapRes rs, toks, outer := outer', heap := heap', obls := ob, calls := cs }) := by
  generalize hV : e f = V at hf
  cases hf with
  | @fn _ fi ca _ _ h1 h2 h3 h4 =>
    have hargs : Reps2 G toks w (fi.toList ++ args.toList.map e ++ ca.toList) (first ++ args.toList.map ρ ++ cap) :=
      (Reps2.append ⟨by simpa using h1, fun i v a hv ha => h3 i v a (by simpa using hv) ha⟩ (reps_map hx)).append ⟨by simpa using h2, fun i v a hv ha => h4 i v a (by simpa using hv) ha⟩
    obtain ⟨tbm, k, -, -, hreps⟩ := passArgs_rep (obsC := G.obs ++ G.bs) (.inr ⟨by rw [hi.ho], rfl⟩) hi.tdis _ _ _ _ _ _ _ _ _ [] hp1 hl hargs (Took.refl G toks)
    obtain ⟨-, rfl⟩ := passArgs_mine _ _ _ _ _ _ _ hp1
    have htbm : tbm = [] := by have := k.mlen; simpa using this
    subst htbm
    have hrun : (execOp e o).run P w = .ok (.enter g (fi ++ args.map e ++ ca)) w := by
      unfold hasBody at hb
      split at hb <;> (try (simp at hb; done))
      rename_i fn hfn
      simp only [Bool.and_eq_true, Bool.not_eq_true'] at hb
      have hn : ¬ fn.name = "runtime.NumGoroutine" := by simpa using hb.2
      simp [execOp, hop, resolve, hV, Deferred.ofValue, invoke, callFunc, hfn, hn, Option.isNone_iff_eq_none, Option.isSome_iff_ne_none.1 hb.1]
    refine .of_enter hrun (Calls.mono (hs w G.lim _ (G.obs ++ G.bs) [] (fi ++ args.map e ++ ca) (hi.beginH hl1) (by simpa using hreps)) fun en w' ⟨v, hv, lim', obs', tb', hpre, hI, vs, hw, hR⟩ => ⟨v, hv, ?_⟩)
    subst hw
    obtain ⟨t1, t2, t3⟩ := takeRes_spec r 0 rs new ht
    obtain ⟨i1, k1⟩ := hi.calledH hl2 ho1 ho2 hlow hlh hpre hI
    refine ⟨_, wrap_rep ⟨hR.1.trans t1.symm, fun i x b hx hb => ?_⟩, i1, k1⟩
    have hlt : i < r.length := by rw [← t1]; exact (List.getElem?_eq_some_iff.1 hb).1
    have hra := List.getElem?_eq_getElem hlt
    have hA := hR.2 i x _ hx hra
    rcases t3 i _ b hra hb with ⟨hp, rfl⟩ | ⟨hp, rfl⟩ | ⟨j, rows, hj, ⟨hf, -⟩ | ⟨-, rfl⟩⟩ | ⟨j, e, hj, ⟨hf, -⟩ | ⟨-, rfl⟩⟩
    · exact hA.pure (.inl hp)
    · exact hA.pure (.inr hp)
    · simp at hf
    · rw [hj] at hA
      exact hA.sl
    · simp at hf
    · rw [hj] at hA
      cases hA with | vac ht h hr => exact .v h

end
end Go.Ab
