/-
Appending to a slice of one's own.
-/
import Derived.Test.YtimkgalclegffaaOpF
import Derived.Deep.AppendSrc
import Derived.Laws.AppendOwn
namespace Go.Ab
open Go

section
variable {P : Program} {w0 : World} {lim0 : Nat → Nat} {O : Nat → Prop} {G : Gh} {toks : List (Option Nat)} {outer heap : List (List AV)} {w : World}

/-- The cells of a slice, as a flat list. -/
theorem PRep.flat {lim : Nat → Nat} {A : Option Addr} {len cap n : Nat} {rows : List (List PV)} (h : PRep lim w (.slice A len cap) (.sl rows)) (hn : ∀ r ∈ rows, r.length = n) :
    rows.length = len ∧ len ≤ cap ∧ ∃ news : List Value, news.length = len * n ∧ (∀ u ∈ news, u.oneCell' = true) ∧ (∀ i j p, at2 rows i j = some p → ∃ v, news[i * n + j]? = some v ∧ PRep lim w v p) ∧
      ((len = 0 ∧ cap = 0) ∨ ∃ b off, A = some ⟨b, off, none⟩ ∧ ∀ (j : Nat) u, news[j]? = some u → w.cell? ⟨b, off + j, none⟩ = some u ∧ off + j < lim b) := by
  cases h with
  | nil0 => exact ⟨rfl, Nat.le_refl _, [], by simp, by simp, fun i j p hq => by simp [at2] at hq, .inl ⟨rfl, rfl⟩⟩
  | sl0 a => exact ⟨rfl, Nat.le_refl _, [], by simp, by simp, fun i j p hq => by simp [at2] at hq, .inl ⟨rfl, rfl⟩⟩
  | sl b off len cap esz rows u hl hc hr hcell hp =>
    have key : ∀ j, j < len * n → ∃ p, at2 rows (j / n) (j % n) = some p := by
      intro j hj
      have hn0 : 0 < n := by
        rcases Nat.eq_zero_or_pos n with h | h
        · subst h; simp at hj
        · exact h
      have h1 : j / n < rows.length := by rw [hl]; exact Nat.div_lt_of_lt_mul (by rwa [Nat.mul_comm] at hj)
      have h2 : j % n < (rows[j / n]).length := by rw [hn _ (List.getElem_mem h1)]; exact Nat.mod_lt _ hn0
      exact ⟨_, by simp only [at2, List.getElem?_eq_getElem h1, Option.bind_some]; exact List.getElem?_eq_getElem h2⟩
    have hesz : ∀ i j p, at2 rows i j = some p → esz = n ∧ j < n ∧ i < len := by
      intro i j p hq
      obtain ⟨r, hr', hj⟩ := Option.bind_eq_some_iff.1 hq
      have hm := List.mem_of_getElem? hr'
      have e1 := hr r hm
      have e2 := hn r hm
      have := (List.getElem?_eq_some_iff.1 hj).1
      have := (List.getElem?_eq_some_iff.1 hr').1
      exact ⟨by omega, by omega, by omega⟩
    refine ⟨hl, hc, (List.range (len * n)).map (fun j => u (j / n) (j % n)), by simp, fun v hv => ?_, fun i j p hq => ?_, .inr ⟨b, off, rfl, fun j v hv => ?_⟩⟩
    · obtain ⟨j, hj, rfl⟩ := List.mem_map.1 hv
      obtain ⟨p, hq⟩ := key j (List.mem_range.1 hj)
      exact (hp _ _ _ hq).oneCell
    · obtain ⟨e1, e2, e3⟩ := hesz i j p hq
      have hlt : i * n + j < len * n := by
        have : (i + 1) * n ≤ len * n := Nat.mul_le_mul_right _ e3
        rw [Nat.add_mul, Nat.one_mul] at this
        omega
      refine ⟨u i j, ?_, hp i j p hq⟩
      rw [List.getElem?_map, List.getElem?_range hlt]
      simp only [Option.map_some]
      have d1 : (i * n + j) / n = i := by
        rw [Nat.mul_comm, Nat.mul_add_div (by omega), Nat.div_eq_of_lt e2]; omega
      have d2 : (i * n + j) % n = j := by rw [Nat.mul_comm, Nat.mul_add_mod, Nat.mod_eq_of_lt e2]
      rw [d1, d2]
    · rw [List.getElem?_map] at hv
      obtain ⟨j', hj', rfl⟩ := Option.map_eq_some_iff.1 hv
      have hjl := (List.getElem?_eq_some_iff.1 hj').1
      simp at hjl
      rw [List.getElem?_range hjl] at hj'
      obtain rfl := Option.some.inj hj'
      obtain ⟨p, hq⟩ := key j hjl
      obtain ⟨e1, e2, e3⟩ := hesz _ _ _ hq
      have := hcell _ _ _ hq
      rw [e1, Nat.add_assoc, Nat.div_add_mod' j n] at this
      exact this

theorem at2_append {a b : List (List PV)} {i j : Nat} {p : PV} (h : at2 (a ++ b) i j = some p) : (i < a.length ∧ at2 a i j = some p) ∨ (a.length ≤ i ∧ at2 b (i - a.length) j = some p) := by
  unfold at2 at *
  rcases Nat.lt_or_ge i a.length with h1 | h1
  · rw [List.getElem?_append_left h1] at h; exact .inl ⟨h1, h⟩
  · rw [List.getElem?_append_right h1] at h; exact .inr ⟨h1, h⟩

theorem at2_lt {rows : List (List PV)} {n i j : Nat} {p : PV} (hn : ∀ r ∈ rows, r.length = n) (h : at2 rows i j = some p) : i < rows.length ∧ j < n := by
  obtain ⟨r, hr, hj⟩ := Option.bind_eq_some_iff.1 h
  have := (List.getElem?_eq_some_iff.1 hj).1
  rw [hn r (List.mem_of_getElem? hr)] at this
  exact ⟨(List.getElem?_eq_some_iff.1 hr).1, this⟩

theorem src_of {x : Value} {ys : List (List PV)} {A : Option Addr} {m c n : Nat} {tx e' : TypeId} (hk : P.underlying tx = some (.slice e')) (hx : x = .slice A m c) {news : List Value} (h1 : news.length = m * n) (h2 : ∀ u ∈ news, u.oneCell' = true)
    (h3 : (m = 0 ∧ c = 0) ∨ ∃ b off, A = some ⟨b, off, none⟩ ∧ ∀ (j : Nat) u, news[j]? = some u → w.cell? ⟨b, off + j, none⟩ = some u) : Src P n tx x m news w := by
  subst hx
  rcases h3 with ⟨rfl, rfl⟩ | ⟨b, off, rfl, h⟩
  · have : news = [] := by simpa using h1
    subst this
    cases A with
    | none => exact Src.ofNil w hk 0
    | some a => exact Src.ofSlice w hk _ _ _ [] (by simp) (fun j u hj => by simp at hj) (by simp)
  · exact Src.ofSlice w hk _ _ _ news h1 (fun j u hj => by rw [add_off]; exact h j u hj) h2

theorem slice_of {lim : Nat → Nat} {x : Value} {ys : List (List PV)} (h : PRep lim w x (.sl ys)) : ∃ A m c, x = .slice A m c := by
  cases h with
  | nil0 => exact ⟨_, _, _, rfl⟩
  | sl0 a => exact ⟨_, _, _, rfl⟩
  | sl => exact ⟨_, _, _, rfl⟩

/-- The row that an append makes. -/
theorem grown_rep {lim : Nat → Nat} {rows ys : List (List PV)} {n : Nat} {olds news : List Value} {w' : World} {blk newcap : Nat} {X : Array Value} {elem : TypeId}
    (hr : ∀ r ∈ rows, r.length = n) (hy : ∀ r ∈ ys, r.length = n) (h1 : olds.length = rows.length * n) (hX : w'.heap[blk]? = some (.cells X elem (0, 0)))
    (hXc : ∀ j : Nat, j < olds.length + news.length → X[j]? = (olds ++ news)[j]?) (h2 : news.length = ys.length * n) (hl : lim blk = (rows ++ ys).length * n) (hc : (rows ++ ys).length ≤ newcap)
    (o1 : ∀ i j p, at2 rows i j = some p → ∃ v, olds[i * n + j]? = some v ∧ PRep lim w' v p) (o2 : ∀ i j p, at2 ys i j = some p → ∃ v, news[i * n + j]? = some v ∧ PRep lim w' v p) :
    PRep lim w' (.slice (some ⟨blk, 0, none⟩) (rows ++ ys).length newcap) (.sl (rows ++ ys)) := by
  have key : ∀ i j p, at2 (rows ++ ys) i j = some p → i * n + j < (rows ++ ys).length * n ∧ ∃ v, X[i * n + j]? = some v ∧ PRep lim w' v p := by
    intro i j p hq
    have hall : ∀ r ∈ rows ++ ys, r.length = n := fun r hm => (List.mem_append.1 hm).elim (hr r) (hy r)
    obtain ⟨l1, l2⟩ := at2_lt hall hq
    have hlt : i * n + j < (rows ++ ys).length * n := by
      have : (i + 1) * n ≤ (rows ++ ys).length * n := Nat.mul_le_mul_right _ l1
      rw [Nat.add_mul, Nat.one_mul] at this
      omega
    have hlt' : i * n + j < olds.length + news.length := by
      rw [h1, h2, ← Nat.add_mul]
      simpa using hlt
    refine ⟨hlt, ?_⟩
    rw [hXc _ hlt']
    rcases at2_append hq with ⟨g1, g2⟩ | ⟨g1, g2⟩
    · obtain ⟨v, hv, hp⟩ := o1 i j p g2
      exact ⟨v, by rw [List.getElem?_append_left (List.getElem?_eq_some_iff.1 hv).1]; exact hv, hp⟩
    · obtain ⟨v, hv, hp⟩ := o2 _ j p g2
      refine ⟨v, ?_, hp⟩
      have hge : olds.length ≤ i * n + j := by
        rw [h1]
        have : rows.length * n ≤ i * n := Nat.mul_le_mul_right _ g1
        omega
      rw [List.getElem?_append_right hge, h1]
      have : i * n + j - rows.length * n = (i - rows.length) * n + j := by
        rw [Nat.sub_mul]
        have : rows.length * n ≤ i * n := Nat.mul_le_mul_right _ g1
        omega
      rw [this]
      exact hv
  refine .sl blk 0 _ _ n _ (fun i j => X.getD (i * n + j) undef) rfl hc (fun r hm => (List.mem_append.1 hm).elim (hr r) (hy r)) (fun i j p hq => ?_) fun i j p hq => ?_
  · obtain ⟨hlt, v, hv, _⟩ := key i j p hq
    rw [Nat.zero_add, cell_of_box hX, hv]
    exact ⟨by simp [Array.getD_eq_getD_getElem?, hv], by rw [hl]; exact hlt⟩
  · obtain ⟨_, v, hv, hp⟩ := key i j p hq
    have e : X.getD (i * n + j) undef = v := by simp [Array.getD_eq_getD_getElem?, hv]
    rw [e]
    exact hp

/-- An append that makes a new row. -/
theorem sem_grow {t tx ty e' e'' : TypeId} {i : TypeInfo} {z : Value} {A : Option Addr} {len cap n : Nat} {x : Value} {rows ys : List (List PV)} (hi : Inv w0 lim0 O G toks outer heap w)
    (ht : P.underlying t = some (.slice e')) (htx : P.underlying tx = some (.slice e'')) (hinfo : P.info? e' = some i) (hz : i.zero = some z) (hsz : i.size = n)
    (hV : PRep G.lim w (.slice A len cap) (.sl rows)) (hx : PRep G.lim w x (.sl ys)) (hr : ∀ r ∈ rows, r.length = n) (hy : ∀ r ∈ ys, r.length = n) (hby : 0 < i.bytes) (hfit : (rows ++ ys).length * i.bytes ≤ 2 ^ 47) (hg : cap < len + ys.length) :
    ∃ X newcap w', (Builtin.append_ #[t, tx] ty #[.slice A len cap, x]).run P w = .ok (.slice (some ⟨w.heap.size, 0, none⟩) (rows ++ ys).length newcap) w' ∧
      w' = w.drew.alloc (.cells X e') ∧ PRep (limAt G.lim w.heap.size ((rows ++ ys).length * n)) w' (.slice (some ⟨w.heap.size, 0, none⟩) (rows ++ ys).length newcap) (.sl (rows ++ ys)) ∧
      (rows ++ ys).length ≤ newcap ∧ (z.cells.size = n → newcap * n ≤ X.size) ∧ Inv w0 lim0 O { G with lim := limAt G.lim w.heap.size ((rows ++ ys).length * n) } toks outer heap w' ∧
      Keep G toks w { G with lim := limAt G.lim w.heap.size ((rows ++ ys).length * n) } toks w' := by
  obtain ⟨l1, l2, olds, o1, o2, o3, o4⟩ := hV.flat hr
  obtain ⟨B, m, c, rfl⟩ := slice_of hx
  obtain ⟨k1, k2, news, n1, n2, n3, n4⟩ := hx.flat hy
  have hsrc : Src P i.size tx (.slice B m c) m news w := by
    rw [hsz]
    exact src_of (ys := ys) htx rfl n1 n2 (n4.imp id fun ⟨b, off, hA, h⟩ => ⟨b, off, hA, fun j u hj => (h j u hj).1⟩)
  have hold : (Builtin.firstCells i.size len (.slice A len cap)).run P w.drew = .ok olds.toArray w.drew := by
    have : Src P i.size t (.slice A len cap) len olds w := by
      rw [hsz]
      exact src_of (ys := rows) ht rfl o1 o2 (o4.imp id fun ⟨b, off, hA, h⟩ => ⟨b, off, hA, fun j u hj => (h j u hj).1⟩)
    exact this.cellsD
  have hneed : (rows ++ ys).length = len + m := by simp [l1, k1]
  have hle47 : (len + m) ≤ 2 ^ 47 := by
    rw [hneed] at hfit
    exact Nat.le_trans (Nat.le_mul_of_pos_right _ hby) hfit
  have hg' : cap < len + m := by omega
  have hrun := run_append_grow_src (P := P) w t tx ty e' i z ht hinfo hz A len cap olds hold (.slice B m c) m news hsrc hg' (by omega) (growslice_fits hg' (by rw [hneed] at hfit; exact hfit))
  have hcap := grownCap_ge w (len + m) cap e'
  generalize hX : ((olds ++ news).toArray ++ Builtin.zeroCells z.cells (grownCap w (len + m) cap e' - (len + m))) = X at hrun
  have hXc : ∀ j : Nat, j < olds.length + news.length → X[j]? = (olds ++ news)[j]? := by
    intro j hj
    rw [← hX, Array.getElem?_append_left (by simpa using hj)]
    simp
  obtain ⟨i1, kk⟩ := hi.quiet (w' := w.drew.alloc (.cells X e')) (lim' := limAt G.lim w.heap.size ((rows ++ ys).length * n)) (by rw [size_alloc]; exact Nat.le_succ _) rfl rfl rfl
    (fun b hb => ⟨heap_alloc_old w.drew _ b hb, by simp [limAt]; omega⟩) (fun b hb => by
      rw [size_alloc] at hb
      have : w.heap.size + 1 ≤ b := hb
      simp only [limAt]
      rw [if_neg (by omega)]
      exact hi.frame.above b (by omega))
  refine ⟨X, grownCap w (len + m) cap e', _, by rw [hneed]; exact hrun, rfl, ?_, by rw [hneed]; exact hcap, fun hzc => ?_, i1, kk⟩
  · have hhp : (w.drew.alloc (.cells X e')).heap[w.heap.size]? = some (.cells X e' (0, 0)) := heap_alloc_new w.drew _
    exact grown_rep (olds := olds) (news := news) hr hy (by rw [o1, l1]) hhp hXc (by rw [n1, k1]) (by simp [limAt]) (by rw [hneed]; exact hcap)
      (fun i j p hq => by obtain ⟨v, hv, hp⟩ := o3 i j p hq; exact ⟨v, hv, hp.grow kk.grow⟩) (fun i j p hq => by obtain ⟨v, hv, hp⟩ := n3 i j p hq; exact ⟨v, hv, hp.grow kk.grow⟩)
  · rw [← hX]
    simp [Builtin.zeroCells, hzc, o1, n1]
    rw [← Nat.add_mul, ← Nat.add_mul]
    have : len + m + (grownCap w (len + m) cap e' - (len + m)) = grownCap w (len + m) cap e' := by omega
    rw [this]
    exact Nat.le_refl _


/-! ### tokens -/

theorem BoxOK.keepB {G G' : Gh} {toks toks' : List (Option Nat)} {w : World} {lim : Nat → Nat} {blk : Nat} {cs : List AV} (h : BoxOK G toks w lim blk cs) (k : Keep G toks w G' toks' w) : BoxOK G' toks' w lim blk cs :=
  h.keep k rfl rfl

/-- A token's row has grown into a new block. -/
theorem Inv.newTok (hi : Inv w0 lim0 O G toks outer heap w) {t m n nb : Nat} (ht : toks[t]? = some (some m)) (hmn : m < n) (hnew : nb ∉ G.obs ++ G.bs) (hfree : ∀ (t' : Nat) k, G.tb[t']? = some (some nb) → toks[t']? = some (some k) → False) (hlt : nb < w.heap.size) (hge : w0.heap.size ≤ nb) :
    Inv w0 lim0 O { G with tb := G.tb.set t (some nb) } (toks.set t (some n)) outer heap w ∧ Keep G toks w { G with tb := G.tb.set t (some nb) } (toks.set t (some n)) w := by
  have htl : t < toks.length := (List.getElem?_eq_some_iff.1 ht).1
  have htb : t < G.tb.length := by rw [hi.tlen]; exact htl
  have k : Keep G toks w { G with tb := G.tb.set t (some nb) } (toks.set t (some n)) w := by
    refine ⟨Grow.refl _ _, fun _ _ h => h, fun _ _ h => h, by simp, fun t' n' h _ => ?_⟩
    by_cases he : t' = t
    · subst he
      rw [List.getElem?_set_self htl] at h
      simp at h
      exact ⟨m, ht, .inl (by omega)⟩
    · rw [List.getElem?_set_ne (fun e => he e.symm)] at h
      refine ⟨n', h, .inr ⟨rfl, fun b hb => ⟨?_, rfl, rfl⟩⟩⟩
      rw [List.getElem?_set_ne (fun e => he e.symm)]
      exact hb
  refine ⟨⟨hi.frame, hi.hb, hi.ho, fun i blk cs h1 h2 => (hi.box i blk cs h1 h2).keepB k, fun i blk cs h1 h2 => (hi.obox i blk cs h1 h2).keepB k.low, hi.nodup, hi.bnew, hi.oold, by simp [hi.tlen], fun t' b n' h1 h2 => ?_, fun a c b n1 n2 h1 h2 h3 h4 => ?_⟩, k⟩
  · by_cases he : t' = t
    · subst he
      rw [List.getElem?_set_self htb] at h1
      simp at h1
      subst h1
      exact ⟨hnew, hlt, fun h => by omega⟩
    · rw [List.getElem?_set_ne (fun e => he e.symm)] at h1 h2
      exact hi.tok t' b n' h1 h2
  · by_cases ha : a = t <;> by_cases hc : c = t
    · omega
    · subst ha
      rw [List.getElem?_set_self htb] at h1
      simp at h1
      subst h1
      rw [List.getElem?_set_ne (fun e => hc e.symm)] at h2 h4
      exact (hfree c n2 h2 h4).elim
    · subst hc
      rw [List.getElem?_set_self htb] at h2
      simp at h2
      subst h2
      rw [List.getElem?_set_ne (fun e => ha e.symm)] at h1 h3
      exact (hfree a n1 h1 h3).elim
    · rw [List.getElem?_set_ne (fun e => ha e.symm)] at h1 h3
      rw [List.getElem?_set_ne (fun e => hc e.symm)] at h2 h4
      exact hi.tdis a c b n1 n2 h1 h2 h3 h4

/-- One token more. -/
theorem Inv.pushTok (hi : Inv w0 lim0 O G toks outer heap w) {o : Option Nat} {ob : Option Nat} (hnew : ∀ nb, ob = some nb → nb ∉ G.obs ++ G.bs ∧ nb < w.heap.size ∧ (nb < w0.heap.size → O nb) ∧ ∀ (t' : Nat) k, G.tb[t']? = some (some nb) → toks[t']? = some (some k) → False) :
    Inv w0 lim0 O { G with tb := G.tb ++ [ob] } (toks ++ [o]) outer heap w ∧ Keep G toks w { G with tb := G.tb ++ [ob] } (toks ++ [o]) w := by
  have old : ∀ t', t' < toks.length → (toks ++ [o])[t']? = toks[t']? ∧ (G.tb ++ [ob])[t']? = G.tb[t']? := fun t' h =>
    ⟨List.getElem?_append_left h, List.getElem?_append_left (by rw [hi.tlen]; exact h)⟩
  have new : ∀ (t' : Nat) x, (toks ++ [o])[t']? = some x → t' < toks.length ∨ (t' = toks.length ∧ (G.tb ++ [ob])[t']? = some ob) := by
    intro t' x h
    have := (List.getElem?_eq_some_iff.1 h).1
    simp at this
    rcases Nat.lt_or_ge t' toks.length with h' | h'
    · exact .inl h'
    · have : t' = toks.length := by omega
      subst this
      refine .inr ⟨rfl, ?_⟩
      rw [← hi.tlen]
      simp
  have k : Keep G toks w { G with tb := G.tb ++ [ob] } (toks ++ [o]) w := by
    refine ⟨Grow.refl _ _, fun _ _ h => h, fun _ _ h => h, by simp, fun t' n' h hl => ?_⟩
    rw [(old t' hl).1] at h
    exact ⟨n', h, .inr ⟨rfl, fun b hb => ⟨by show (G.tb ++ [ob])[t']? = _; rw [(old t' hl).2]; exact hb, rfl, rfl⟩⟩⟩
  refine ⟨⟨hi.frame, hi.hb, hi.ho, fun i blk cs h1 h2 => (hi.box i blk cs h1 h2).keepB k, fun i blk cs h1 h2 => (hi.obox i blk cs h1 h2).keepB k.low, hi.nodup, hi.bnew, hi.oold, by simp [hi.tlen], fun t' b n' h1 h2 => ?_, fun a c b n1 n2 h1 h2 h3 h4 => ?_⟩, k⟩
  · rcases new t' _ h2 with h | ⟨rfl, h⟩
    · rw [(old t' h).1] at h2
      rw [show ({ G with tb := G.tb ++ [ob] } : Gh).tb = G.tb ++ [ob] from rfl, (old t' h).2] at h1
      exact hi.tok t' b n' h1 h2
    · rw [show ({ G with tb := G.tb ++ [ob] } : Gh).tb = G.tb ++ [ob] from rfl, h] at h1
      obtain ⟨g1, g2, g3, g4⟩ := hnew b (Option.some.inj h1)
      exact ⟨g1, g2, g3⟩
  · have e1 : ∀ {x : Nat} {n : Nat}, (G.tb ++ [ob])[x]? = some (some b) → (toks ++ [o])[x]? = some (some n) → (x < toks.length ∧ G.tb[x]? = some (some b) ∧ toks[x]? = some (some n)) ∨ (x = toks.length ∧ ob = some b) := by
      intro x n g1 g2
      rcases new x _ g2 with h | ⟨rfl, h⟩
      · rw [(old x h).1] at g2
        rw [(old x h).2] at g1
        exact .inl ⟨h, g1, g2⟩
      · rw [h] at g1
        exact .inr ⟨rfl, Option.some.inj g1⟩
    rcases e1 h1 h3 with ⟨_, a1, a2⟩ | ⟨rfl, a1⟩ <;> rcases e1 h2 h4 with ⟨_, c1, c2⟩ | ⟨rfl, c1⟩
    · exact hi.tdis a c b n1 n2 a1 c1 a2 c2
    · exact ((hnew b c1).2.2.2 a n1 a1 a2).elim
    · exact ((hnew b a1).2.2.2 c n2 c1 c2).elim
    · rfl

theorem World.setCells_row {b off : Nat} {X : Array Value} {elem : TypeId} {vs : List Value} (h : w.heap[b]? = some (.cells X elem (0, 0))) (hf : off + vs.length ≤ X.size) (h1 : ∀ v ∈ vs, v.oneCell' = true) :
    w.setCells b off vs = w.setRow b (X.toList.take off ++ vs ++ X.toList.drop (off + vs.length)).toArray := by
  have a := run_storeCells_at (P := (default : Program)) b off elem vs 0 X w h (by simpa using hf) h1
  have c := run_storeCells_cells (P := (default : Program)) b off vs 0 w (fun j hj => by
    rw [Nat.add_zero, cell_of_box h]
    simp
    omega) (fun j hj => by simp [World.frozen?, h]) h1
  rw [a] at c
  injection c with _ c
  simp only [Nat.add_zero] at c
  exact c.symm

/-- An append where it stands. -/
theorem sem_fits {t tx ty e' e'' : TypeId} {i : TypeInfo} {A : Option Addr} {tk len cap n : Nat} {x : Value} {rows ys : List (List PV)} (hi : Inv w0 lim0 O G toks outer heap w)
    (ht : P.underlying t = some (.slice e')) (htx : P.underlying tx = some (.slice e'')) (hinfo : P.info? e' = some i) (hsz : i.size = n)
    (hV : PRep G.lim w (.slice A len cap) (.sl rows)) (hx : PRep G.lim w x (.sl ys)) (hr : ∀ r ∈ rows, r.length = n) (hy : ∀ r ∈ ys, r.length = n) (hg : len + ys.length ≤ cap) (hys : ys ≠ [])
    (htk : toks[tk]? = some (some rows.length)) (hroom : ∃ (b off : Nat) (X : Array Value) (elem : TypeId), A = some ⟨b, off, none⟩ ∧ G.tb[tk]? = some (some b) ∧ G.lim b = off + len * n ∧ w.heap[b]? = some (.cells X elem (0, 0)) ∧ off + cap * n ≤ X.size) :
    ∃ v G' w', (Builtin.append_ #[t, tx] ty #[.slice A len cap, x]).run P w = .ok v w' ∧ After w0 lim0 O G toks w (.own tk (rows ++ ys)) (toks.set tk (some (rows ++ ys).length)) outer heap v G' w' := by
  obtain ⟨l1, l2, olds, o1, o2, o3, o4⟩ := hV.flat hr
  obtain ⟨B, m, c, rfl⟩ := slice_of hx
  obtain ⟨k1, k2, news, n1, n2, n3, n4⟩ := hx.flat hy
  have hm0 : 0 < m := by rw [← k1]; exact List.length_pos_iff.2 hys
  obtain ⟨b, off, X, elem, rfl, hb, hl, hX, hXs⟩ := hroom
  obtain ⟨esz, rfl⟩ : ∃ e, e = n := ⟨n, rfl⟩
  rcases o4 with ⟨_, h⟩ | ⟨b', off', hA, hcell⟩
  · omega
  simp only [Option.some.injEq, Addr.mk.injEq, and_true] at hA
  obtain ⟨rfl, rfl⟩ := hA
  have hsrc : Src P i.size tx (.slice B m c) m news w := by
    rw [hsz]
    exact src_of (ys := ys) htx rfl n1 n2 (n4.imp id fun ⟨b, off, hA, h⟩ => ⟨b, off, hA, fun j u hj => (h j u hj).1⟩)
  have hfit : off + len * esz + news.length ≤ X.size := by
    rw [n1]
    have : (len + m) * esz ≤ cap * esz := Nat.mul_le_mul_right _ (by omega)
    rw [Nat.add_mul] at this
    omega
  have hrun := run_append_room_src (P := P) w t tx ty e' i ht hinfo b off len cap (.slice B m c) m news hsrc (by omega) (fun j hj => by
    rw [hsz, cell_of_box hX]; simp; omega) (fun j hj => by simp [World.frozen?, hX])
  rw [hsz, World.setCells_row hX hfit n2] at hrun
  generalize hX' : (X.toList.take (off + len * esz) ++ news ++ X.toList.drop (off + len * esz + news.length)).toArray = X' at hrun
  obtain ⟨t1, t2, t3⟩ := hi.tok tk b _ hb htk
  have hbt : tk < toks.length := (List.getElem?_eq_some_iff.1 htk).1
  have hX's : X'.size = X.size := by rw [← hX']; simp; omega
  have hother : ∀ b', b' ≠ b → (w.setRow b X').heap[b']? = w.heap[b']? := fun b' h => heap_setRow_other w b b' X' h
  have hnewX : (w.setRow b X').heap[b]? = some (.cells X' elem (0, 0)) := setRow_heap w b X X' elem (0, 0) hX
  have hgetlo : ∀ j, j < off + len * esz → X'[j]? = X[j]? := by
    intro j hj
    rw [← hX']
    simp only [List.getElem?_toArray]
    rw [List.getElem?_append_left (by simp; omega), List.getElem?_append_left (by simp; omega), List.getElem?_take, if_pos hj]
    simp
  have hgethi : ∀ j, j < news.length → X'[off + len * esz + j]? = news[j]? := by
    intro j hj
    rw [← hX']
    simp only [List.getElem?_toArray]
    have hlt : (X.toList.take (off + len * esz)).length = off + len * esz := by simp; omega
    rw [List.getElem?_append_left (by simp; omega), List.getElem?_append_right (by omega), hlt]
    congr 1
    omega
  let lim' : Nat → Nat := fun x => if x = b then off + (len + m) * esz else G.lim x
  have hlim' : lim' b = off + (len + m) * esz := by simp [lim']
  have hlimo : ∀ x, x ≠ b → lim' x = G.lim x := fun x h => by simp [lim', h]
  have hmul : (len + m) * esz = len * esz + m * esz := Nat.add_mul _ _ _
  have grow : Grow G.lim w lim' (w.setRow b X') := by
    refine ⟨fun x => ?_, fun x o ho => ?_⟩
    · by_cases h : x = b
      · subst h; rw [hlim', hl]; omega
      · rw [hlimo x h]; exact Nat.le_refl _
    · by_cases h : x = b
      · subst h
        rw [cell_of_box hnewX, cell_of_box hX]
        exact hgetlo o (by rw [hl] at ho; exact ho)
      · exact World.cell?_of_block (w := w) (hother x h)
  have hlen : (rows ++ ys).length = len + m := by simp [l1, k1]
  have k : Keep G toks w { G with lim := lim' } (toks.set tk (some (rows ++ ys).length)) (w.setRow b X') := by
    refine ⟨grow, fun _ _ h => h, fun _ _ h => h, by simp, fun t' n' h _ => ?_⟩
    by_cases he : t' = tk
    · subst he
      rw [List.getElem?_set_self hbt] at h
      simp only [Option.some.injEq] at h
      exact ⟨_, htk, .inl (by rw [← h, hlen, l1]; omega)⟩
    · rw [List.getElem?_set_ne (fun e => he e.symm)] at h
      refine ⟨n', h, .inr ⟨rfl, fun b' hb' => ?_⟩⟩
      have hbb : b' ≠ b := fun e => by subst e; exact he (hi.tdis t' tk b' n' _ hb' hb h htk)
      exact ⟨hb', hlimo b' hbb, hother b' hbb⟩
  have hbox : ∀ blk, blk ∈ G.obs ++ G.bs → blk ≠ b := fun blk h e => t1 (e ▸ h)
  refine ⟨_, { G with lim := lim' }, _, hrun, ?_, ?_, k⟩
  · refine .own (by simpa using hbt) (fun n' h => ?_) ?_ ?_
    · rw [List.getElem?_set_self hbt] at h
      simp only [Option.some.injEq] at h
      omega
    · refine .sl b off _ _ esz _ (fun i j => X'.getD (off + i * esz + j) undef) hlen (by omega) (fun r hm => (List.mem_append.1 hm).elim (hr r) (hy r)) (fun i j p hq => ?_) fun i j p hq => ?_
      all_goals
        have hall : ∀ r ∈ rows ++ ys, r.length = esz := fun r hm => (List.mem_append.1 hm).elim (hr r) (hy r)
        obtain ⟨g1, g2⟩ := at2_lt hall hq
        have hlt : i * esz + j < (len + m) * esz := by
          have : (i + 1) * esz ≤ (len + m) * esz := Nat.mul_le_mul_right _ (by omega)
          rw [Nat.add_mul, Nat.one_mul] at this
          omega
        have hval : ∃ v, X'[off + i * esz + j]? = some v ∧ PRep G.lim w v p := by
          rcases at2_append hq with ⟨a1, a2⟩ | ⟨a1, a2⟩
          · obtain ⟨v, hv, hp⟩ := o3 i j p a2
            have hlo : i * esz + j < len * esz := by have := (List.getElem?_eq_some_iff.1 hv).1; omega
            have hc := (hcell _ _ hv).1
            rw [cell_of_box hX] at hc
            exact ⟨v, by rw [hgetlo _ (by omega), Nat.add_assoc]; exact hc, hp⟩
          · obtain ⟨v, hv, hp⟩ := n3 _ j p a2
            have hlo := (List.getElem?_eq_some_iff.1 hv).1
            refine ⟨v, ?_, hp⟩
            have e : off + i * esz + j = off + len * esz + ((i - rows.length) * esz + j) := by
              rw [Nat.sub_mul, l1]
              have : len * esz ≤ i * esz := Nat.mul_le_mul_right _ (by omega)
              omega
            rw [e, hgethi _ hlo]
            exact hv
        obtain ⟨v, hv, hp⟩ := hval
      · rw [cell_of_box hnewX, hv]
        exact ⟨by simp [Array.getD_eq_getD_getElem?, hv], by show _ < lim' b; rw [hlim']; omega⟩
      · have e : X'.getD (off + i * esz + j) undef = v := by simp [Array.getD_eq_getD_getElem?, hv]
        rw [e]
        exact hp.grow grow
    · intro _ _
      exact ⟨b, off, esz, X', elem, rfl, hb, by simp [hys], fun r hm => (List.mem_append.1 hm).elim (hr r) (hy r), hlim', hnewX, by rw [hX's]; exact hXs⟩
  · refine ⟨⟨by rw [size_setRow]; exact hi.frame.size, hi.frame.os, hi.frame.tape, hi.frame.output, fun b' hb0 hbO => ?_, hi.frame.grow.trans grow, fun b' hb' => ?_⟩, hi.hb, hi.ho, fun i blk cs h1 h2 => ?_, fun i blk cs h1 h2 => ?_, hi.nodup, hi.bnew, hi.oold, by simp [hi.tlen], fun t' b' n' h1 h2 => ?_, fun a c b' n1 n2 h1 h2 h3 h4 => ?_⟩
    · have hbb : b' ≠ b := fun e => by subst e; exact hbO (t3 hb0)
      rw [hother b' hbb]
      obtain ⟨q1, q2⟩ := hi.frame.blk b' hb0 hbO
      exact ⟨q1, (hlimo b' hbb).trans q2⟩
    · rw [size_setRow] at hb'
      have hbb : b' ≠ b := fun e => by subst e; omega
      show lim' b' = 0
      rw [hlimo b' hbb]
      exact hi.frame.above b' hb'
    · have hbb := hbox blk (List.mem_append_right _ (List.mem_of_getElem? h1))
      exact (hi.box i blk cs h1 h2).keep k (hother blk hbb) (hlimo blk hbb)
    · have hbb := hbox blk (List.mem_append_left _ (List.mem_of_getElem? h1))
      exact (hi.obox i blk cs h1 h2).keep k.low (hother blk hbb) (hlimo blk hbb)
    · have : ∃ n'', toks[t']? = some (some n'') := by
        by_cases he : t' = tk
        · subst he; exact ⟨_, htk⟩
        · rw [List.getElem?_set_ne (fun e => he e.symm)] at h2; exact ⟨_, h2⟩
      obtain ⟨n'', h2'⟩ := this
      obtain ⟨g1, g2, g3⟩ := hi.tok t' b' n'' h1 h2'
      exact ⟨g1, by rw [size_setRow]; exact g2, g3⟩
    · have : ∀ (y n : Nat), (toks.set tk (some (rows ++ ys).length))[y]? = some (some n) → ∃ n'', toks[y]? = some (some n'') := by
        intro y n h
        by_cases he : y = tk
        · subst he; exact ⟨_, htk⟩
        · rw [List.getElem?_set_ne (fun e => he e.symm)] at h; exact ⟨_, h⟩
      obtain ⟨n1', h3'⟩ := this a n1 h3
      obtain ⟨n2', h4'⟩ := this c n2 h4
      exact hi.tdis a c b' n1' n2' h1 h2 h3' h4'


/-- An append of nothing. -/
theorem sem_nothing {t tx ty e' e'' : TypeId} {i : TypeInfo} {A : Option Addr} {len cap : Nat} {x : Value} (ht : P.underlying t = some (.slice e')) (htx : P.underlying tx = some (.slice e'')) (hinfo : P.info? e' = some i)
    {lim : Nat → Nat} (hc : len ≤ cap) (hx : PRep lim w x (.sl [])) : (Builtin.append_ #[t, tx] ty #[.slice A len cap, x]).run P w = .ok (.slice A len cap) w := by
  obtain ⟨B, m, c, rfl⟩ := slice_of hx
  obtain ⟨k1, k2, news, n1, n2, n3, n4⟩ := hx.flat (n := i.size) (by simp)
  simp at k1
  subst k1
  have hsrc : Src P i.size tx (.slice B 0 c) 0 news w := src_of (ys := []) htx rfl n1 n2 (n4.imp id fun ⟨b, off, hA, h⟩ => ⟨b, off, hA, fun j u hj => (h j u hj).1⟩)
  have hn : news = [] := by simpa using n1
  subst hn
  cases A with
  | none => simp [Builtin.append_, run_underlying ht, run_underlying htx, sizeOf, typeInfo, hinfo, hsrc.len, hc, hsrc.cells]
  | some a => simp [Builtin.append_, run_underlying ht, run_underlying htx, sizeOf, typeInfo, hinfo, hsrc.len, hc, hsrc.cells, storeCells]

theorem set_same {α : Type} {l : List α} {i : Nat} {a : α} (h : l[i]? = some a) : l.set i a = l := by
  apply List.ext_getElem?
  intro j
  by_cases hj : j = i
  · subst hj; rw [List.getElem?_set_self (List.getElem?_eq_some_iff.1 h).1, h]
  · rw [List.getElem?_set_ne (fun e => hj e.symm)]

theorem sem_append {kd : Bool} {t tx ty e' e'' : TypeId} {s x : Value} {as : AV} {n by' : Nat} {z : List PV} {ys : List (List PV)} {a : AV} {toks' : List (Option Nat)} {l : List Prop} (hi : Inv w0 lim0 O G toks outer heap w)
    (hs : ARep G toks w s as) (hx : PRep G.lim w x (.sl ys)) (ht : P.underlying t = some (.slice e')) (htx : P.underlying tx = some (.slice e'')) (hsz : sizeT P e' = some n) (hbt : bytesT P e' = some by') (hz : (zeroT P e').bind AV.row = some z)
    (hzn : z.length = n) (hby : 0 < by') (h : appendOp kd as n by' ys toks = some (a, toks', l)) (ho : ∀ q ∈ l, q) :
    ∃ v G' w', (Builtin.append_ #[t, tx] ty #[s, x]).run P w = .ok v w' ∧ After w0 lim0 O G toks w a toks' outer heap v G' w' := by
  obtain ⟨i, zv, hinfo, hiz, hzr, hZ⟩ := zero_row hz
  have hisz : i.size = n := by unfold sizeT at hsz; rw [hinfo] at hsz; simpa using hsz
  have hiby : i.bytes = by' := by unfold bytesT at hbt; rw [hinfo] at hbt; simpa using hbt
  have hzc : zv.cells.size = n := by rw [(hZ G.lim w).1, hzn]
  unfold appendOp at h
  split at h <;> (try (simp at h; done))
  · -- nil
    simp only [Option.some.injEq, Prod.mk.injEq] at h
    obtain ⟨rfl, rfl, rfl⟩ := h
    have hb := ho _ (List.mem_cons_self)
    have hy := ho _ (List.mem_cons_of_mem _ (List.mem_cons_self))
    have hs' : s = .slice none 0 0 := by cases hs with | v h => cases h; rfl
    subst hs'
    by_cases hys : ys = []
    · subst hys
      obtain ⟨i1, k1⟩ := hi.pushTok (o := some 0) (ob := none) (fun _ h => by simp at h)
      refine ⟨_, _, _, sem_nothing ht htx hinfo (Nat.le_refl _) hx, ?_, i1, k1⟩
      exact .own (by simp) (fun _ _ => Nat.zero_le _) .nil0 (fun _ hlt => by omega)
    · have hpos : 0 < ys.length := List.length_pos_iff.2 hys
      obtain ⟨X, nc, w', hrun, hw', hrep, hcap, hroom, i1, k1⟩ := sem_grow (ty := ty) (A := none) (len := 0) (cap := 0) (rows := []) hi ht htx hinfo hiz hisz .nil0 hx (by simp) hy (by omega) (by simpa [hiby] using hb) (by omega)
      have hwz : w'.heap.size = w.heap.size + 1 := by rw [hw', size_alloc]; rfl
      obtain ⟨i2, k2⟩ := i1.pushTok (o := some ys.length) (ob := some w.heap.size) (fun nb h => by
        simp only [Option.some.injEq] at h
        subst h
        refine ⟨fun hm => ?_, by omega, fun hlt => ?_, fun t' k h1 h2 => ?_⟩
        · have := (hi.blk_lt hm).1; omega
        · have := hi.frame.size; omega
        · have := (hi.tok t' _ k h1 h2).2.1; omega)
      refine ⟨_, _, _, hrun, ?_, i2, k1.trans k2⟩
      simp only [List.nil_append] at hrep hcap hroom
      refine .own (by simp) (fun m hm => ?_) hrep (fun _ hlt => ?_)
      · simp at hm; omega
      · refine ⟨w.heap.size, 0, n, X, e', rfl, ?_, hys, hy, by simp [limAt], by rw [hw']; exact heap_alloc_new w.drew _, by simpa using hroom hzc⟩
        show (G.tb ++ [some w.heap.size])[toks.length]? = _
        rw [← hi.tlen]
        simp
  · -- one's own
    rename_i tk rows
    split at h <;> (try (simp at h; done))
    rename_i m htk
    simp only [Option.some.injEq, Prod.mk.injEq] at h
    obtain ⟨rfl, rfl, rfl⟩ := h
    have hm := ho _ (List.mem_cons_self)
    have hb := ho _ (List.mem_cons_of_mem _ (List.mem_cons_self))
    have hall := ho _ (List.mem_cons_of_mem _ (List.mem_cons_of_mem _ (List.mem_cons_self)))
    subst hm
    have hr : ∀ r ∈ rows, r.length = n := fun r hm => hall r (List.mem_append_left _ hm)
    have hy : ∀ r ∈ ys, r.length = n := fun r hm => hall r (List.mem_append_right _ hm)
    cases hs with
    | @own _ _ A len cap htl hle hV hroom =>
      have hlen : rows.length = len ∧ len ≤ cap := by
        obtain ⟨a, b, _⟩ := hV.flat hr; exact ⟨a, b⟩
      by_cases hys : ys = []
      · subst hys
        have e1 : rows ++ [] = rows := List.append_nil _
        have e2 : toks.set tk (some (rows ++ []).length) = toks := by rw [e1]; exact set_same htk
        rw [e1] at e2 ⊢
        rw [e2]
        exact ⟨_, _, _, sem_nothing ht htx hinfo hlen.2 hx, .own htl hle hV hroom, hi, Keep.refl _ _ _⟩
      · have hpos : 0 < ys.length := List.length_pos_iff.2 hys
        rcases Nat.lt_or_ge cap (len + ys.length) with hg | hg
        · obtain ⟨X, nc, w', hrun, hw', hrep, hcap, hrm, i1, k1⟩ := sem_grow (ty := ty) hi ht htx hinfo hiz hisz hV hx hr hy (by omega) (by rw [hiby]; exact hb) hg
          have hwz : w'.heap.size = w.heap.size + 1 := by rw [hw', size_alloc]; rfl
          obtain ⟨i2, k2⟩ := i1.newTok (n := (rows ++ ys).length) (nb := w.heap.size) htk (by simp; omega) (fun hm => by have := (hi.blk_lt hm).1; omega)
            (fun t' k h1 h2 => by have := (hi.tok t' _ k h1 h2).2.1; omega) (by omega) hi.frame.size
          refine ⟨_, _, _, hrun, ?_, i2, k1.trans k2⟩
          refine .own (by simpa using htl) (fun m hm => ?_) hrep (fun _ hlt => ?_)
          · rw [List.getElem?_set_self htl] at hm
            simp only [Option.some.injEq] at hm
            omega
          · refine ⟨w.heap.size, 0, n, X, e', rfl, ?_, by simp [hys], hall, by simp [limAt], by rw [hw']; exact heap_alloc_new w.drew _, by simpa using hrm hzc⟩
            show (G.tb.set tk (some w.heap.size))[tk]? = _
            rw [List.getElem?_set_self (by rw [hi.tlen]; exact htl)]
        · refine sem_fits hi ht htx hinfo hisz hV hx hr hy hg hys htk ?_
          obtain ⟨b, off, esz, X, elem, e1, e2, hne, hes, e3, e4, e5⟩ := hroom htk (by omega)
          have hesn : esz = n := by
            obtain ⟨r, hm⟩ := List.exists_mem_of_ne_nil _ hne
            rw [← hes r hm, hr r hm]
          subst hesn
          exact ⟨b, off, X, elem, e1, e2, e3, e4, e5⟩
  · -- room alone
    rename_i tk m
    split at h <;> (try (simp at h; done))
    rename_i k htk hdm
    obtain rfl := of_decide_eq_true hdm
    cases hs with
    | @vac _ _ A cap htl hV hroom =>
      cases kd with
      | true =>
        simp only [Option.some.injEq, Prod.mk.injEq] at h
        obtain ⟨rfl, rfl, rfl⟩ := h
        have hys : ys = [] := ho _ (List.mem_cons_self)
        subst hys
        exact ⟨_, _, _, sem_nothing ht htx hinfo (Nat.zero_le _) hx, .vac htl hV hroom, hi, Keep.refl _ _ _⟩
      | false =>
        simp only [Option.some.injEq, Prod.mk.injEq] at h
        obtain ⟨rfl, rfl, rfl⟩ := h
        have hk0 := ho _ (List.mem_cons_self)
        have hys := ho _ (List.mem_cons_of_mem _ (List.mem_cons_self))
        have hb := ho _ (List.mem_cons_of_mem _ (List.mem_cons_of_mem _ (List.mem_cons_self)))
        have hy : ∀ r ∈ ys, r.length = m := ho (∀ r ∈ ys, r.length = m) (List.mem_cons_of_mem _ (List.mem_cons_of_mem _ (List.mem_cons_of_mem _ (List.mem_cons_self))))
        subst hk0
        have hpos : 0 < ys.length := List.length_pos_iff.2 hys
        rcases Nat.lt_or_ge cap (0 + ys.length) with hg | hg
        · obtain ⟨X, nc, w', hrun, hw', hrep, hcap, hrm, i1, k1⟩ := sem_grow (ty := ty) (rows := []) hi ht htx hinfo hiz hisz hV hx (by simp) hy (by omega) (by rw [hiby]; simpa using hb) hg
          have hwz : w'.heap.size = w.heap.size + 1 := by rw [hw', size_alloc]; rfl
          simp only [List.nil_append] at hrep hcap hrm i1 k1 hrun
          obtain ⟨i2, k2⟩ := i1.newTok (n := ys.length) (nb := w.heap.size) htk (by omega) (fun hm => by have := (hi.blk_lt hm).1; omega)
            (fun t' k h1 h2 => by have := (hi.tok t' _ k h1 h2).2.1; omega) (by omega) hi.frame.size
          refine ⟨_, _, _, hrun, ?_, i2, k1.trans k2⟩
          refine .own (by simpa using htl) (fun m hm => ?_) hrep (fun _ hlt => ?_)
          · rw [List.getElem?_set_self htl] at hm
            simp only [Option.some.injEq] at hm
            omega
          · refine ⟨w.heap.size, 0, m, X, e', rfl, ?_, hys, hy, by simp [limAt], by rw [hw']; exact heap_alloc_new w.drew _, by simpa using hrm hzc⟩
            show (G.tb.set tk (some w.heap.size))[tk]? = _
            rw [List.getElem?_set_self (by rw [hi.tlen]; exact htl)]
        · have := sem_fits (ty := ty) (rows := []) (tk := tk) hi ht htx hinfo hisz hV hx (by simp) hy hg hys htk (by
            obtain ⟨b, off, X, elem, e1, e2, e3, e4, e5⟩ := hroom htk (by omega)
            exact ⟨b, off, X, elem, e1, e2, by rw [e3]; simp, e4, e5⟩)
          simpa only [List.nil_append] using this

end
end Go.Ab
