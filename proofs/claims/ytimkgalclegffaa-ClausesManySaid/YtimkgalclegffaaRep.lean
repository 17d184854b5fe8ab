/-
How the evaluator's values and boxes lie in memory, and that they go on lying there while memory grows.
-/
import Derived.Test.YtimkgalclegffaaAb
import Derived.Below
import Derived.Laws.World
namespace Go.Ab
open Go

/-- The row's cell. -/
def at2 (rows : List (List PV)) (i j : Nat) : Option PV := (rows[i]?).bind (·[j]?)

/-- 'lim b': so many cells of block b nobody writes any more. -/
inductive PRep (lim : Nat → Nat) (w : World) : Value → PV → Prop
  | bool (b : Bool) : PRep lim w (.bool b) (.bool b)
  | int (k : IntKind) (n : Int) : PRep lim w (.int k n) (.int k n)
  | str (s : ByteArray) : PRep lim w (.string s) (.str s)
  | cplx (k : FloatKind) (re im : Nat) : PRep lim w (.complex k re im) (.cplx k re im)
  | nil : PRep lim w (.slice none 0 0) .nil
  | nil0 : PRep lim w (.slice none 0 0) (.sl [])
  | sl0 (a : Addr) : PRep lim w (.slice (some a) 0 0) (.sl [])
  | sl (b off len cap esz : Nat) (rows : List (List PV)) (u : Nat → Nat → Value) (hl : rows.length = len) (hc : len ≤ cap) (hr : ∀ r ∈ rows, r.length = esz)
      (hcell : ∀ i j p, at2 rows i j = some p → w.cell? ⟨b, off + i * esz + j, none⟩ = some (u i j) ∧ off + i * esz + j < lim b)
      (hp : ∀ i j p, at2 rows i j = some p → PRep lim w (u i j) p) : PRep lim w (.slice (some ⟨b, off, none⟩) len cap) (.sl rows)

/-- The ghosts of a state: what is not written any more; the blocks of the callers' boxes, of the boxes, of the tokens. -/
structure Gh where
  lim : Nat → Nat
  obs : List Nat
  bs : List Nat
  tb : List (Option Nat)

def Room (G : Gh) (toks : List (Option Nat)) (w : World) (t : Nat) (A : Option Addr) (len cap : Nat) (rows : List (List PV)) : Prop :=
  toks[t]? = some (some rows.length) → len < cap → ∃ (b off esz : Nat) (cells : Array Value) (elem : TypeId), A = some ⟨b, off, none⟩ ∧ G.tb[t]? = some (some b) ∧ rows ≠ [] ∧ (∀ r ∈ rows, r.length = esz) ∧
    G.lim b = off + len * esz ∧ w.heap[b]? = some (.cells cells elem (0, 0)) ∧ off + cap * esz ≤ cells.size

def VRoom (G : Gh) (toks : List (Option Nat)) (w : World) (t esz : Nat) (A : Option Addr) (cap : Nat) : Prop :=
  toks[t]? = some (some 0) → 0 < cap → ∃ (b off : Nat) (cells : Array Value) (elem : TypeId), A = some ⟨b, off, none⟩ ∧ G.tb[t]? = some (some b) ∧ G.lim b = off ∧ w.heap[b]? = some (.cells cells elem (0, 0)) ∧ off + cap * esz ≤ cells.size

inductive ARep (G : Gh) (toks : List (Option Nat)) (w : World) : Value → AV → Prop
  | none (v : Value) : ARep G toks w v .none
  | v {v : Value} {p : PV} (h : PRep G.lim w v p) : ARep G toks w v (.v p)
  | agg {cs : Array Value} {ps : List PV} (hs : cs.size = ps.length) (h : ∀ (i : Nat) v p, cs[i]? = some v → ps[i]? = some p → PRep G.lim w v p) : ARep G toks w (.agg cs) (.agg ps)
  | own {t : Nat} {rows : List (List PV)} {A : Option Addr} {len cap : Nat} (ht : t < toks.length) (hle : ∀ (n : Nat), toks[t]? = some (some n) → rows.length ≤ n)
      (h : PRep G.lim w (.slice A len cap) (.sl rows)) (hr : Room G toks w t A len cap rows) : ARep G toks w (.slice A len cap) (.own t rows)
  | vac {t esz : Nat} {A : Option Addr} {cap : Nat} (ht : t < toks.length) (h : PRep G.lim w (.slice A 0 cap) (.sl [])) (hr : VRoom G toks w t esz A cap) : ARep G toks w (.slice A 0 cap) (.vac t esz)
  | ptr {b off blk : Nat} (h : G.bs[b]? = some blk) : ARep G toks w (.pointer (some ⟨blk, off, none⟩)) (.ptr b off)
  | optr {b off blk : Nat} (h : G.obs[b]? = some blk) : ARep G toks w (.pointer (some ⟨blk, off, none⟩)) (.optr b off)
  | bsl {b n len cap blk : Nat} (h : G.bs[b]? = some blk) (hc : len ≤ cap) : ARep G toks w (.slice (some ⟨blk, 0, none⟩) len cap) (.bsl b n len)
  | eptr {cs : List PV} {b off : Nat} (u : Nat → Value) (hc : ∀ (j : Nat) p, cs[j]? = some p → w.cell? ⟨b, off + j, none⟩ = some (u j) ∧ off + j < G.lim b)
      (hp : ∀ (j : Nat) p, cs[j]? = some p → PRep G.lim w (u j) p) : ARep G toks w (.pointer (some ⟨b, off, none⟩)) (.eptr cs)
  | fn {f : Fn} {fi ca : Array Value} {first cap : List AV} (h1 : fi.size = first.length) (h2 : ca.size = cap.length)
      (h3 : ∀ (i : Nat) v a, fi[i]? = some v → first[i]? = some a → ARep G toks w v a) (h4 : ∀ (i : Nat) v a, ca[i]? = some v → cap[i]? = some a → ARep G toks w v a) : ARep G toks w (.func f fi ca) (.fn f first cap)
  | tup {vs : Array Value} {l : List AV} (h1 : vs.size = l.length) (h2 : ∀ (i : Nat) v a, vs[i]? = some v → l[i]? = some a → ARep G toks w v a) : ARep G toks w (.tuple vs) (.tup l)
  | opt {c : Bool} {a : AV} {v : Value} (h : c = true → ARep G toks w v a) (hu : c = false → v = undef) : ARep G toks w v (.opt c a)

/-- What is not written any more stays. -/
structure Grow (lim : Nat → Nat) (w : World) (lim' : Nat → Nat) (w' : World) : Prop where
  le : ∀ b, lim b ≤ lim' b
  cell : ∀ b o, o < lim b → w'.cell? ⟨b, o, none⟩ = w.cell? ⟨b, o, none⟩

theorem Grow.refl (lim : Nat → Nat) (w : World) : Grow lim w lim w := ⟨fun _ => Nat.le_refl _, fun _ _ _ => rfl⟩
theorem Grow.trans {l1 l2 l3 : Nat → Nat} {w1 w2 w3 : World} (h : Grow l1 w1 l2 w2) (k : Grow l2 w2 l3 w3) : Grow l1 w1 l3 w3 :=
  ⟨fun b => Nat.le_trans (h.le b) (k.le b), fun b o ho => (k.cell b o (Nat.lt_of_lt_of_le ho (h.le b))).trans (h.cell b o ho)⟩

theorem PRep.grow {lim lim' : Nat → Nat} {w w' : World} (g : Grow lim w lim' w') {v : Value} {p : PV} (h : PRep lim w v p) : PRep lim' w' v p := by
  induction h with
  | bool b => exact .bool b
  | int k n => exact .int k n
  | str s => exact .str s
  | cplx k re im => exact .cplx k re im
  | nil => exact .nil
  | nil0 => exact .nil0
  | sl0 a => exact .sl0 a
  | sl b off len cap esz rows u hl hc hr hcell hp ih =>
    refine .sl b off len cap esz rows u hl hc hr (fun i j p hq => ?_) ih
    obtain ⟨h1, h2⟩ := hcell i j p hq
    exact ⟨(g.cell _ _ h2).trans h1, Nat.lt_of_lt_of_le h2 (g.le b)⟩

/-- A slot's values stay, from one state to the next. -/
structure Keep (G : Gh) (toks : List (Option Nat)) (w : World) (G' : Gh) (toks' : List (Option Nat)) (w' : World) : Prop where
  grow : Grow G.lim w G'.lim w'
  obs : ∀ (b : Nat) blk, G.obs[b]? = some blk → G'.obs[b]? = some blk
  bs : ∀ (b : Nat) blk, G.bs[b]? = some blk → G'.bs[b]? = some blk
  len : toks.length ≤ toks'.length
  tok : ∀ (t : Nat) n, toks'[t]? = some (some n) → t < toks.length → ∃ m, toks[t]? = some (some m) ∧ (m < n ∨ (m = n ∧ ∀ b, G.tb[t]? = some (some b) → G'.tb[t]? = some (some b) ∧ G'.lim b = G.lim b ∧ w'.heap[b]? = w.heap[b]?))

theorem Keep.refl (G : Gh) (toks : List (Option Nat)) (w : World) : Keep G toks w G toks w :=
  ⟨Grow.refl _ _, fun _ _ h => h, fun _ _ h => h, Nat.le_refl _, fun t n h _ => ⟨n, h, .inr ⟨rfl, fun b hb => ⟨hb, rfl, rfl⟩⟩⟩⟩

theorem Keep.trans {G1 G2 G3 : Gh} {t1 t2 t3 : List (Option Nat)} {w1 w2 w3 : World} (h : Keep G1 t1 w1 G2 t2 w2) (k : Keep G2 t2 w2 G3 t3 w3) : Keep G1 t1 w1 G3 t3 w3 := by
  refine ⟨h.grow.trans k.grow, fun b blk hb => k.obs _ _ (h.obs _ _ hb), fun b blk hb => k.bs _ _ (h.bs _ _ hb), Nat.le_trans h.len k.len, fun t n hn ht => ?_⟩
  obtain ⟨m, hm, hmn⟩ := k.tok t n hn (Nat.lt_of_lt_of_le ht h.len)
  obtain ⟨l, hl, hlm⟩ := h.tok t m hm ht
  refine ⟨l, hl, ?_⟩
  rcases hmn with hmn | ⟨rfl, hmn⟩
  · rcases hlm with hlm | ⟨rfl, _⟩
    · exact .inl (by omega)
    · exact .inl hmn
  · rcases hlm with hlm | ⟨rfl, hlm⟩
    · exact .inl hlm
    · refine .inr ⟨rfl, fun b hb => ?_⟩
      obtain ⟨h1, h2, h3⟩ := hlm b hb
      obtain ⟨k1, k2, k3⟩ := hmn b h1
      exact ⟨k1, k2.trans h2, k3.trans h3⟩

theorem ARep.keep {G G' : Gh} {toks toks' : List (Option Nat)} {w w' : World} (k : Keep G toks w G' toks' w') {v : Value} {a : AV} (h : ARep G toks w v a) : ARep G' toks' w' v a := by
  induction h with
  | none v => exact .none v
  | v h => exact .v (h.grow k.grow)
  | agg hs h => exact .agg hs fun i v p h1 h2 => (h i v p h1 h2).grow k.grow
  | @own t rows A len cap ht hle h hr =>
    refine .own (Nat.lt_of_lt_of_le ht k.len) (fun n hn => ?_) (h.grow k.grow) ?_
    · obtain ⟨m, hm, hmn⟩ := k.tok t n hn ht
      have := hle m hm
      rcases hmn with hmn | ⟨rfl, _⟩ <;> omega
    · intro hn hlt
      obtain ⟨m, hm, hmn⟩ := k.tok t _ hn ht
      have hle' := hle m hm
      rcases hmn with hmn | ⟨rfl, hmn⟩
      · omega
      · obtain ⟨b, off, esz, cells, elem, h1, h2, h3, h4, h5, h6, h7⟩ := hr hm hlt
        obtain ⟨k1, k2, k3⟩ := hmn b h2
        exact ⟨b, off, esz, cells, elem, h1, k1, h3, h4, k2.trans h5, k3.trans h6, h7⟩
  | @vac t esz A cap ht h hr =>
    refine .vac (Nat.lt_of_lt_of_le ht k.len) (h.grow k.grow) fun hn hlt => ?_
    obtain ⟨m, hm, hmn⟩ := k.tok t _ hn ht
    rcases hmn with hmn | ⟨rfl, hmn⟩
    · omega
    · obtain ⟨b, off, cells, elem, h1, h2, h3, h4, h5⟩ := hr hm hlt
      obtain ⟨k1, k2, k3⟩ := hmn b h2
      exact ⟨b, off, cells, elem, h1, k1, k2.trans h3, k3.trans h4, h5⟩
  | ptr h => exact .ptr (k.bs _ _ h)
  | optr h => exact .optr (k.obs _ _ h)
  | bsl h hc => exact .bsl (k.bs _ _ h) hc
  | eptr u hc hp =>
    refine .eptr u (fun j p hj => ?_) fun j p hj => (hp j p hj).grow k.grow
    obtain ⟨h1, h2⟩ := hc j p hj
    exact ⟨(k.grow.cell _ _ h2).trans h1, Nat.lt_of_lt_of_le h2 (k.grow.le _)⟩
  | fn h1 h2 h3 h4 ih3 ih4 => exact .fn h1 h2 ih3 ih4
  | tup h1 h2 ih => exact .tup h1 ih
  | opt h hu ih => exact .opt ih hu

/-! ### what a value looks like -/

theorem PRep.oneCell {lim : Nat → Nat} {w : World} {v : Value} {p : PV} (h : PRep lim w v p) : v.oneCell' = true := by cases h <;> rfl
theorem PRep.cells {lim : Nat → Nat} {w : World} {v : Value} {p : PV} (h : PRep lim w v p) : v.cells = #[v] := by cases h <;> rfl
theorem PRep.norm {lim : Nat → Nat} {w : World} {v : Value} {p : PV} (h : PRep lim w v p) : PRep lim w v p.norm := by
  cases h with
  | nil => exact .nil0
  | bool b => exact .bool b
  | int k n => exact .int k n
  | str s => exact .str s
  | cplx k re im => exact .cplx k re im
  | nil0 => exact .nil0
  | sl0 a => exact .sl0 a
  | sl b off len cap esz rows u hl hc hr hcell hp => exact .sl b off len cap esz rows u hl hc hr hcell hp

theorem ARep.pv {G : Gh} {toks : List (Option Nat)} {w : World} {v : Value} {a : AV} {p : PV} (h : ARep G toks w v a) (hp : a.pv = some p) : PRep G.lim w v p := by
  cases h with
  | v h => simp [AV.pv] at hp; exact hp ▸ h
  | own ht hle h hr => simp [AV.pv] at hp; exact hp ▸ h
  | vac ht h hr => simp [AV.pv] at hp; exact hp ▸ h
  | _ => simp [AV.pv] at hp

/-- One cell's values: what a box may hold, and the values that are one. -/
def AV.one : AV → Bool
  | .agg _ | .tup _ | .opt _ _ | .none => false
  | _ => true

theorem ARep.oneCell {G : Gh} {toks : List (Option Nat)} {w : World} {v : Value} {a : AV} (h : ARep G toks w v a) (ha : a.one = true) : v.oneCell' = true ∧ v.cells = #[v] := by
  cases h with
  | v h => exact ⟨h.oneCell, h.cells⟩
  | own ht hle h hr => exact ⟨h.oneCell, h.cells⟩
  | vac ht h hr => exact ⟨h.oneCell, h.cells⟩
  | ptr h => exact ⟨rfl, rfl⟩
  | bsl h hc => exact ⟨rfl, rfl⟩
  | optr h => exact ⟨rfl, rfl⟩
  | eptr u hc hp => exact ⟨rfl, rfl⟩
  | fn h1 h2 h3 h4 => exact ⟨rfl, rfl⟩
  | _ => simp [AV.one] at ha

/-! ### states -/

def BoxOK (G : Gh) (toks : List (Option Nat)) (w : World) (lim : Nat → Nat) (blk : Nat) (cs : List AV) : Prop :=
  ∃ cells elem, w.heap[blk]? = some (.cells cells elem (0, 0)) ∧ cells.size = cs.length ∧ (∀ (j : Nat) v a, cells[j]? = some v → cs[j]? = some a → v.oneCell' = true ∧ ARep G toks w v a) ∧ lim blk = 0

/-- The callers' boxes know nothing of ours. -/
def Gh.low (G : Gh) : Gh := { G with bs := [], tb := [] }

/-- Memory, as the call began it, and as it is. -/
structure Frame0 (w0 : World) (lim0 : Nat → Nat) (O : Nat → Prop) (w : World) (lim : Nat → Nat) : Prop where
  size : w0.heap.size ≤ w.heap.size
  os : w.os = w0.os
  tape : w.tape = w0.tape
  output : w.output = w0.output
  blk : ∀ b, b < w0.heap.size → ¬ O b → w.heap[b]? = w0.heap[b]? ∧ lim b = lim0 b
  grow : Grow lim0 w0 lim w
  above : ∀ b, w.heap.size ≤ b → lim b = 0

theorem Frame0.refl (w : World) (lim : Nat → Nat) (O : Nat → Prop) (h : ∀ b, w.heap.size ≤ b → lim b = 0) : Frame0 w lim O w lim :=
  ⟨Nat.le_refl _, rfl, rfl, rfl, fun _ _ _ => ⟨rfl, rfl⟩, Grow.refl _ _, h⟩

structure Inv (w0 : World) (lim0 : Nat → Nat) (O : Nat → Prop) (G : Gh) (toks : List (Option Nat)) (outer heap : List (List AV)) (w : World) : Prop where
  frame : Frame0 w0 lim0 O w G.lim
  hb : G.bs.length = heap.length
  ho : G.obs.length = outer.length
  box : ∀ (i : Nat) blk cs, G.bs[i]? = some blk → heap[i]? = some cs → BoxOK G toks w G.lim blk cs
  obox : ∀ (i : Nat) blk cs, G.obs[i]? = some blk → outer[i]? = some cs → BoxOK G.low [] w G.lim blk cs
  nodup : (G.obs ++ G.bs).Nodup
  bnew : ∀ blk ∈ G.bs, w0.heap.size ≤ blk
  oold : ∀ blk ∈ G.obs, O blk
  tlen : G.tb.length = toks.length
  tok : ∀ (t b : Nat) n, G.tb[t]? = some (some b) → toks[t]? = some (some n) → b ∉ G.obs ++ G.bs ∧ b < w.heap.size ∧ (b < w0.heap.size → O b)
  tdis : ∀ (t t' b : Nat) n n', G.tb[t]? = some (some b) → G.tb[t']? = some (some b) → toks[t]? = some (some n) → toks[t']? = some (some n') → t = t'

theorem Inv.blk_lt {w0 : World} {lim0 : Nat → Nat} {O : Nat → Prop} {G : Gh} {toks : List (Option Nat)} {outer heap : List (List AV)} {w : World} (h : Inv w0 lim0 O G toks outer heap w)
    {blk : Nat} (hb : blk ∈ G.obs ++ G.bs) : blk < w.heap.size ∧ G.lim blk = 0 := by
  have key : ∀ {G' : Gh} {tk cs}, BoxOK G' tk w G.lim blk cs → blk < w.heap.size ∧ G.lim blk = 0 := by
    rintro G' tk cs ⟨cells, elem, h1, _, _, h4⟩
    exact ⟨(Array.getElem?_eq_some_iff.1 h1).1, h4⟩
  rcases List.mem_append.1 hb with hb | hb
  · obtain ⟨i, hi⟩ := List.mem_iff_getElem?.1 hb
    have hlt : i < outer.length := by rw [← h.ho]; exact (List.getElem?_eq_some_iff.1 hi).1
    exact key (h.obox i blk _ hi (List.getElem?_eq_getElem hlt))
  · obtain ⟨i, hi⟩ := List.mem_iff_getElem?.1 hb
    have hlt : i < heap.length := by rw [← h.hb]; exact (List.getElem?_eq_some_iff.1 hi).1
    exact key (h.box i blk _ hi (List.getElem?_eq_getElem hlt))

end Go.Ab
