/-
The laws of chapter 18.
-/
import Derived.Test.YtimkgalclegffaaPush
namespace Go.Ab.S1
open Go Go.Proofs Go.Ab

theorem nodes_mono : ∀ (l : List Co) (n m : Int), n ≤ m → nodesIn l n ≤ nodesIn l m
  | [], n, m, h => by simpa [nodesIn] using h
  | c :: l, n, m, h => by unfold nodesIn; exact nodes_mono l _ _ (by omega)

mutual
theorem rdown_ev : ∀ (c : Co) (b : Bool), c.ok → right c = true → nodes c ≤ 1000 → EvF Try.prog prim 35 [.agg c.row, .v (.bool (!b))] [] [] [.agg (down c b).row] []
  | .mk k a o m v l, b, h, hr, hn => by
    have ht := rt_of hr
    simp only [Co.ok] at h
    unfold nodes at hn
    have hlen := nodes_len l 1
    cases ht with
    | yes =>
      cases b with
      | false => exact F35.p0 1 0 0 0 0 [] true rfl rfl
      | true => exact F35.p1 1 0 0 0 0 [] false rfl rfl
    | @not c hrc =>
      have hev := rdown_ev c (!b) h.2.2.2.2.2.2.1 hrc (by have := nodesIn_pos [] (1 + nodes c); simp [nodesIn] at hn; omega)
      rw [down_not]
      cases hd : down c (!b) with
      | mk k2 a2 o2 m2 v2 l2 =>
        rw [hd] at hev
        cases c with
        | mk k' a' o' m' v' l' => exact F35.p2 2 0 0 0 0 _ (!b) k' a' o' m' v' (rows l') k2 a2 o2 m2 v2 (rows l2) rfl rfl rfl hev
    | all hrl =>
      rw [down_all]
      cases b with
      | false => exact F35.p5 3 0 0 0 0 (rows l) true rfl rfl rfl rfl (in64 (by omega) (by omega)) (rkids_loop l 3 0 0 0 0 l 0 false 4 [] (by simp) (by omega) h.2.2.2.2.2.2 hrl (by simp) (by omega) hn)
      | true => exact F35.p6 3 0 0 0 0 (rows l) false rfl rfl rfl rfl (rkids_loop l 3 0 0 0 0 l 0 true 3 [] (by simp) (by omega) h.2.2.2.2.2.2 hrl (by simp) (by omega) hn)
    | some hrl =>
      rw [down_some]
      cases b with
      | false => exact F35.p5 4 0 0 0 0 (rows l) true rfl rfl rfl rfl (in64 (by omega) (by omega)) (rkids_loop l 4 0 0 0 0 l 0 false 3 [] (by simp) (by omega) h.2.2.2.2.2.2 hrl (by simp) (by omega) hn)
      | true => exact F35.p6 4 0 0 0 0 (rows l) false rfl rfl rfl rfl (rkids_loop l 4 0 0 0 0 l 0 true 4 [] (by simp) (by omega) h.2.2.2.2.2.2 hrl (by simp) (by omega) hn)
    | atom hm =>
      cases b with
      | false => exact F35.p3 5 a o m v [] true (opp o) rfl rfl rfl rfl (rother_ev (may_of hm).2)
      | true => exact F35.p4 5 a o m v [] false rfl rfl rfl rfl
theorem rkids_loop : ∀ (l : List Co) (k a o m v : Int) (L : List Co) (i : Nat) (b : Bool) (q : Int) (out : List Co), L.drop i = l → i ≤ L.length → oks l → rights l = true → out.length = i → L.length ≤ 1000 → nodesIn l 1 ≤ 1000 →
    EvK Try.prog prim Try.f35 (loopAt Try.f35 0) (F35.h0 k a o m v (rows L) (!b) q i (rows out)) [.agg [.int .i64 q, .int .i64 0, .int .i64 0, .int .u64 0, .int .u64 0, .sl (rows (out ++ downs l b))]] []
  | [], k, a, o, m, v, L, i, b, q, out, hl, hi, hk, hr, ho, hL, hn => by
    have := drop_end hi hl
    have := F35.l0_8 k a o m v (rows L) (!b) q i (rows out) (by rw [rows_len]; simp; omega)
    simpa [downs] using this
  | c :: l, k, a, o, m, v, L, i, b, q, out, hl, hi, hk, hr, ho, hL, hn => by
    obtain ⟨hc, hl', hlt⟩ := drop_get hl
    obtain ⟨hck, hlk⟩ := hk
    simp only [rights, Bool.and_eq_true] at hr
    have hn' := hn
    unfold nodesIn at hn'
    have h1 := nodes_pos c
    have h2 := nodesIn_pos l (1 + nodes c)
    have hev := rdown_ev c b hck hr.1 (by omega)
    have hrec := rkids_loop l k a o m v L (i + 1) b q (out ++ [down c b]) hl' (by omega) hlk hr.2 (by simp [ho]) hL (by
      have := nodes_mono l 1 (1 + nodes c) (by omega)
      omega)
    have hget := rows_get hc
    rw [rows_app, List.append_assoc] at hrec
    have e : rows [down c b] = [(down c b).row] := rfl
    rw [e] at hrec
    have hout : (rows out).length = i := by rw [rows_len, ho]
    have h6 : ∀ r ∈ rows out ++ [(down c b).row], r.length = 6 := by rw [← e, ← rows_app]; exact rows_six
    cases hd : down c b with
    | mk k2 a2 o2 m2 v2 l2 =>
      rw [hd] at hev hrec h6
      cases c with
      | mk k' a' o' m' v' l' =>
        have := F35.l0_7 k a o m v (rows L) (!b) q i (rows out) k' a' o' m' v' (rows l') k2 a2 o2 m2 v2 (rows l2) (by rw [rows_len]; simp; omega) (by omega) (by simpa [Co.row] using hget) (by simp [hout]; omega) h6 (in64 (by omega) (by omega)) hev hrec
        simpa [downs, hd] using this
end

/-- Nots taken down, of any condition. -/
def push (c : Co) : Co := if right c then down c true else .mk 4 0 0 0 0 []

theorem push_of {c : Co} (h : right c = true) : push c = down c true := by simp [push, h]

theorem push_ok {c : Co} (h : c.ok) : (push c).ok := by
  unfold push
  split
  · exact down_ok c true h ‹_›
  · exact no_ok

theorem push_ev {c : Co} (h : c.ok) (hn : nodes c ≤ 1000) : EvF Try.prog prim 14 [.agg c.row] [] [] [.agg (push c).row] [] := by
  have hr := sright_ev c h
  cases hb : right c with
  | false =>
    rw [hb] at hr
    have e : push c = .mk 4 0 0 0 0 [] := by simp [push, hb]
    rw [e]
    cases c with
    | mk k a o m v l => exact F14.p0 k a o m v (rows l) false rfl hr
  | true =>
    have hd := down_ev c true h hb hn
    rw [hb] at hr
    rw [push_of hb]
    cases hx : down c true with
    | mk k2 a2 o2 m2 v2 l2 =>
      rw [hx] at hd
      cases c with
      | mk k a o m v l => exact F14.p1 k a o m v (rows l) true k2 a2 o2 m2 v2 (rows l2) rfl hr hd

theorem rpush_ev {c : Co} (h : c.ok) (hn : nodes c ≤ 1000) : EvF Try.prog prim 16 [.agg c.row] [] [] [.agg (push c).row] [] := by
  have hr := right_ev c h
  cases hb : right c with
  | false =>
    rw [hb] at hr
    have e : push c = .mk 4 0 0 0 0 [] := by simp [push, hb]
    rw [e]
    cases c with
    | mk k a o m v l => exact F16.p0 k a o m v (rows l) false rfl hr
  | true =>
    have hd := rdown_ev c true h hb hn
    rw [hb] at hr
    rw [push_of hb]
    cases hx : down c true with
    | mk k2 a2 o2 m2 v2 l2 =>
      rw [hx] at hd
      cases c with
      | mk k a o m v l => exact F16.p1 k a o m v (rows l) true k2 a2 o2 m2 v2 (rows l2) rfl hr hd

theorem alive18 : EvF Try.prog prim 12 [] [] [] [.v (.bool true)] [] := by
  have c : (Co.mk 2 0 0 0 0 [.mk 5 0 1 0 0 []]).ok := leaf_ok (by omega) (by omega) (by omega) (by omega) (by omega) (by decide) ⟨leaf_ok (by omega) (by omega) (by omega) (by omega) (by omega) (by decide) trivial, trivial⟩
  have h0 := push_ev c (by decide +kernel)
  have h1 := push_ev yes_ok (by decide +kernel)
  have r0 : right (.mk 2 0 0 0 0 [.mk 5 0 1 0 0 []]) = true := by decide +kernel
  rw [push_of r0] at h0
  rw [push_of right_yes] at h1
  exact F12.p0 5 0 2 0 0 [] 1 0 0 0 0 [] h0 h1

theorem few_le {c : Co} (h : few c = true) : nodes c ≤ 200 := by
  have h1 : csize c 0 ≤ 200 := by simpa [few] using h
  have := few_nodes c 0 (by omega)
  omega

theorem pushTells (c : Co) (h : c.ok) : EvF Try.prog prim 3 [.agg c.row] [] [] [.v (.bool true)] [] := by
  have hf := few_ev c h
  cases hb : few c with
  | false =>
    rw [hb] at hf
    cases c with
    | mk k a o m v l => exact F3.p0 k a o m v (rows l) true false rfl alive18 fun _ => hf
  | true =>
    have hn := few_le hb
    rw [hb] at hf
    have h1 := push_ev h (by omega)
    have h2 := rpush_ev h (by omega)
    have h3 := same_ev (push c) (push_ok h)
    have h4 := none_ev (push c) (push_ok h)
    have e : noNot (push c) = true := by
      unfold push
      split
      · exact down_noNot c true ‹_›
      · rfl
    rw [e] at h4
    generalize push c = p at h1 h2 h3 h4
    cases p with
    | mk k2 a2 o2 m2 v2 l2 => cases c with
      | mk k a o m v l => exact F3.p1 k a o m v (rows l) true true k2 a2 o2 m2 v2 (rows l2) k2 a2 o2 m2 v2 (rows l2) true true rfl alive18 (fun _ => hf) h1 h2 h3 (fun _ => h4)

theorem pushMeans (c : Co) (x : Six) (h : c.ok) : EvF Try.prog prim 4 [.agg c.row, .agg x.pv] [] [] [.v (.bool true)] [] := by
  have hf := few_ev c h
  have hr := right_ev c h
  by_cases hall : (bif (bif (!true) then true else (!few c)) then true else (!right c)) = true
  · cases c with
    | mk k a o m v l => exact F4.p0 k a o m v (rows l) x.a0 x.a1 x.a2 x.a3 x.a4 x.a5 true _ _ hall alive18 (fun _ => hf) (fun _ => hr)
  · have hall : (bif (bif (!true) then true else (!few c)) then true else (!right c)) = false := by simpa using hall
    have hfc : few c = true := by cases h1 : few c <;> cases h2 : right c <;> simp_all
    have hrc : right c = true := by cases h1 : few c <;> cases h2 : right c <;> simp_all
    have hn := few_le hfc
    have h1 := push_ev h (by omega)
    have h2 := ref_holds x (push c) (push_ok h)
    have h3 := ref_holds x c h
    have h4 := none_ev c h
    have e : holds x (push c) = holds x c := by
      rw [push_of hrc]
      simp [holds, hrc, down_right c true hrc, down_hold x c true hrc]
    rw [e] at h2
    have h5 : noNot c = true → EvF Try.prog prim 15 [.agg (push c).row, .agg c.row] [] [] [.v (.bool true)] [] := by
      intro hno
      rw [push_of hrc, down_same c hrc hno]
      exact same_ev c h
    generalize noNot c = b at h4 h5
    generalize holds x c = g at h2 h3
    generalize push c = p at h1 h2 h5
    cases p with
    | mk k2 a2 o2 m2 v2 l2 => cases c with
      | mk k a o m v l =>
        have := F4.p1 k a o m v (rows l) x.a0 x.a1 x.a2 x.a3 x.a4 x.a5 true _ _ k2 a2 o2 m2 v2 (rows l2) g g b true hall alive18 (fun _ => hf) (fun _ => hr) h1 h2 h3 (fun _ => h4) (fun hc => h5 (by cases b <;> simp_all))
        have e : (bif (g == g) then (bif (!b) then true else true) else false) = true := by cases g <;> cases b <;> rfl
        rw [e] at this
        exact this

theorem pushTwice (a b : Co) (ha : a.ok) (hb : b.ok) : EvF Try.prog prim 5 [.agg a.row, .agg b.row] [] [] [.v (.bool true)] [] := by
  have fa := few_ev a ha
  have fb := few_ev b hb
  have ra := right_ev a ha
  have rb := right_ev b hb
  by_cases hall : (bif (bif (bif (bif (!true) then true else (!few a)) then true else (!few b)) then true else (!right a)) then true else (!right b)) = true
  · cases a with
    | mk k1 a1 o1 m1 v1 l1 => cases b with
      | mk k2 a2 o2 m2 v2 l2 => exact F5.p0 k1 a1 o1 m1 v1 (rows l1) k2 a2 o2 m2 v2 (rows l2) true _ _ _ _ hall alive18 (fun _ => fa) (fun _ => fb) (fun _ => ra) (fun _ => rb)
  · have hall : (bif (bif (bif (bif (!true) then true else (!few a)) then true else (!few b)) then true else (!right a)) then true else (!right b)) = false := by simpa using hall
    have hra : right a = true := by cases h1 : few a <;> cases h2 : few b <;> cases h3 : right a <;> simp_all
    have hrb : right b = true := by cases h1 : few a <;> cases h2 : few b <;> cases h3 : right b <;> simp_all
    have hfa : few a = true := by cases h1 : few a <;> cases h2 : few b <;> simp_all
    have hfb : few b = true := by cases h1 : few a <;> cases h2 : few b <;> simp_all
    have na := few_le hfa
    have nb := few_le hfb
    have pa := nodes_pos a
    have pb := nodes_pos b
    have oka : (Co.mk 2 0 0 0 0 [a]).ok := leaf_ok (by omega) (by omega) (by omega) (by omega) (by omega) (by simp) ⟨ha, trivial⟩
    have okb : (Co.mk 2 0 0 0 0 [b]).ok := leaf_ok (by omega) (by omega) (by omega) (by omega) (by omega) (by simp) ⟨hb, trivial⟩
    have r1 : right (.mk 2 0 0 0 0 [a]) = true := by simp [right, plainB, zeroB, rights, hra]
    have r2 : right (.mk 2 0 0 0 0 [b]) = true := by simp [right, plainB, zeroB, rights, hrb]
    have n1 : nodes (.mk 2 0 0 0 0 [a]) = 1 + nodes a := by simp [nodes, nodesIn]
    have n2 : nodes (.mk 2 0 0 0 0 [b]) = 1 + nodes b := by simp [nodes, nodesIn]
    have oky : (Co.mk 3 0 0 0 0 [a, b]).ok := leaf_ok (by omega) (by omega) (by omega) (by omega) (by omega) (by simp) ⟨ha, hb, trivial⟩
    have ry : right (.mk 3 0 0 0 0 [a, b]) = true := by simp [right, plainB, zeroB, rights, hra, hrb]
    have ny : nodes (.mk 3 0 0 0 0 [a, b]) = 1 + nodes a + nodes b := by simp [nodes, nodesIn]
    have okx : (Co.mk 2 0 0 0 0 [.mk 2 0 0 0 0 [a]]).ok := leaf_ok (by omega) (by omega) (by omega) (by omega) (by omega) (by simp) ⟨oka, trivial⟩
    have rx : right (.mk 2 0 0 0 0 [.mk 2 0 0 0 0 [a]]) = true := by simp only [right, plainB, zeroB, rights, Bool.and_true] at r1 ⊢; simp [r1, hra]
    have nx : nodes (.mk 2 0 0 0 0 [.mk 2 0 0 0 0 [a]]) = 2 + nodes a := by simp [nodes, nodesIn] at n1 ⊢; omega
    have oky' : (Co.mk 2 0 0 0 0 [.mk 3 0 0 0 0 [a, b]]).ok := leaf_ok (by omega) (by omega) (by omega) (by omega) (by omega) (by simp) ⟨oky, trivial⟩
    have ry' : right (.mk 2 0 0 0 0 [.mk 3 0 0 0 0 [a, b]]) = true := by simp [right, plainB, zeroB, rights, hra, hrb]
    have ny' : nodes (.mk 2 0 0 0 0 [.mk 3 0 0 0 0 [a, b]]) = 2 + nodes a + nodes b := by simp [nodes, nodesIn]; omega
    have okz : (Co.mk 4 0 0 0 0 [.mk 2 0 0 0 0 [a], .mk 2 0 0 0 0 [b]]).ok := leaf_ok (by omega) (by omega) (by omega) (by omega) (by omega) (by simp) ⟨oka, okb, trivial⟩
    have rz : right (.mk 4 0 0 0 0 [.mk 2 0 0 0 0 [a], .mk 2 0 0 0 0 [b]]) = true := by simp [right, plainB, zeroB, rights, hra, hrb]
    have nz : nodes (.mk 4 0 0 0 0 [.mk 2 0 0 0 0 [a], .mk 2 0 0 0 0 [b]]) = 3 + nodes a + nodes b := by simp [nodes, nodesIn]; omega
    have hx := push_ev okx (by omega)
    have hy := push_ev oky' (by omega)
    have hz := push_ev okz (by omega)
    have hw := push_ev ha (by omega)
    rw [push_of rx] at hx
    rw [push_of ry'] at hy
    rw [push_of rz] at hz
    rw [push_of hra] at hw
    have ex : down (.mk 2 0 0 0 0 [.mk 2 0 0 0 0 [a]]) true = down a true := rfl
    have ey : down (.mk 2 0 0 0 0 [.mk 3 0 0 0 0 [a, b]]) true = .mk 4 0 0 0 0 [down a false, down b false] := rfl
    have ez : down (.mk 4 0 0 0 0 [.mk 2 0 0 0 0 [a], .mk 2 0 0 0 0 [b]]) true = .mk 4 0 0 0 0 [down a false, down b false] := rfl
    have h9 := same_ev (down a true) (down_ok a true ha hra)
    have h10 := same_ev _ (down_ok _ true okz rz)
    rw [ex] at hx
    rw [ey] at hy
    rw [ez] at hz h10
    generalize down a true = p at hx hw h9
    generalize rows [down a false, down b false] = q at hy hz h10
    cases p with
    | mk k3 a3 o3 m3 v3 l3 => cases a with
      | mk k1 a1 o1 m1 v1 l1 => cases b with
        | mk k2 a2 o2 m2 v2 l2 =>
          exact F5.p1 k1 a1 o1 m1 v1 (rows l1) k2 a2 o2 m2 v2 (rows l2) true _ _ _ _ k3 a3 o3 m3 v3 (rows l3) 4 0 0 0 0 (rows [down (.mk k1 a1 o1 m1 v1 l1) false, down (.mk k2 a2 o2 m2 v2 l2) false]) 4 0 0 0 0 (rows [down (.mk k1 a1 o1 m1 v1 l1) false, down (.mk k2 a2 o2 m2 v2 l2) false]) k3 a3 o3 m3 v3 (rows l3) true true hall alive18 (fun _ => fa) (fun _ => fb) (fun _ => ra) (fun _ => rb) hx hy hz hw h9 (fun _ => h10)

end Go.Ab.S1
