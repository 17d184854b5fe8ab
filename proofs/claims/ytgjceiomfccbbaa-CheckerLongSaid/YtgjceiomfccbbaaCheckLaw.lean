/-
Which filters are refused, and where; what becomes of more, and of less.
-/
import Derived.Test.YtgjceiomfccbbaaCheck
import Derived.Test.YtgjceiomfccbbaaRF
namespace Go.Ab.S3
open Go Go.Proofs Go.Ab

theorem y64 : inR .i64 0 := in64 (by decide) (by decide)
theorem k64 : inR .i64 6 := in64 (by decide) (by decide)

theorem alive4 : EvF Try.prog prim 22 [] [] [] [.v (.bool true)] [] := by
  have h0 := check_ev [] (by decide) (by simp)
  have h1 := check_ev [⟨6, 0, 0, 0⟩] (by decide) (by intro q hq; rw [List.mem_singleton] at hq; subst hq; exact ⟨k64, in64 (by decide) (by decide), in64 (by decide) (by decide), inW (by decide) (by decide)⟩)
  have e0 : checkF [] = (0, false) := by decide +kernel
  have e1 : checkF [⟨6, 0, 0, 0⟩] = (-1, true) := by decide +kernel
  rw [e0] at h0
  rw [e1] at h1
  exact F22.p0 0 false (-1) true h0 h1

def okB (q : In) : Bool := decide (-9223372036854775808 ≤ q.code ∧ q.code ≤ 9223372036854775807 ∧ -9223372036854775808 ≤ q.jt ∧ q.jt ≤ 9223372036854775807 ∧ -9223372036854775808 ≤ q.jf ∧ q.jf ≤ 9223372036854775807 ∧ 0 ≤ q.k ∧ q.k ≤ 4294967295)
theorem okB_ok {q : In} (h : okB q = true) : q.ok := by
  obtain ⟨a, b, c, d, e, f, g, i⟩ := of_decide_eq_true h
  exact ⟨in64 a b, in64 c d, in64 e f, inW g i⟩

theorem checkerWrong (w : Int) : EvF Try.prog prim 5 [.v (.int .i64 w)] [] [] [.v (.bool true)] [] := by
  by_cases h : w < 0 ∨ w ≥ 24
  · exact F5.p0 w true (by rcases h with h | h <;> simp [h]) alive4
  have g : (bif (bif (!true) then true else (decide (w < 0))) then true else (decide (w ≥ 24))) = false := by
    have h1 : ¬ w < 0 := by omega
    have h2 : ¬ w ≥ 24 := by omega
    simp [h1, h2]
  have h0 : 0 ≤ w := by omega
  have key : ∀ (l : List In) (a : Int), l.all okB = true → l.length < 1000000 → checkF l = (a, decide (a < 0)) →
      ([[.sl [[.int .i64 6, .int .i64 0, .int .i64 0, .int .u32 0]]], [.sl [[.int .i64 22, .int .i64 0, .int .i64 0, .int .u32 0]]], [.sl [[.int .i64 0, .int .i64 0, .int .i64 0, .int .u32 0]]], [.sl [[.int .i64 32, .int .i64 0, .int .i64 0, .int .u32 60], [.int .i64 6, .int .i64 0, .int .i64 0, .int .u32 0]]], [.sl [[.int .i64 32, .int .i64 0, .int .i64 0, .int .u32 64], [.int .i64 6, .int .i64 0, .int .i64 0, .int .u32 0]]], [.sl [[.int .i64 32, .int .i64 0, .int .i64 0, .int .u32 2], [.int .i64 6, .int .i64 0, .int .i64 0, .int .u32 0]]], [.sl [[.int .i64 40, .int .i64 0, .int .i64 0, .int .u32 0], [.int .i64 6, .int .i64 0, .int .i64 0, .int .u32 0]]], [.sl [[.int .i64 2, .int .i64 0, .int .i64 0, .int .u32 15], [.int .i64 6, .int .i64 0, .int .i64 0, .int .u32 0]]], [.sl [[.int .i64 2, .int .i64 0, .int .i64 0, .int .u32 16], [.int .i64 6, .int .i64 0, .int .i64 0, .int .u32 0]]], [.sl [[.int .i64 96, .int .i64 0, .int .i64 0, .int .u32 3], [.int .i64 6, .int .i64 0, .int .i64 0, .int .u32 0]]], [.sl [[.int .i64 2, .int .i64 0, .int .i64 0, .int .u32 3], [.int .i64 96, .int .i64 0, .int .i64 0, .int .u32 3], [.int .i64 6, .int .i64 0, .int .i64 0, .int .u32 0]]], [.sl [[.int .i64 52, .int .i64 0, .int .i64 0, .int .u32 0], [.int .i64 6, .int .i64 0, .int .i64 0, .int .u32 0]]], [.sl [[.int .i64 60, .int .i64 0, .int .i64 0, .int .u32 0], [.int .i64 6, .int .i64 0, .int .i64 0, .int .u32 0]]], [.sl [[.int .i64 100, .int .i64 0, .int .i64 0, .int .u32 31], [.int .i64 6, .int .i64 0, .int .i64 0, .int .u32 0]]], [.sl [[.int .i64 116, .int .i64 0, .int .i64 0, .int .u32 32], [.int .i64 6, .int .i64 0, .int .i64 0, .int .u32 0]]], [.sl [[.int .i64 5, .int .i64 0, .int .i64 0, .int .u32 0], [.int .i64 6, .int .i64 0, .int .i64 0, .int .u32 0]]], [.sl [[.int .i64 5, .int .i64 0, .int .i64 0, .int .u32 1], [.int .i64 6, .int .i64 0, .int .i64 0, .int .u32 0]]], [.sl [[.int .i64 21, .int .i64 1, .int .i64 0, .int .u32 0], [.int .i64 6, .int .i64 0, .int .i64 0, .int .u32 0], [.int .i64 6, .int .i64 0, .int .i64 0, .int .u32 0]]], [.sl [[.int .i64 21, .int .i64 0, .int .i64 2, .int .u32 0], [.int .i64 6, .int .i64 0, .int .i64 0, .int .u32 0], [.int .i64 6, .int .i64 0, .int .i64 0, .int .u32 0]]], [.sl [[.int .i64 6, .int .i64 0, .int .i64 0, .int .u32 0], [.int .i64 132, .int .i64 0, .int .i64 0, .int .u32 0]]], [.sl [[.int .i64 21, .int .i64 1, .int .i64 0, .int .u32 0], [.int .i64 2, .int .i64 0, .int .i64 0, .int .u32 0], [.int .i64 96, .int .i64 0, .int .i64 0, .int .u32 0], [.int .i64 6, .int .i64 0, .int .i64 0, .int .u32 0]]], [.sl [[.int .i64 21, .int .i64 (-1), .int .i64 0, .int .u32 0], [.int .i64 6, .int .i64 0, .int .i64 0, .int .u32 0]]], [.sl [[.int .i64 5, .int .i64 0, .int .i64 0, .int .u32 4294967295], [.int .i64 6, .int .i64 0, .int .i64 0, .int .u32 0]]], [.sl [[.int .i64 5, .int .i64 0, .int .i64 0, .int .u32 1], [.int .i64 96, .int .i64 0, .int .i64 0, .int .u32 0], [.int .i64 6, .int .i64 0, .int .i64 0, .int .u32 0]]]] : List (List PV))[Int.toNat w]? = some [.sl (l.map In.row)] →
      ([[.int .i64 (-1)], [.int .i64 (-1)], [.int .i64 0], [.int .i64 (-1)], [.int .i64 0], [.int .i64 0], [.int .i64 0], [.int .i64 (-1)], [.int .i64 0], [.int .i64 0], [.int .i64 (-1)], [.int .i64 0], [.int .i64 (-1)], [.int .i64 (-1)], [.int .i64 0], [.int .i64 (-1)], [.int .i64 0], [.int .i64 (-1)], [.int .i64 0], [.int .i64 1], [.int .i64 2], [.int .i64 0], [.int .i64 0], [.int .i64 (-1)]] : List (List PV))[Int.toNat w]? = some [.int .i64 a] →
      EvF Try.prog prim 5 [.v (.int .i64 w)] [] [] [.v (.bool true)] [] := by
    intro l a hok hl hc e1 e2
    have hck := check_ev l hl (fun q hq => okB_ok (List.all_eq_true.1 hok q hq))
    rw [hc] at hck
    have := F5.p1 w true (l.map In.row) a (decide (a < 0)) a g h0 e1 e2 (fun _ => h0) (fun _ => e2) alive4 hck
    have e : (bif (a == a) then (decide (a < 0) == (decide (a < 0))) else false) = true := by simp
    rw [e] at this
    exact this
  have hw : w = 0 ∨ w = 1 ∨ w = 2 ∨ w = 3 ∨ w = 4 ∨ w = 5 ∨ w = 6 ∨ w = 7 ∨ w = 8 ∨ w = 9 ∨ w = 10 ∨ w = 11 ∨ w = 12 ∨ w = 13 ∨ w = 14 ∨ w = 15 ∨ w = 16 ∨ w = 17 ∨ w = 18 ∨ w = 19 ∨ w = 20 ∨ w = 21 ∨ w = 22 ∨ w = 23 := by omega
  rcases hw with rfl | rfl | rfl | rfl | rfl | rfl | rfl | rfl | rfl | rfl | rfl | rfl | rfl | rfl | rfl | rfl | rfl | rfl | rfl | rfl | rfl | rfl | rfl | rfl
  · exact key [⟨6, 0, 0, 0⟩] (-1) (by decide +kernel) (by decide) (by decide +kernel) rfl rfl
  · exact key [⟨22, 0, 0, 0⟩] (-1) (by decide +kernel) (by decide) (by decide +kernel) rfl rfl
  · exact key [⟨0, 0, 0, 0⟩] 0 (by decide +kernel) (by decide) (by decide +kernel) rfl rfl
  · exact key [⟨32, 0, 0, 60⟩, ⟨6, 0, 0, 0⟩] (-1) (by decide +kernel) (by decide) (by decide +kernel) rfl rfl
  · exact key [⟨32, 0, 0, 64⟩, ⟨6, 0, 0, 0⟩] 0 (by decide +kernel) (by decide) (by decide +kernel) rfl rfl
  · exact key [⟨32, 0, 0, 2⟩, ⟨6, 0, 0, 0⟩] 0 (by decide +kernel) (by decide) (by decide +kernel) rfl rfl
  · exact key [⟨40, 0, 0, 0⟩, ⟨6, 0, 0, 0⟩] 0 (by decide +kernel) (by decide) (by decide +kernel) rfl rfl
  · exact key [⟨2, 0, 0, 15⟩, ⟨6, 0, 0, 0⟩] (-1) (by decide +kernel) (by decide) (by decide +kernel) rfl rfl
  · exact key [⟨2, 0, 0, 16⟩, ⟨6, 0, 0, 0⟩] 0 (by decide +kernel) (by decide) (by decide +kernel) rfl rfl
  · exact key [⟨96, 0, 0, 3⟩, ⟨6, 0, 0, 0⟩] 0 (by decide +kernel) (by decide) (by decide +kernel) rfl rfl
  · exact key [⟨2, 0, 0, 3⟩, ⟨96, 0, 0, 3⟩, ⟨6, 0, 0, 0⟩] (-1) (by decide +kernel) (by decide) (by decide +kernel) rfl rfl
  · exact key [⟨52, 0, 0, 0⟩, ⟨6, 0, 0, 0⟩] 0 (by decide +kernel) (by decide) (by decide +kernel) rfl rfl
  · exact key [⟨60, 0, 0, 0⟩, ⟨6, 0, 0, 0⟩] (-1) (by decide +kernel) (by decide) (by decide +kernel) rfl rfl
  · exact key [⟨100, 0, 0, 31⟩, ⟨6, 0, 0, 0⟩] (-1) (by decide +kernel) (by decide) (by decide +kernel) rfl rfl
  · exact key [⟨116, 0, 0, 32⟩, ⟨6, 0, 0, 0⟩] 0 (by decide +kernel) (by decide) (by decide +kernel) rfl rfl
  · exact key [⟨5, 0, 0, 0⟩, ⟨6, 0, 0, 0⟩] (-1) (by decide +kernel) (by decide) (by decide +kernel) rfl rfl
  · exact key [⟨5, 0, 0, 1⟩, ⟨6, 0, 0, 0⟩] 0 (by decide +kernel) (by decide) (by decide +kernel) rfl rfl
  · exact key [⟨21, 1, 0, 0⟩, ⟨6, 0, 0, 0⟩, ⟨6, 0, 0, 0⟩] (-1) (by decide +kernel) (by decide) (by decide +kernel) rfl rfl
  · exact key [⟨21, 0, 2, 0⟩, ⟨6, 0, 0, 0⟩, ⟨6, 0, 0, 0⟩] 0 (by decide +kernel) (by decide) (by decide +kernel) rfl rfl
  · exact key [⟨6, 0, 0, 0⟩, ⟨132, 0, 0, 0⟩] 1 (by decide +kernel) (by decide) (by decide +kernel) rfl rfl
  · exact key [⟨21, 1, 0, 0⟩, ⟨2, 0, 0, 0⟩, ⟨96, 0, 0, 0⟩, ⟨6, 0, 0, 0⟩] 2 (by decide +kernel) (by decide) (by decide +kernel) rfl rfl
  · exact key [⟨21, (-1), 0, 0⟩, ⟨6, 0, 0, 0⟩] 0 (by decide +kernel) (by decide) (by decide +kernel) rfl rfl
  · exact key [⟨5, 0, 0, 4294967295⟩, ⟨6, 0, 0, 0⟩] 0 (by decide +kernel) (by decide) (by decide +kernel) rfl rfl
  · exact key [⟨5, 0, 0, 1⟩, ⟨96, 0, 0, 0⟩, ⟨6, 0, 0, 0⟩] (-1) (by decide +kernel) (by decide) (by decide +kernel) rfl rfl

/-! ### what is let in -/

theorem ck_all (l : List In) : ∀ (k i : Nat) (st : List Int), i + k = l.length → ckF l k i st = -1 → ∀ (j : Nat) q, i ≤ j → l[j]? = some q → rightF l.length j q = true
  | 0, i, st, h, hc, j, q, hij, hq => by
    have := (List.getElem?_eq_some_iff.1 hq).1
    omega
  | k + 1, i, st, h, hc, j, q, hij, hq => by
    have hlt : i < l.length := by omega
    have hg := List.getElem?_eq_getElem hlt
    generalize l[i] = p at hg
    have hunf : ckF l (k + 1) i st = if refused l.length i p st then (i : Int) else ckF l k (i + 1) ((nextI p i).foldl (upd1 p i) st) := by
      show (match l[i]? with | none => -1 | some q => if refused l.length i q st then (i : Int) else ckF l k (i + 1) ((nextI q i).foldl (upd1 q i) st)) = _
      rw [hg]
    rw [hunf] at hc
    cases hb : refused l.length i p st with
    | true =>
      rw [hb, if_pos rfl] at hc
      omega
    | false =>
      rw [hb, if_neg (by simp)] at hc
      rcases Nat.lt_or_ge i j with h1 | h1
      · exact ck_all l k (i + 1) _ (by omega) hc j q h1 hq
      · have : j = i := by omega
        subst this
        rw [hg] at hq
        obtain rfl := Option.some.inj hq
        unfold refused at hb
        cases h : rightF l.length j p with
        | true => rfl
        | false => rw [h] at hb; simp at hb

theorem checkF_ok {l : List In} (h : (checkF l).2 = true) : 0 < l.length ∧ l.length ≤ 4096 ∧ ck l = -1 ∧ checkF l = (-1, true) ∧ ∀ (j : Nat) q, l[j]? = some q → rightF l.length j q = true := by
  unfold checkF at h ⊢
  cases hb : longB l with
  | true => rw [hb, if_pos rfl] at h; simp at h
  | false =>
    rw [hb, if_neg (by simp)] at h
    have hc : ck l = -1 := by simpa using h
    have := of_decide_eq_false hb
    refine ⟨by omega, by omega, hc, ?_, fun j q hq => ck_all l l.length 0 _ (by omega) hc j q (by omega) hq⟩
    rw [if_neg (by simp), hc]
    rfl

/-! ### more behind -/

theorem getD_left {st sx : List Int} {i : Nat} (h : i < st.length) : (st ++ sx).getD i 0 = st.getD i 0 := by
  rw [List.getD_eq_getElem?_getD, List.getD_eq_getElem?_getD, List.getElem?_append_left h]

theorem upds_app (q : In) (i : Nat) (sx : List Int) : ∀ (ns : List Int) (st : List Int), i < st.length → (∀ n ∈ ns, 0 ≤ n ∧ n < st.length) → ns.foldl (upd1 q i) (st ++ sx) = ns.foldl (upd1 q i) st ++ sx
  | [], st, _, _ => rfl
  | n :: ns, st, hi, hn => by
    have h1 := hn n (List.mem_cons_self ..)
    have e : upd1 q i (st ++ sx) n = upd1 q i st n ++ sx := by
      unfold upd1
      rw [getD_left hi, getD_left (by omega), List.set_append_left _ _ (by omega)]
    rw [List.foldl_cons, List.foldl_cons, e]
    exact upds_app q i sx ns _ (by rw [upd1_len]; exact hi) (fun m hm => by rw [upd1_len]; exact hn m (List.mem_cons_of_mem _ hm))

theorem ck_more (l ext : List In) (sx : List Int) (hlo : ∀ q ∈ l, q.ok) (hend : ∀ st : List Int, st.length = l.length → ckF (l ++ ext) ext.length l.length (st ++ sx) = -1) : ∀ (k i : Nat) (st : List Int), i + k = l.length → st.length = l.length → ckF l k i st = -1 → ckF (l ++ ext) (k + ext.length) i (st ++ sx) = -1
  | 0, i, st, h, hs, hc => by
    have : i = l.length := by omega
    subst this
    rw [Nat.zero_add]
    exact hend st hs
  | k + 1, i, st, h, hs, hc => by
    have hlt : i < l.length := by omega
    have hg := List.getElem?_eq_getElem hlt
    have hq := hlo _ (List.getElem_mem hlt)
    generalize l[i] = p at hg hq
    have hunf : ckF l (k + 1) i st = if refused l.length i p st then (i : Int) else ckF l k (i + 1) ((nextI p i).foldl (upd1 p i) st) := by
      show (match l[i]? with | none => -1 | some q => if refused l.length i q st then (i : Int) else ckF l k (i + 1) ((nextI q i).foldl (upd1 q i) st)) = _
      rw [hg]
    have hg2 : (l ++ ext)[i]? = some p := by rw [List.getElem?_append_left hlt]; exact hg
    have hunf2 : ckF (l ++ ext) (k + ext.length + 1) i (st ++ sx) = if refused (l ++ ext).length i p (st ++ sx) then (i : Int) else ckF (l ++ ext) (k + ext.length) (i + 1) ((nextI p i).foldl (upd1 p i) (st ++ sx)) := by
      show (match (l ++ ext)[i]? with | none => -1 | some q => if refused (l ++ ext).length i q (st ++ sx) then (i : Int) else ckF (l ++ ext) (k + ext.length) (i + 1) ((nextI q i).foldl (upd1 q i) (st ++ sx))) = _
      rw [hg2]
    have e1 : k + 1 + ext.length = k + ext.length + 1 := by omega
    rw [hunf] at hc
    cases hb : refused l.length i p st with
    | true => rw [hb, if_pos rfl] at hc; omega
    | false =>
      rw [hb, if_neg (by simp)] at hc
      have hR : rightF l.length i p = true := by
        unfold refused at hb
        cases h : rightF l.length i p with
        | true => rfl
        | false => rw [h] at hb; simp at hb
      obtain ⟨r1, r2, r3, r4, r5⟩ := right_of hR
      have hnn := next_nn (i := i) hq r2
      by_cases hext : ext = []
      · subst hext
        have hl : (l ++ []).length = l.length := by simp
        rw [e1, hunf2, hl]
        have hb2 : refused l.length i p (st ++ sx) = false := by
          unfold refused at hb ⊢
          rw [getD_left (by omega)]
          exact hb
        rw [hb2, if_neg (by simp), upds_app p i sx _ st (by omega) (fun n hn => ⟨by have := hnn n hn; omega, by rw [hs]; exact r5 n hn⟩)]
        exact ck_more l [] sx hlo hend k (i + 1) _ (by omega) (by rw [upds_len, hs]) hc
      have hx : 0 < ext.length := List.length_pos_iff.2 hext
      have hR2 : rightF (l ++ ext).length i p = true := by
        unfold rightF
        rw [r1, r2, r3]
        have hne : decide (i + 1 = (l ++ ext).length) = false := by
          rw [List.length_append]
          exact decide_eq_false (by omega)
        rw [hne]
        simp only [Bool.and_self, Bool.false_and, Bool.not_false, Bool.true_and, List.all_eq_true, decide_eq_true_eq]
        intro n hn
        have := r5 n hn
        rw [List.length_append]
        omega
      have hb2 : refused (l ++ ext).length i p (st ++ sx) = false := by
        unfold refused at hb ⊢
        rw [getD_left (by omega), hR2]
        rw [hR] at hb
        exact hb
      rw [e1, hunf2, hb2, if_neg (by simp), upds_app p i sx _ st (by omega) (fun n hn => ⟨by have := hnn n hn; omega, by rw [hs]; exact r5 n hn⟩)]
      exact ck_more l ext sx hlo hend k (i + 1) _ (by omega) (by rw [upds_len, hs]) hc

theorem ends_more (l : List In) (k : Int) (st : List Int) : ckF (l ++ [⟨132, 0, 0, 0⟩, ⟨6, 0, 0, k⟩]) 2 l.length st = -1 := by
  have hlen : (l ++ [(⟨132, 0, 0, 0⟩ : In), ⟨6, 0, 0, k⟩]).length = l.length + 2 := by simp
  have g0 : (l ++ [(⟨132, 0, 0, 0⟩ : In), ⟨6, 0, 0, k⟩])[l.length]? = some ⟨132, 0, 0, 0⟩ := by rw [List.getElem?_append_right (Nat.le_refl _), Nat.sub_self]; rfl
  have g1 : (l ++ [(⟨132, 0, 0, 0⟩ : In), ⟨6, 0, 0, k⟩])[l.length + 1]? = some ⟨6, 0, 0, k⟩ := by rw [List.getElem?_append_right (by omega)]; simp
  have r0 : ∀ st, refused (l.length + 2) l.length ⟨132, 0, 0, 0⟩ st = false := by
    intro st
    have n0 : nextI ⟨132, 0, 0, 0⟩ l.length = [(l.length : Int) + 1] := rfl
    have hR : rightF (l.length + 2) l.length ⟨132, 0, 0, 0⟩ = true := by
      unfold rightF
      rw [n0]
      have a1 : nameB 132 = true := by decide +kernel
      have a2 : rightX ⟨132, 0, 0, 0⟩ = true := by decide +kernel
      have a3 : mayB ⟨132, 0, 0, 0⟩ = true := by decide +kernel
      have a4 : decide (l.length + 1 = l.length + 2) = false := decide_eq_false (by omega)
      rw [a1, a2, a3, a4]
      simp
    unfold refused
    rw [hR]
    rfl
  have r1 : ∀ st, refused (l.length + 2) (l.length + 1) ⟨6, 0, 0, k⟩ st = false := by
    intro st
    have n0 : nextI ⟨6, 0, 0, k⟩ (l.length + 1) = [] := rfl
    have hR : rightF (l.length + 2) (l.length + 1) ⟨6, 0, 0, k⟩ = true := by
      unfold rightF
      rw [n0]
      have a1 : nameB 6 = true := by decide +kernel
      have a2 : rightX ⟨6, 0, 0, k⟩ = true := rfl
      have a3 : mayB ⟨6, 0, 0, k⟩ = true := rfl
      have a4 : endsC 6 = true := rfl
      rw [a1, a2, a3, a4]
      simp
    unfold refused
    rw [hR]
    rfl
  unfold ckF
  rw [g0, hlen]
  show (if refused (l.length + 2) l.length ⟨132, 0, 0, 0⟩ st then _ else ckF _ 1 (l.length + 1) _) = _
  rw [r0, if_neg (by simp)]
  unfold ckF
  rw [g1, hlen]
  show (if refused (l.length + 2) (l.length + 1) ⟨6, 0, 0, k⟩ _ then _ else ckF _ 0 (l.length + 1 + 1) _) = _
  rw [r1, if_neg (by simp)]
  rfl

theorem more_ok {l : List In} (hlo : ∀ q ∈ l, q.ok) (hl : l.length ≤ 200) (h : (checkF l).2 = true) (k : Int) : checkF (l ++ [⟨132, 0, 0, 0⟩, ⟨6, 0, 0, k⟩]) = (-1, true) := by
  obtain ⟨h0, h1, hc, _, _⟩ := checkF_ok h
  have hlen : (l ++ [(⟨132, 0, 0, 0⟩ : In), ⟨6, 0, 0, k⟩]).length = l.length + 2 := by simp
  have hck : ck (l ++ [⟨132, 0, 0, 0⟩, ⟨6, 0, 0, k⟩]) = -1 := by
    unfold ck at hc ⊢
    rw [hlen]
    have e : (List.replicate (l.length + 2) (65535 : Int)).set 0 0 = (List.replicate l.length (65535 : Int)).set 0 0 ++ [65535, 65535] := by
      rw [← List.set_append_left _ _ (by simpa using h0)]
      congr 1
      rw [show l.length + 2 = l.length + 1 + 1 from rfl, List.replicate_succ', List.replicate_succ', List.append_assoc]
      rfl
    rw [e]
    exact ck_more l [⟨132, 0, 0, 0⟩, ⟨6, 0, 0, k⟩] [65535, 65535] hlo (fun st _ => ends_more l k _) l.length 0 _ (by omega) (by simp) hc
  unfold checkF
  have hb : longB (l ++ [⟨132, 0, 0, 0⟩, ⟨6, 0, 0, k⟩]) = false := by
    unfold longB
    rw [hlen]
    exact decide_eq_false (by omega)
  rw [hb, if_neg (by simp), hck]
  rfl

theorem checkerMore (l : List In) (hlo : ∀ q ∈ l, q.ok) (k at_ : Int) (hk : inR .u32 k) : EvF Try.prog prim 6 [.v (.sl (l.map In.row)), .v (.int .u32 k), .v (.int .i64 at_)] [] [] [.v (.bool true)] [] := by
  have lm : (l.map In.row).length = l.length := List.length_map ..
  by_cases h : l.length > 200 ∨ at_ < 0
  · refine F6.p0 (l.map In.row) k at_ true ?_ alive4
    rw [lm]
    rcases h with h | h
    · have : (l.length : Int) > 200 := by omega
      simp [this]
    · simp [h]
  have g : (bif (bif (!true) then true else (decide (((l.map In.row).length : Int) > 200))) then true else (decide (at_ < 0))) = false := by
    rw [lm]
    have h1 : ¬ (l.length : Int) > 200 := by omega
    have h2 : ¬ at_ < 0 := by omega
    simp [h1, h2]
  have hc := check_ev l (by omega) hlo
  cases hb : (checkF l).2 with
  | false =>
    rw [hb] at hc
    exact F6.p1 (l.map In.row) k at_ true _ false g rfl alive4 hc
  | true =>
    rw [hb] at hc
    obtain ⟨h0, h1, _, _, _⟩ := checkF_ok hb
    have hm := check_ev (l ++ [⟨132, 0, 0, 0⟩, ⟨6, 0, 0, k⟩]) (by simp; omega) (by
      intro q hq
      rcases List.mem_append.1 hq with hq | hq
      · exact hlo q hq
      · simp only [List.mem_cons, List.not_mem_nil, or_false] at hq
        rcases hq with rfl | rfl
        · exact okB_ok (by decide +kernel)
        · exact ⟨k64, y64, y64, hk⟩)
    rw [more_ok hlo (by omega) hb k, List.map_append] at hm
    have t0 : 0 ≤ Int.tmod at_ (l.length : Int) := Int.tmod_nonneg _ (by omega)
    have t1 : Int.tmod at_ (l.length : Int) < l.length := Int.tmod_lt_of_pos _ (by omega)
    generalize hp : Int.tmod at_ (l.length : Int) = p at t0 t1
    have hp' : Int.tmod at_ ((l.map In.row).length : Int) = p := by rw [lm]; exact hp
    have em : (((l.map In.row).take (Int.toNat p)).drop (Int.toNat 0)) = (l.take p.toNat).map In.row := by
      rw [show Int.toNat 0 = 0 from rfl, List.drop_zero, List.map_take]
    have hcut := check_ev (l.take p.toNat) (by simp; omega) (fun q hq => hlo q (List.mem_of_mem_take hq))
    have four2 : ∀ r ∈ (l.map In.row ++ ([[.int .i64 132, .int .i64 0, .int .i64 0, .int .u32 0], [.int .i64 6, .int .i64 0, .int .i64 0, .int .u32 k]] : List (List PV))), r.length = 4 := by
      intro r hr
      rcases List.mem_append.1 hr with h' | h'
      · obtain ⟨q, _, rfl⟩ := List.mem_map.1 h'
        rfl
      · simp only [List.mem_cons, List.not_mem_nil, or_false] at h'
        rcases h' with rfl | rfl <;> rfl
    have four : ∀ r ∈ l.map In.row, r.length = 4 := fun r hr => four2 r (List.mem_append_left _ hr)
    have lml : ((l.take p.toNat).map In.row).length = p.toNat := by rw [List.length_map, List.length_take]; omega
    by_cases hp0 : p.toNat = 0
    · rw [hp0, List.take_zero] at hcut
      have := F6.p3 (l.map In.row) k at_ true _ true (-1) true _ _ g rfl (by rw [lm]; omega) four (by simp; omega) four2 rfl (by rw [lm]; omega) (by rw [hp', lm]; omega) (by rw [hp', em, lml, hp0]; rfl) alive4 hc hm (by rw [hp', em, hp0, List.take_zero]; exact hcut)
      exact this
    · have hlt : p.toNat - 1 < (l.take p.toNat).length := by rw [List.length_take]; omega
      have hg := List.getElem?_eq_getElem hlt
      generalize (l.take p.toNat)[p.toNat - 1] = q at hg
      have := F6.p4 (l.map In.row) k at_ true _ true (-1) true _ _ q.code q.jt q.jf q.k g rfl (by rw [lm]; omega) four (by simp; omega) four2 rfl (by rw [lm]; omega) (by rw [hp', lm]; omega) (by rw [hp', em, lml]; simp; omega) (by rw [hp', em, lml]; exact in64 (by omega) (by omega)) (by rw [hp', em, lml]; omega)
        (by
          rw [hp', em, lml]
          have : Int.toNat ((p.toNat : Int) - 1) = p.toNat - 1 := by omega
          rw [this]
          exact rows_get hg) alive4 hc hm (by rw [hp', em]; exact hcut)
      have e : (bif (bif (!(checkF (l.take p.toNat)).2) then true else (q.code == 6)) then true else (q.code == 22)) = true := by
        cases hb2 : (checkF (l.take p.toNat)).2 with
        | false => rfl
        | true =>
          obtain ⟨_, _, _, _, hall⟩ := checkF_ok hb2
          have hr := hall _ _ hg
          have := (right_of hr).2.2.2.1 (by rw [List.length_take]; omega)
          unfold endsC at this
          exact this
      rw [e] at this
      exact this

end Go.Ab.S3
