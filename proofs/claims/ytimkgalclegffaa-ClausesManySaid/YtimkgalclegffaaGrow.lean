/-
slices.Grow of nil: an empty slice with room.
-/
import Derived.Test.YtimkgalclegffaaOpR
import Derived.Test.YtimkgalclegffaaBase
import Derived.Shelf.Spec.SlicesGrow
namespace Go.Proofs
open Go.Shelf
def Try.growA_ren : Go.Shelf.Ren := ⟨fun | 4 => 59 | n => n, fun | 22 => 43 | 25 => 24 | n => n, fun | n => n⟩
theorem Try.growA : Go.Proofs.Lays8.n4 Try.prog Try.growA_ren := {
  mixed := by kernel_rfl
  f4 := ⟨Try.f59.name, by decide, Try.func59.trans (congrArg some (by kernel_rfl))⟩
  t0 := Try.underlying0
  a0 := Try.isAgg0
  z0 := Try.sizeOf0
  v0 := Try.zeroValue0
  t3 := Try.underlying3
  a3 := Try.isAgg3
  z3 := Try.sizeOf3
  v3 := Try.zeroValue3
  t4 := Try.underlying4
  a4 := Try.isAgg4
  z4 := Try.sizeOf4
  v4 := Try.zeroValue4
  t9 := Try.underlying9
  a9 := Try.isAgg9
  z9 := Try.sizeOf9
  v9 := Try.zeroValue9
  t20 := Try.underlying20
  a20 := Try.isAgg20
  z20 := Try.sizeOf20
  v20 := Try.zeroValue20
  t22 := Try.underlying43
  a22 := Try.isAgg43
  z22 := Try.sizeOf43
  v22 := Try.zeroValue43 }
end Go.Proofs
namespace Go.Ab.S1
open Go Go.Proofs Go.Ab

theorem growOK : PrimOK Try.prog prim := by
  rintro g xs r ⟨rfl, n, h0, h1, rfl, hn⟩
  intro w lim O obs tb cargs hi hr
  obtain ⟨hl, hr⟩ := hr
  have hlen : cargs.toList.length = 2 := hl
  obtain ⟨v0, v1, hc⟩ : ∃ v0 v1, cargs = #[v0, v1] := by
    match hcl : cargs.toList, hlen with
    | [a, b], _ => exact ⟨a, b, by rw [← Array.toList_inj, hcl]⟩
  subst hc
  have r0 := hr 0 v0 _ rfl rfl
  have r1 := hr 1 v1 _ rfl rfl
  rw [r1.int_of]
  have hobs : obs = [] := List.length_eq_zero_iff.1 hi.ho
  cases r0 with
  | @own _ _ A len cap ht hle hp hroom =>
    obtain ⟨e1, e2, -⟩ := hp.flat (n := 4) (by simp)
    have e1 : len = 0 := by simpa using e1.symm
    subst e1
    have hcap : cap = 0 := by
      rcases Nat.eq_zero_or_pos cap with h | h
      · exact h
      · obtain ⟨_, _, _, _, _, _, _, hne, _⟩ := hroom rfl h
        exact absurd rfl hne
    subst hcap
    rcases hn with ⟨hpos, rfl⟩ | ⟨rfl, rfl⟩
    · have hz : (zeroT Try.prog 24).bind AV.row = some [.int .i64 0, .int .i64 0, .int .u64 0, .int .u64 0] := by kernel_rfl
      obtain ⟨i, zv, hinfo, hiz, _, hZ⟩ := zero_row hz
      have hs : sizeT Try.prog 24 = some 4 := by kernel_rfl
      have hb : bytesT Try.prog 24 = some 32 := by kernel_rfl
      have isz : i.size = 4 := by unfold sizeT at hs; rw [hinfo] at hs; simpa using hs
      have iby : i.bytes = 32 := by unfold bytesT at hb; rw [hinfo] at hb; simpa using hb
      have hzc : zv.cells.size = 4 := (hZ lim w).1
      obtain ⟨m, rfl⟩ := Int.eq_ofNat_of_zero_le h0
      have hg := Any8.slices_Grow_grow Try.growA i zv hinfo hiz (by rw [isz]; decide) A 0 0 m [] w (Nat.le_refl _) (by omega) (by rw [iby]; omega) (by omega) (by simp) (fun _ => rfl) (fun a _ j v h => by simp at h)
      refine Calls.mono hg fun e w' ⟨he, hw⟩ => ⟨_, he, ?_⟩
      have hcp := grownCap_ge w (0 + m) 0 24
      generalize hX : (([] : List Value).toArray ++ Builtin.zeroCells zv.cells (0 + m - 0) ++ Builtin.zeroCells zv.cells (grownCap w (0 + m) 0 24 - (0 + m))) = X at hw
      have hw : w' = w.drew.alloc (.cells X 24) := by rw [← hX]; exact hw
      have hXs : grownCap w (0 + m) 0 24 * 4 ≤ X.size := by
        rw [← hX]
        simp [Builtin.zeroCells, hzc]
        omega
      subst hw
      obtain ⟨i1, -⟩ := hi.quiet (w' := w.drew.alloc (.cells X 24)) (lim' := lim) (by rw [size_alloc]; exact Nat.le_succ _) rfl rfl rfl (fun b hb => ⟨by show (w.heap.push _)[b]? = w.heap[b]?; rw [Array.getElem?_push, if_neg (by omega)], rfl⟩)
        (fun b hb => by
          rw [size_alloc] at hb
          exact hi.frame.above b (by have : w.heap.size + 1 ≤ b := hb; omega))
      obtain ⟨i2, -⟩ := i1.noToks.pushTok (o := some 0) (ob := some w.heap.size) (fun nb h => by
        obtain rfl := Option.some.inj h
        refine ⟨by simp [hobs], by rw [size_alloc]; exact Nat.lt_succ_self _, fun h => absurd h (Nat.lt_irrefl _), fun t' k h1 => by simp at h1⟩)
      refine ⟨lim, obs, [some w.heap.size], fun _ _ h => h, i2, [_], rfl, rfl, fun j v a hv ha => ?_⟩
      cases j with
      | succ j => simp at hv
      | zero =>
        simp at hv ha
        subst hv
        subst ha
        refine .vac (by decide) (.sl w.heap.size 0 0 _ 4 [] (fun _ _ => undef) rfl (Nat.zero_le _) (by simp) (fun i j p h => by simp [at2] at h) fun i j p h => by simp [at2] at h) fun _ _ => ⟨w.heap.size, 0, X, 24, rfl, rfl, hi.frame.above _ (Nat.le_refl _), heap_alloc_new w.drew _, by rw [Nat.zero_add] at hXs ⊢; exact hXs⟩
    · have hg := Any8.slices_Grow_room Try.growA A 0 0 0 w (Nat.le_refl _) (by decide) (by decide) (Nat.le_refl _)
      refine Calls.mono hg fun e w' ⟨he, hw⟩ => ⟨_, he, ?_⟩
      subst hw
      refine ⟨lim, obs, tb, fun _ _ h => h, hi, [_], rfl, rfl, fun j v a hv ha => ?_⟩
      cases j with
      | succ j => simp at hv
      | zero =>
        simp at hv ha
        subst hv
        subst ha
        exact .own ht hle hp hroom

end Go.Ab.S1
