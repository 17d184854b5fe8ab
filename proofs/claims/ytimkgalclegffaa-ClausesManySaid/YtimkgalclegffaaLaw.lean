/-
A law's call, of arguments that lie in memory.
-/
import Derived.Test.YtimkgalclegffaaOpR
import Derived.Below
namespace Go.Ab
open Go Go.RowKit

/-- All that is there: nobody writes it any more. -/
def limW (W : World) (b : Nat) : Nat :=
  match W.heap[b]? with
  | some (.cells c _ _) => c.size
  | _ => 0

theorem limW_cell {W : World} {a : Addr} {v : Value} (h : W.cell? a = some v) : a.off < limW W a.block ∧ a.spot = none := by
  unfold World.cell? at h
  unfold limW
  split at h
  · rename_i c t fz hc
    rw [hc]
    split at h
    · simp at h
    · rename_i hs
      exact ⟨(Array.getElem?_eq_some_iff.1 h).1, by simpa using hs⟩
  · simp at h

section
variable {P : Program} {prim : FuncId → List AV → List AV → Prop}

theorem inv_begin (W : World) : Inv W (limW W) (fun _ => False) ⟨limW W, [], [], []⟩ [] [] [] W :=
  ⟨Frame0.refl _ _ _ fun b hb => by simp [limW, Array.getElem?_eq_none hb], rfl, rfl, fun i blk cs h => by simp at h, fun i blk cs h => by simp at h, by simp, fun blk h => by simp at h, fun blk h => by simp at h, rfl, fun t b n h => by simp at h, fun t t' b n n' h => by simp at h⟩

/-- A LAW'S CALL. -/
theorem law_calls (hP : PrimOK P prim) (hm : P.follows .mixedOrders = true) {f : FuncId} (hb : hasBody P f = true) {args : List AV} (h : EvF P prim f args [] [] [.v (.bool true)] []) {W : World} {cargs : Array Value}
    (hr : Reps2 ⟨limW W, [], [], []⟩ [] W cargs.toList args) : Calls P f cargs W fun e w' => e = .returned (.bool true) ∧ Below W.heap.size W w' := by
  refine Calls.mono (h.sim hP hm hb W (limW W) (fun _ => False) [] [] cargs (inv_begin W) hr) fun e w' ⟨v, he, lim', obs', tb', _, hI, vs, hw, hR⟩ => ?_
  subst he hw
  obtain ⟨h1, h2⟩ := hR
  match vs, h1 with
  | [u], _ =>
    have hu := (h2 0 u _ rfl rfl).bool_of
    subst hu
    exact ⟨rfl, hI.frame.os, hI.frame.tape, hI.frame.output, hI.frame.size, fun k hk => (hI.frame.blk k hk id).1⟩

theorem noPrim : PrimOK P (fun _ _ _ => False) := fun _ _ _ h => h.elim

end
end Go.Ab
