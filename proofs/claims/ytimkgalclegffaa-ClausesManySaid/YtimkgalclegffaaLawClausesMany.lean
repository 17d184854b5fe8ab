/-
The law ClausesMany, of whatever arguments: it returns true, and its arguments read behind it as ahead of it. Conditions: none beyond the given statement's own.
-/
import Derived.Test.YtimkgalclegffaaRows
import Derived.Test.YtimkgalclegffaaLaw
import Derived.Test.YtimkgalclegffaaMany
import Derived.Test.YtimkgalclegffaaGrow
import Derived.WalkKit
import Derived.ProofKit
import Derived.OpenShut
import Derived.ShutString
import Derived.ChangeOld
import Derived.Below
import Derived.SizedLaws
namespace Go.Proofs.Ytimkgalclegffaa.clausesMany
open Go Go.Ab Go.ChangeShapes Go.WideShapes Go.ChangeAt Go.RowKit
open Go.ChangeMaps (open_string shut_string)
theorem own : ownKnob Try.prog.godebug = none := by kernel_rfl
theorem laidOut : laidOutB Try.prog = true := by kernel_rfl
set_option maxRecDepth 100000 in
theorem lifted (os : Os) (started : os.Started) (H : Type) (enc : TypeId × Value → H) :
    ReturnsInHanded {} Try.checked os 11 .any (Rows.clausesManySpec.pre6 enc Try.prog Try.f11 Rows.clausesManyRow.domain false) (Rows.clausesManySpec.post enc Try.prog Try.f11 false true false false) := by
  refine returnsInHanded_of_change_sized (C := Try.checked) own started (by kernel_rfl) Try.func11
    (ChangeSpec.witness6 (enc := enc) (C := Try.checked) false ⟨#[], #[.int .i64 0, .int .i64 0], []⟩ 8 (by kernel_rfl) (by kernel_rfl) (by kernel_rfl) (by kernel_rfl)) ?_
  intro W base args ds gs before hval0 hW hcnd hsz0 _
  have hsz : (DataW.weightsEach Try.prog (Try.f11.params.toList ++ Rows.clausesManySpec.plain.varTypes Try.prog) (ds ++ gs)).all (· ≤ reachBytes) = true := hsz0
  have hval : ∀ (j : Nat) t v, Try.f11.params[j]? = some t → args[j]? = some v → Value.okWide Try.prog W .any base t v := hval0
  have hW' := hW
  obtain ⟨p, q, hA0, hV, rfl, hfz, hnd⟩ := hW
  have hA : DataW.TrodAll enc Try.prog W 0 (fun _ => true) true Try.f11.params.toList args.toList ds p := hA0
  rw [Try.params11] at hA hval hsz
  obtain ⟨v0, vs0, d0, ds0, p0, q0, hargs, rfl, rfl, h0, r0⟩ := trodAll_cons hA
  obtain ⟨v1, vs1, d1, ds1, p1, q1, rfl, rfl, rfl, h1, r1⟩ := trodAll_cons r0
  obtain ⟨rfl, rfl, rfl⟩ := trodAll_nil r1
  obtain rfl : args = #[v0, v1] := by cases args; simp_all
  have hwt := fun n hn => of_decide_eq_true (List.all_eq_true.1 hsz n hn)
  have w0 : light Try.prog 3 d0 := light_each hwt 0 3 d0 rfl rfl
  have w1 : light Try.prog 3 d1 := light_each hwt 1 3 d1 rfl rfl
  obtain ⟨rfl, rfl⟩ := trodVars_none hV
  have lt0 : ∀ x ∈ p0, x.block < W.heap.size := by
    obtain ⟨m, hm⟩ := h0
    exact DataW.trod_lt m _ _ _ hm
  have lt1 : ∀ x ∈ p1, x.block < W.heap.size := by
    obtain ⟨m, hm⟩ := h1
    exact DataW.trod_lt m _ _ _ hm
  obtain ⟨_, hq0, ha0⟩ := arg_one h0 w0 (fun m => Go.Ab.S1.read64 m) (Go.Ab.okWide_int Try.underlying3 (hval 0 3 v0 rfl rfl)) (fun p hp => by obtain ⟨n, _, rfl⟩ := hp; exact ⟨_, rfl⟩)
  obtain ⟨n, h_n, e0⟩ := hq0
  cases e0
  obtain ⟨_, hq1, ha1⟩ := arg_one h1 w1 (fun m => Go.Ab.S1.read64 m) (Go.Ab.okWide_int Try.underlying3 (hval 1 3 v1 rfl rfl)) (fun p hp => by obtain ⟨n, _, rfl⟩ := hp; exact ⟨_, rfl⟩)
  obtain ⟨w, h_w, e1⟩ := hq1
  cases e1
  refine (law_calls Go.Ab.S1.growOK (by kernel_rfl) (by kernel_rfl) (Go.Ab.S1.clausesMany n w) (reps2_cons ha0 (reps2_cons ha1 reps2_nil))).mono fun e W' ⟨he, bel⟩ => ?_
  subst he
  exact ⟨_, rfl, _, _, _, [], _, [], hW', trodAll_mk1 (shut_bool Try.underlying4 _), (trodAll_cons_mk (Below.trod laidOut (by kernel_rfl) (of_decide_eq_true (by kernel_rfl)) h0 bel lt0) (trodAll_cons_mk (Below.trod laidOut (by kernel_rfl) (of_decide_eq_true (by kernel_rfl)) h1 bel lt1) trodAll_mk0)), rfl, bel.frame _, fun h => by cases h⟩
theorem proved : Rows.ClausesManySaid :=
  OpenClaim.holds_of_wide 11 Try.f11 rfl rfl rfl rfl rfl rfl rfl ⟨rfl, rfl, rfl, rfl, rfl⟩ rfl rfl rfl rfl rfl (by kernel_rfl) Try.func11 (by kernel_rfl)
    (of_decide_eq_true (by kernel_rfl)) (by unfold Func.isWrapper; first | (rw [if_pos (by decide +kernel)]; kernel_rfl) | (rw [if_neg (by decide +kernel)]; exact ⟨rfl, rfl⟩))
    (fun os started H enc _ => lifted os started H enc)
end Go.Proofs.Ytimkgalclegffaa.clausesMany
namespace Go.Proofs.Ytimkgalclegffaa
theorem clausesMany_holds : Rows.ClausesManySaid := clausesMany.proved
#print axioms clausesMany_holds
end Go.Proofs.Ytimkgalclegffaa

