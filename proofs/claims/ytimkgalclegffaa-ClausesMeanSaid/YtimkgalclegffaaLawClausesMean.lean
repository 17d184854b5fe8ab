/-
The law ClausesMean, of whatever arguments: it returns true, and its arguments read behind it as ahead of it. Conditions: none beyond the given statement's own.
-/
import Derived.Test.YtimkgalclegffaaRows
import Derived.Test.YtimkgalclegffaaLaw
import Derived.Test.YtimkgalclegffaaDnf
import Derived.Test.YtimkgalclegffaaGrow
import Derived.WalkKit
import Derived.ProofKit
import Derived.OpenShut
import Derived.ShutString
import Derived.ChangeOld
import Derived.Below
import Derived.SizedLaws
namespace Go.Proofs.Ytimkgalclegffaa.clausesMean
open Go Go.Ab Go.ChangeShapes Go.WideShapes Go.ChangeAt Go.RowKit
open Go.ChangeMaps (open_string shut_string)
theorem own : ownKnob Try.prog.godebug = none := by kernel_rfl
theorem laidOut : laidOutB Try.prog = true := by kernel_rfl
set_option maxRecDepth 100000 in
theorem lifted (os : Os) (started : os.Started) (H : Type) (enc : TypeId × Value → H) :
    ReturnsInHanded {} Try.checked os 10 .any (Rows.clausesMeanSpec.pre6 enc Try.prog Try.f10 Rows.clausesMeanRow.domain false) (Rows.clausesMeanSpec.post enc Try.prog Try.f10 false true false false) := by
  refine returnsInHanded_of_change_sized (C := Try.checked) own started (by kernel_rfl) Try.func10
    (ChangeSpec.witness6 (enc := enc) (C := Try.checked) false ⟨#[], #[.agg #[.int .i64 0, .int .i64 0, .int .i64 0, .int .u64 0, .int .u64 0, .slice none 0 0], .agg #[.int .u64 0, .int .u64 0, .int .u64 0, .int .u64 0, .int .u64 0, .int .u64 0]], []⟩ 8 (by kernel_rfl) (by kernel_rfl) (by kernel_rfl) (by kernel_rfl)) ?_
  intro W base args ds gs before hval0 hW hcnd hsz0 _
  have hsz : (DataW.weightsEach Try.prog (Try.f10.params.toList ++ Rows.clausesMeanSpec.plain.varTypes Try.prog) (ds ++ gs)).all (· ≤ reachBytes) = true := hsz0
  have hval : ∀ (j : Nat) t v, Try.f10.params[j]? = some t → args[j]? = some v → Value.okWide Try.prog W .any base t v := hval0
  have hW' := hW
  obtain ⟨p, q, hA0, hV, rfl, hfz, hnd⟩ := hW
  have hA : DataW.TrodAll enc Try.prog W 0 (fun _ => true) true Try.f10.params.toList args.toList ds p := hA0
  rw [Try.params10] at hA hval hsz
  obtain ⟨v0, vs0, d0, ds0, p0, q0, hargs, rfl, rfl, h0, r0⟩ := trodAll_cons hA
  obtain ⟨v1, vs1, d1, ds1, p1, q1, rfl, rfl, rfl, h1, r1⟩ := trodAll_cons r0
  obtain ⟨rfl, rfl, rfl⟩ := trodAll_nil r1
  obtain rfl : args = #[v0, v1] := by cases args; simp_all
  have hwt := fun n hn => of_decide_eq_true (List.all_eq_true.1 hsz n hn)
  have w0 : light Try.prog 27 d0 := light_each hwt 0 27 d0 rfl rfl
  have w1 : light Try.prog 32 d1 := light_each hwt 1 32 d1 rfl rfl
  obtain ⟨rfl, rfl⟩ := trodVars_none hV
  have lt0 : ∀ x ∈ p0, x.block < W.heap.size := by
    obtain ⟨m, hm⟩ := h0
    exact DataW.trod_lt m _ _ _ hm
  have lt1 : ∀ x ∈ p1, x.block < W.heap.size := by
    obtain ⟨m, hm⟩ := h1
    exact DataW.trod_lt m _ _ _ hm
  obtain ⟨X0, rfl⟩ := Go.Ab.okWide_struct Try.underlying27 (hval 0 27 v0 rfl rfl)
  obtain ⟨X1, rfl⟩ := Go.Ab.okWide_array Try.underlying32 (hval 1 32 v1 rfl rfl)
  obtain ⟨_, ⟨c, hc, rfl⟩, ha0⟩ := arg_agg h0 w0 fun m => Go.Ab.S1.reads_cond m
  obtain ⟨_, hx, ha1⟩ := arg_agg h1 w1 fun m => Go.Ab.S1.reads_six m
  obtain ⟨x, rfl⟩ := Go.Ab.S1.six_isSix hx
  refine (law_calls Go.Ab.S1.growOK (by kernel_rfl) (by kernel_rfl) (Go.Ab.S1.clausesMean c x hc) (reps2_cons ha0 (reps2_cons ha1 reps2_nil))).mono fun e W' ⟨he, bel⟩ => ?_
  subst he
  exact ⟨_, rfl, _, _, _, [], _, [], hW', trodAll_mk1 (shut_bool Try.underlying4 _), (trodAll_cons_mk (Below.trod laidOut (by kernel_rfl) (of_decide_eq_true (by kernel_rfl)) h0 bel lt0) (trodAll_cons_mk (Below.trod laidOut (by kernel_rfl) (of_decide_eq_true (by kernel_rfl)) h1 bel lt1) trodAll_mk0)), rfl, bel.frame _, fun h => by cases h⟩
theorem proved : Rows.ClausesMeanSaid :=
  OpenClaim.holds_of_wide 10 Try.f10 rfl rfl rfl rfl rfl rfl rfl ⟨rfl, rfl, rfl, rfl, rfl⟩ rfl rfl rfl rfl rfl (by kernel_rfl) Try.func10 (by kernel_rfl)
    (of_decide_eq_true (by kernel_rfl)) (by unfold Func.isWrapper; first | (rw [if_pos (by decide +kernel)]; kernel_rfl) | (rw [if_neg (by decide +kernel)]; exact ⟨rfl, rfl⟩))
    (fun os started H enc _ => lifted os started H enc)
end Go.Proofs.Ytimkgalclegffaa.clausesMean
namespace Go.Proofs.Ytimkgalclegffaa
theorem clausesMean_holds : Rows.ClausesMeanSaid := clausesMean.proved
#print axioms clausesMean_holds
end Go.Proofs.Ytimkgalclegffaa

