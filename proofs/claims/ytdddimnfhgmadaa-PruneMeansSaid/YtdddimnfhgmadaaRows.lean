/-
  No cell of these rows narrows 'for every input' (looked for: loops, veiled, ifaces, maps, wideKeys, modest, calm, conditions, laid).
  DERIVED. THE GIVEN ROWS OF THIS SEAT. 6 by the template 'for every input the law returns true; each argument reads behind the call as it read before'; 0 by the template 'total and deterministic' (their statements: YtdddimnfhgmadaaTotals.lean).
  GIVEN WITH THE SEED: the statements are not yours to turn. If you find one false, say at which input.
  Laid BY PROGRAM, IN A SANDBOX (cutbox-rows.mjs): the forced cells as the released guide's own fill.sh prints them over the translation 4be35d848006bc40… (all of the seat's roots in one cut). By AI agents, Wed Nov 11 2026. No macro, syntax, notation, axiom, sorry.
-/
import Derived.Test.YtdddimnfhgmadaaChecked
import GoSem.Claim
import GoSem.ClaimJoined
import GoSem.ClaimMapViews
import Derived.JoinedTies
import Derived.KernelRfl
namespace Go.Proofs.Ytdddimnfhgmadaa
/- THE CELL 'sum', in the pinned program and in every row, IS THE sha256 OF THE DUMP (.gsa) THAT YtdddimnfhgmadaaProg.lean LOADS. Nothing in Lean hashes anything: it is a label: what it is worth is what the hold of that sum in a sandbox is worth. -/
noncomputable def Try.pinned : Pinned := { name := "ytdddimnfhgmadaa", sum := "4be35d848006bc40f4fea3d7eac0aa6c88a8dd3d97feb02fec8dea5056aa2c83", checked := Try.checked }
namespace Rows
def none {H : Type} : Left H := { results := [], args := [] }

/-- 'tipstafflaw20.HalvesMean': WHATEVER THE INPUT: true; the input reads as it did. -/
def halvesMeanSpec : ChangeSpec := { name := "halvesMean", fn := fun _ => fun
  | [d1, d2] => { results := [.lit (.bool true)], args := [d1, d2] }
  | _ => none }
def halvesMeanRow : OpenClaim := { program := "ytdddimnfhgmadaa", sum := "4be35d848006bc40f4fea3d7eac0aa6c88a8dd3d97feb02fec8dea5056aa2c83", func := "tipstaff/tipstafflaw20.HalvesMean", spec := "halvesMean", recurses := true, apart := false }
def HalvesMeanSaid : Prop := halvesMeanRow.holds Try.pinned (OpenSpec.ofChange halvesMeanSpec)

/-- ITS FALSE NEIGHBOUR: 'it returns false'. Refute it at one input. -/
def halvesMeanWrong : ChangeSpec := { name := "halvesMean", fn := fun _ => fun
  | [d1, d2] => { results := [.lit (.bool false)], args := [d1, d2] }
  | _ => none }
def HalvesMeanWrongFalsely : Prop := halvesMeanRow.holds Try.pinned (OpenSpec.ofChange halvesMeanWrong)

/-- 'tipstafflaw21.PruneTells': WHATEVER THE INPUT: true; the input reads as it did. -/
def pruneTellsSpec : ChangeSpec := { name := "pruneTells", fn := fun _ => fun
  | [d] => { results := [.lit (.bool true)], args := [d] }
  | _ => none }
def pruneTellsRow : OpenClaim := { program := "ytdddimnfhgmadaa", sum := "4be35d848006bc40f4fea3d7eac0aa6c88a8dd3d97feb02fec8dea5056aa2c83", func := "tipstaff/tipstafflaw21.PruneTells", spec := "pruneTells", unfollowed := true, recurses := true, apart := false }
def PruneTellsSaid : Prop := pruneTellsRow.holds Try.pinned (OpenSpec.ofChange pruneTellsSpec)

/-- ITS FALSE NEIGHBOUR: 'it returns false'. Refute it at one input. -/
def pruneTellsWrong : ChangeSpec := { name := "pruneTells", fn := fun _ => fun
  | [d] => { results := [.lit (.bool false)], args := [d] }
  | _ => none }
def PruneTellsWrongFalsely : Prop := pruneTellsRow.holds Try.pinned (OpenSpec.ofChange pruneTellsWrong)

/-- 'tipstafflaw21.PruneMeans': WHATEVER THE INPUT: true; the input reads as it did. -/
def pruneMeansSpec : ChangeSpec := { name := "pruneMeans", fn := fun _ => fun
  | [d1, d2] => { results := [.lit (.bool true)], args := [d1, d2] }
  | _ => none }
def pruneMeansRow : OpenClaim := { program := "ytdddimnfhgmadaa", sum := "4be35d848006bc40f4fea3d7eac0aa6c88a8dd3d97feb02fec8dea5056aa2c83", func := "tipstaff/tipstafflaw21.PruneMeans", spec := "pruneMeans", unfollowed := true, recurses := true, apart := false }
def PruneMeansSaid : Prop := pruneMeansRow.holds Try.pinned (OpenSpec.ofChange pruneMeansSpec)

/-- ITS FALSE NEIGHBOUR: 'it returns false'. Refute it at one input. -/
def pruneMeansWrong : ChangeSpec := { name := "pruneMeans", fn := fun _ => fun
  | [d1, d2] => { results := [.lit (.bool false)], args := [d1, d2] }
  | _ => none }
def PruneMeansWrongFalsely : Prop := pruneMeansRow.holds Try.pinned (OpenSpec.ofChange pruneMeansWrong)

/-- 'tipstafflaw20.HalvesTell': WHATEVER THE INPUT: true; the input reads as it did. -/
def halvesTellSpec : ChangeSpec := { name := "halvesTell", fn := fun _ => fun
  | [d1, d2, d3] => { results := [.lit (.bool true)], args := [d1, d2, d3] }
  | _ => none }
def halvesTellRow : OpenClaim := { program := "ytdddimnfhgmadaa", sum := "4be35d848006bc40f4fea3d7eac0aa6c88a8dd3d97feb02fec8dea5056aa2c83", func := "tipstaff/tipstafflaw20.HalvesTell", spec := "halvesTell", apart := false }
def HalvesTellSaid : Prop := halvesTellRow.holds Try.pinned (OpenSpec.ofChange halvesTellSpec)

/-- ITS FALSE NEIGHBOUR: 'it returns false'. Refute it at one input. -/
def halvesTellWrong : ChangeSpec := { name := "halvesTell", fn := fun _ => fun
  | [d1, d2, d3] => { results := [.lit (.bool false)], args := [d1, d2, d3] }
  | _ => none }
def HalvesTellWrongFalsely : Prop := halvesTellRow.holds Try.pinned (OpenSpec.ofChange halvesTellWrong)

/-- 'tipstafflaw20.HalvesSure': WHATEVER THE INPUT: true; the input reads as it did. -/
def halvesSureSpec : ChangeSpec := { name := "halvesSure", fn := fun _ => fun
  | [d1, d2] => { results := [.lit (.bool true)], args := [d1, d2] }
  | _ => none }
def halvesSureRow : OpenClaim := { program := "ytdddimnfhgmadaa", sum := "4be35d848006bc40f4fea3d7eac0aa6c88a8dd3d97feb02fec8dea5056aa2c83", func := "tipstaff/tipstafflaw20.HalvesSure", spec := "halvesSure", apart := false }
def HalvesSureSaid : Prop := halvesSureRow.holds Try.pinned (OpenSpec.ofChange halvesSureSpec)

/-- ITS FALSE NEIGHBOUR: 'it returns false'. Refute it at one input. -/
def halvesSureWrong : ChangeSpec := { name := "halvesSure", fn := fun _ => fun
  | [d1, d2] => { results := [.lit (.bool false)], args := [d1, d2] }
  | _ => none }
def HalvesSureWrongFalsely : Prop := halvesSureRow.holds Try.pinned (OpenSpec.ofChange halvesSureWrong)

/-- 'tipstafflaw20.HalvesFew': WHATEVER THE INPUT: true; the input reads as it did. -/
def halvesFewSpec : ChangeSpec := { name := "halvesFew", fn := fun _ => fun
  | [d1, d2, d3, d4] => { results := [.lit (.bool true)], args := [d1, d2, d3, d4] }
  | _ => none }
def halvesFewRow : OpenClaim := { program := "ytdddimnfhgmadaa", sum := "4be35d848006bc40f4fea3d7eac0aa6c88a8dd3d97feb02fec8dea5056aa2c83", func := "tipstaff/tipstafflaw20.HalvesFew", spec := "halvesFew", apart := false }
def HalvesFewSaid : Prop := halvesFewRow.holds Try.pinned (OpenSpec.ofChange halvesFewSpec)

/-- ITS FALSE NEIGHBOUR: 'it returns false'. Refute it at one input. -/
def halvesFewWrong : ChangeSpec := { name := "halvesFew", fn := fun _ => fun
  | [d1, d2, d3, d4] => { results := [.lit (.bool false)], args := [d1, d2, d3, d4] }
  | _ => none }
def HalvesFewWrongFalsely : Prop := halvesFewRow.holds Try.pinned (OpenSpec.ofChange halvesFewWrong)

/- THE SECOND FORM. 'bulk': how many values and letters a reading holds, each counted each time it is reached (what is shared counts as often as it is met; a slice's spare places count too). A statement '..UptoSaid' is the law's where the arguments, and the package variables that the reading takes, are together of bulk at most 1048576: NARROWER than '..Said'. Prove '..Said' where nothing that the law and all that it calls make is longer than what came in: it says more and counts as full. Else prove '..UptoSaid'. A law counts once. -/
mutual
def uptoBulk {H : Type} : DataW H → Nat
  | .lit (.string bytes) => bytes.length + 1
  | .lit _ => 1
  | .nil => 1
  | .ptr d => uptoBulk d + 1
  | .slice elems spare => uptoBulkAll elems + uptoBulkAll spare + 1
  | .agg parts => uptoBulkAll parts + 1
  | .iface _ d => uptoBulk d + 1
  | .map entries => uptoBulkEntries entries + 1
  | .held _ => 1
def uptoBulkAll {H : Type} : List (DataW H) → Nat
  | [] => 0
  | d :: r => uptoBulk d + uptoBulkAll r
def uptoBulkEntries {H : Type} : List (Lit × DataW H) → Nat
  | [] => 0
  | x :: r => uptoBulkEntry x + uptoBulkEntries r
def uptoBulkEntry {H : Type} : Lit × DataW H → Nat
  | (.string bytes, d) => bytes.length + uptoBulk d + 1
  | (_, d) => uptoBulk d + 1
 end
def uptoSmall : (H : Type) → List (DataW H) → Bool := fun _ ds => decide (uptoBulkAll ds ≤ 1048576)
def OpenSpec.upto (s : _root_.Go.ChangeSpec) : _root_.Go.OpenSpec := { _root_.Go.OpenSpec.ofChange s with cond := some uptoSmall }

/-- 'tipstafflaw20.HalvesMean', WHERE WHAT IT READS IS OF BULK AT MOST 1048576: true; the input reads as it did. -/
def halvesMeanUptoRow : OpenClaim := { program := "ytdddimnfhgmadaa", sum := "4be35d848006bc40f4fea3d7eac0aa6c88a8dd3d97feb02fec8dea5056aa2c83", func := "tipstaff/tipstafflaw20.HalvesMean", spec := "halvesMean", recurses := true, apart := false, narrowed := true }
def HalvesMeanUptoSaid : Prop := halvesMeanUptoRow.holds Try.pinned (OpenSpec.upto halvesMeanSpec)

/-- 'tipstafflaw21.PruneTells', WHERE WHAT IT READS IS OF BULK AT MOST 1048576: true; the input reads as it did. -/
def pruneTellsUptoRow : OpenClaim := { program := "ytdddimnfhgmadaa", sum := "4be35d848006bc40f4fea3d7eac0aa6c88a8dd3d97feb02fec8dea5056aa2c83", func := "tipstaff/tipstafflaw21.PruneTells", spec := "pruneTells", unfollowed := true, recurses := true, apart := false, narrowed := true }
def PruneTellsUptoSaid : Prop := pruneTellsUptoRow.holds Try.pinned (OpenSpec.upto pruneTellsSpec)

/-- 'tipstafflaw21.PruneMeans', WHERE WHAT IT READS IS OF BULK AT MOST 1048576: true; the input reads as it did. -/
def pruneMeansUptoRow : OpenClaim := { program := "ytdddimnfhgmadaa", sum := "4be35d848006bc40f4fea3d7eac0aa6c88a8dd3d97feb02fec8dea5056aa2c83", func := "tipstaff/tipstafflaw21.PruneMeans", spec := "pruneMeans", unfollowed := true, recurses := true, apart := false, narrowed := true }
def PruneMeansUptoSaid : Prop := pruneMeansUptoRow.holds Try.pinned (OpenSpec.upto pruneMeansSpec)

/-- 'tipstafflaw20.HalvesTell', WHERE WHAT IT READS IS OF BULK AT MOST 1048576: true; the input reads as it did. -/
def halvesTellUptoRow : OpenClaim := { program := "ytdddimnfhgmadaa", sum := "4be35d848006bc40f4fea3d7eac0aa6c88a8dd3d97feb02fec8dea5056aa2c83", func := "tipstaff/tipstafflaw20.HalvesTell", spec := "halvesTell", apart := false, narrowed := true }
def HalvesTellUptoSaid : Prop := halvesTellUptoRow.holds Try.pinned (OpenSpec.upto halvesTellSpec)

/-- 'tipstafflaw20.HalvesSure', WHERE WHAT IT READS IS OF BULK AT MOST 1048576: true; the input reads as it did. -/
def halvesSureUptoRow : OpenClaim := { program := "ytdddimnfhgmadaa", sum := "4be35d848006bc40f4fea3d7eac0aa6c88a8dd3d97feb02fec8dea5056aa2c83", func := "tipstaff/tipstafflaw20.HalvesSure", spec := "halvesSure", apart := false, narrowed := true }
def HalvesSureUptoSaid : Prop := halvesSureUptoRow.holds Try.pinned (OpenSpec.upto halvesSureSpec)

/-- 'tipstafflaw20.HalvesFew', WHERE WHAT IT READS IS OF BULK AT MOST 1048576: true; the input reads as it did. -/
def halvesFewUptoRow : OpenClaim := { program := "ytdddimnfhgmadaa", sum := "4be35d848006bc40f4fea3d7eac0aa6c88a8dd3d97feb02fec8dea5056aa2c83", func := "tipstaff/tipstafflaw20.HalvesFew", spec := "halvesFew", apart := false, narrowed := true }
def HalvesFewUptoSaid : Prop := halvesFewUptoRow.holds Try.pinned (OpenSpec.upto halvesFewSpec)

end Rows
end Go.Proofs.Ytdddimnfhgmadaa
