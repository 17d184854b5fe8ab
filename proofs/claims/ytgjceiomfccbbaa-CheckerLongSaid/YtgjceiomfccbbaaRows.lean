/-
  No cell of these rows narrows 'for every input' (looked for: loops, veiled, ifaces, maps, wideKeys, modest, calm, conditions, laid).
  DERIVED. THE GIVEN ROWS OF THIS SEAT. 11 by the template 'for every input the law returns true; each argument reads behind the call as it read before'; 0 by the template 'total and deterministic' (their statements: YtgjceiomfccbbaaTotals.lean).
  GIVEN WITH THE SEED: the statements are not yours to turn. If you find one false, say at which input.
  Laid BY PROGRAM, IN A SANDBOX (cutbox-rows.mjs): the forced cells as the released guide's own fill.sh prints them over the translation 3f5784d75884ed04… (all of the seat's roots in one cut). By AI agents, Wed Nov 11 2026. No macro, syntax, notation, axiom, sorry.
-/
import Derived.Test.YtgjceiomfccbbaaChecked
import GoSem.Claim
import GoSem.ClaimJoined
import GoSem.ClaimMapViews
import Derived.JoinedTies
import Derived.KernelRfl
namespace Go.Proofs.Ytgjceiomfccbbaa
/- THE CELL 'sum', in the pinned program and in every row, IS THE sha256 OF THE DUMP (.gsa) THAT YtgjceiomfccbbaaProg.lean LOADS. Nothing in Lean hashes anything: it is a label: what it is worth is what the hold of that sum in a sandbox is worth. -/
noncomputable def Try.pinned : Pinned := { name := "ytgjceiomfccbbaa", sum := "3f5784d75884ed043210690188e31361cb5e7a5c3c4817fe9e69798eb1c70d02", checked := Try.checked }
namespace Rows
def none {H : Type} : Left H := { results := [], args := [] }

/-- 'tipstafflaw2.RecordTells': WHATEVER THE INPUT: true; the input reads as it did. -/
def recordTellsSpec : ChangeSpec := { name := "recordTells", fn := fun _ => fun
  | [d1, d2, d3] => { results := [.lit (.bool true)], args := [d1, d2, d3] }
  | _ => none }
def recordTellsRow : OpenClaim := { program := "ytgjceiomfccbbaa", sum := "3f5784d75884ed043210690188e31361cb5e7a5c3c4817fe9e69798eb1c70d02", func := "tipstaff/tipstafflaw2.RecordTells", spec := "recordTells", apart := false }
def RecordTellsSaid : Prop := recordTellsRow.holds Try.pinned (OpenSpec.ofChange recordTellsSpec)

/-- ITS FALSE NEIGHBOUR: 'it returns false'. Refute it at one input. -/
def recordTellsWrong : ChangeSpec := { name := "recordTells", fn := fun _ => fun
  | [d1, d2, d3] => { results := [.lit (.bool false)], args := [d1, d2, d3] }
  | _ => none }
def RecordTellsWrongFalsely : Prop := recordTellsRow.holds Try.pinned (OpenSpec.ofChange recordTellsWrong)

/-- 'tipstafflaw2.RecordHalves': WHATEVER THE INPUT: true; the input reads as it did. -/
def recordHalvesSpec : ChangeSpec := { name := "recordHalves", fn := fun _ => fun
  | [d1, d2] => { results := [.lit (.bool true)], args := [d1, d2] }
  | _ => none }
def recordHalvesRow : OpenClaim := { program := "ytgjceiomfccbbaa", sum := "3f5784d75884ed043210690188e31361cb5e7a5c3c4817fe9e69798eb1c70d02", func := "tipstaff/tipstafflaw2.RecordHalves", spec := "recordHalves", apart := false }
def RecordHalvesSaid : Prop := recordHalvesRow.holds Try.pinned (OpenSpec.ofChange recordHalvesSpec)

/-- ITS FALSE NEIGHBOUR: 'it returns false'. Refute it at one input. -/
def recordHalvesWrong : ChangeSpec := { name := "recordHalves", fn := fun _ => fun
  | [d1, d2] => { results := [.lit (.bool false)], args := [d1, d2] }
  | _ => none }
def RecordHalvesWrongFalsely : Prop := recordHalvesRow.holds Try.pinned (OpenSpec.ofChange recordHalvesWrong)

/-- 'tipstafflaw4.CheckerWrong': WHATEVER THE INPUT: true; the input reads as it did. -/
def checkerWrongSpec : ChangeSpec := { name := "checkerWrong", fn := fun _ => fun
  | [d] => { results := [.lit (.bool true)], args := [d] }
  | _ => none }
def checkerWrongRow : OpenClaim := { program := "ytgjceiomfccbbaa", sum := "3f5784d75884ed043210690188e31361cb5e7a5c3c4817fe9e69798eb1c70d02", func := "tipstaff/tipstafflaw4.CheckerWrong", spec := "checkerWrong", unfollowed := true, recurses := true, apart := false }
def CheckerWrongSaid : Prop := checkerWrongRow.holds Try.pinned (OpenSpec.ofChange checkerWrongSpec)

/-- ITS FALSE NEIGHBOUR: 'it returns false'. Refute it at one input. -/
def checkerWrongWrong : ChangeSpec := { name := "checkerWrong", fn := fun _ => fun
  | [d] => { results := [.lit (.bool false)], args := [d] }
  | _ => none }
def CheckerWrongWrongFalsely : Prop := checkerWrongRow.holds Try.pinned (OpenSpec.ofChange checkerWrongWrong)

/-- 'tipstafflaw4.CheckerMore': WHATEVER THE INPUT: true; the input reads as it did. -/
def checkerMoreSpec : ChangeSpec := { name := "checkerMore", fn := fun _ => fun
  | [d1, d2, d3] => { results := [.lit (.bool true)], args := [d1, d2, d3] }
  | _ => none }
def checkerMoreRow : OpenClaim := { program := "ytgjceiomfccbbaa", sum := "3f5784d75884ed043210690188e31361cb5e7a5c3c4817fe9e69798eb1c70d02", func := "tipstaff/tipstafflaw4.CheckerMore", spec := "checkerMore", unfollowed := true, recurses := true, apart := false }
def CheckerMoreSaid : Prop := checkerMoreRow.holds Try.pinned (OpenSpec.ofChange checkerMoreSpec)

/-- ITS FALSE NEIGHBOUR: 'it returns false'. Refute it at one input. -/
def checkerMoreWrong : ChangeSpec := { name := "checkerMore", fn := fun _ => fun
  | [d1, d2, d3] => { results := [.lit (.bool false)], args := [d1, d2, d3] }
  | _ => none }
def CheckerMoreWrongFalsely : Prop := checkerMoreRow.holds Try.pinned (OpenSpec.ofChange checkerMoreWrong)

/-- 'tipstafflaw3.MachineRuns': WHATEVER THE INPUT: true; the input reads as it did. -/
def machineRunsSpec : ChangeSpec := { name := "machineRuns", fn := fun _ => fun
  | [d1, d2] => { results := [.lit (.bool true)], args := [d1, d2] }
  | _ => none }
def machineRunsRow : OpenClaim := { program := "ytgjceiomfccbbaa", sum := "3f5784d75884ed043210690188e31361cb5e7a5c3c4817fe9e69798eb1c70d02", func := "tipstaff/tipstafflaw3.MachineRuns", spec := "machineRuns", apart := false }
def MachineRunsSaid : Prop := machineRunsRow.holds Try.pinned (OpenSpec.ofChange machineRunsSpec)

/-- ITS FALSE NEIGHBOUR: 'it returns false'. Refute it at one input. -/
def machineRunsWrong : ChangeSpec := { name := "machineRuns", fn := fun _ => fun
  | [d1, d2] => { results := [.lit (.bool false)], args := [d1, d2] }
  | _ => none }
def MachineRunsWrongFalsely : Prop := machineRunsRow.holds Try.pinned (OpenSpec.ofChange machineRunsWrong)

/-- 'tipstafflaw3.MachineReckons': WHATEVER THE INPUT: true; the input reads as it did. -/
def machineReckonsSpec : ChangeSpec := { name := "machineReckons", fn := fun _ => fun
  | [d1, d2, d3] => { results := [.lit (.bool true)], args := [d1, d2, d3] }
  | _ => none }
def machineReckonsRow : OpenClaim := { program := "ytgjceiomfccbbaa", sum := "3f5784d75884ed043210690188e31361cb5e7a5c3c4817fe9e69798eb1c70d02", func := "tipstaff/tipstafflaw3.MachineReckons", spec := "machineReckons", apart := false }
def MachineReckonsSaid : Prop := machineReckonsRow.holds Try.pinned (OpenSpec.ofChange machineReckonsSpec)

/-- ITS FALSE NEIGHBOUR: 'it returns false'. Refute it at one input. -/
def machineReckonsWrong : ChangeSpec := { name := "machineReckons", fn := fun _ => fun
  | [d1, d2, d3] => { results := [.lit (.bool false)], args := [d1, d2, d3] }
  | _ => none }
def MachineReckonsWrongFalsely : Prop := machineReckonsRow.holds Try.pinned (OpenSpec.ofChange machineReckonsWrong)

/-- 'tipstafflaw3.MachineJumps': WHATEVER THE INPUT: true; the input reads as it did. -/
def machineJumpsSpec : ChangeSpec := { name := "machineJumps", fn := fun _ => fun
  | [d1, d2, d3, d4, d5] => { results := [.lit (.bool true)], args := [d1, d2, d3, d4, d5] }
  | _ => none }
def machineJumpsRow : OpenClaim := { program := "ytgjceiomfccbbaa", sum := "3f5784d75884ed043210690188e31361cb5e7a5c3c4817fe9e69798eb1c70d02", func := "tipstaff/tipstafflaw3.MachineJumps", spec := "machineJumps", apart := false }
def MachineJumpsSaid : Prop := machineJumpsRow.holds Try.pinned (OpenSpec.ofChange machineJumpsSpec)

/-- ITS FALSE NEIGHBOUR: 'it returns false'. Refute it at one input. -/
def machineJumpsWrong : ChangeSpec := { name := "machineJumps", fn := fun _ => fun
  | [d1, d2, d3, d4, d5] => { results := [.lit (.bool false)], args := [d1, d2, d3, d4, d5] }
  | _ => none }
def MachineJumpsWrongFalsely : Prop := machineJumpsRow.holds Try.pinned (OpenSpec.ofChange machineJumpsWrong)

/-- 'tipstafflaw3.MachineCells': WHATEVER THE INPUT: true; the input reads as it did. -/
def machineCellsSpec : ChangeSpec := { name := "machineCells", fn := fun _ => fun
  | [d1, d2, d3] => { results := [.lit (.bool true)], args := [d1, d2, d3] }
  | _ => none }
def machineCellsRow : OpenClaim := { program := "ytgjceiomfccbbaa", sum := "3f5784d75884ed043210690188e31361cb5e7a5c3c4817fe9e69798eb1c70d02", func := "tipstaff/tipstafflaw3.MachineCells", spec := "machineCells", apart := false }
def MachineCellsSaid : Prop := machineCellsRow.holds Try.pinned (OpenSpec.ofChange machineCellsSpec)

/-- ITS FALSE NEIGHBOUR: 'it returns false'. Refute it at one input. -/
def machineCellsWrong : ChangeSpec := { name := "machineCells", fn := fun _ => fun
  | [d1, d2, d3] => { results := [.lit (.bool false)], args := [d1, d2, d3] }
  | _ => none }
def MachineCellsWrongFalsely : Prop := machineCellsRow.holds Try.pinned (OpenSpec.ofChange machineCellsWrong)

/-- 'tipstafflaw3.MachineLoads': WHATEVER THE INPUT: true; the input reads as it did. -/
def machineLoadsSpec : ChangeSpec := { name := "machineLoads", fn := fun _ => fun
  | [d1, d2, d3] => { results := [.lit (.bool true)], args := [d1, d2, d3] }
  | _ => none }
def machineLoadsRow : OpenClaim := { program := "ytgjceiomfccbbaa", sum := "3f5784d75884ed043210690188e31361cb5e7a5c3c4817fe9e69798eb1c70d02", func := "tipstaff/tipstafflaw3.MachineLoads", spec := "machineLoads", apart := false }
def MachineLoadsSaid : Prop := machineLoadsRow.holds Try.pinned (OpenSpec.ofChange machineLoadsSpec)

/-- ITS FALSE NEIGHBOUR: 'it returns false'. Refute it at one input. -/
def machineLoadsWrong : ChangeSpec := { name := "machineLoads", fn := fun _ => fun
  | [d1, d2, d3] => { results := [.lit (.bool false)], args := [d1, d2, d3] }
  | _ => none }
def MachineLoadsWrongFalsely : Prop := machineLoadsRow.holds Try.pinned (OpenSpec.ofChange machineLoadsWrong)

/-- 'tipstafflaw4.CheckerSafe': WHATEVER THE INPUT: true; the input reads as it did. -/
def checkerSafeSpec : ChangeSpec := { name := "checkerSafe", fn := fun _ => fun
  | [d1, d2] => { results := [.lit (.bool true)], args := [d1, d2] }
  | _ => none }
def checkerSafeRow : OpenClaim := { program := "ytgjceiomfccbbaa", sum := "3f5784d75884ed043210690188e31361cb5e7a5c3c4817fe9e69798eb1c70d02", func := "tipstaff/tipstafflaw4.CheckerSafe", spec := "checkerSafe", unfollowed := true, recurses := true, apart := false }
def CheckerSafeSaid : Prop := checkerSafeRow.holds Try.pinned (OpenSpec.ofChange checkerSafeSpec)

/-- ITS FALSE NEIGHBOUR: 'it returns false'. Refute it at one input. -/
def checkerSafeWrong : ChangeSpec := { name := "checkerSafe", fn := fun _ => fun
  | [d1, d2] => { results := [.lit (.bool false)], args := [d1, d2] }
  | _ => none }
def CheckerSafeWrongFalsely : Prop := checkerSafeRow.holds Try.pinned (OpenSpec.ofChange checkerSafeWrong)

/-- 'tipstafflaw4.CheckerLong': WHATEVER THE INPUT: true; the input reads as it did. -/
def checkerLongSpec : ChangeSpec := { name := "checkerLong", fn := fun _ => fun
  | [d] => { results := [.lit (.bool true)], args := [d] }
  | _ => none }
def checkerLongRow : OpenClaim := { program := "ytgjceiomfccbbaa", sum := "3f5784d75884ed043210690188e31361cb5e7a5c3c4817fe9e69798eb1c70d02", func := "tipstaff/tipstafflaw4.CheckerLong", spec := "checkerLong", unfollowed := true, recurses := true, apart := false }
def CheckerLongSaid : Prop := checkerLongRow.holds Try.pinned (OpenSpec.ofChange checkerLongSpec)

/-- ITS FALSE NEIGHBOUR: 'it returns false'. Refute it at one input. -/
def checkerLongWrong : ChangeSpec := { name := "checkerLong", fn := fun _ => fun
  | [d] => { results := [.lit (.bool false)], args := [d] }
  | _ => none }
def CheckerLongWrongFalsely : Prop := checkerLongRow.holds Try.pinned (OpenSpec.ofChange checkerLongWrong)

/- THE SECOND FORM. 'bulk': how many values and letters a reading holds, each counted each time it is reached (what is shared counts as often as it is met; a slice's spare places count too). A statement '..UptoSaid' is the law's where the arguments, and the package variables that the reading takes, are together of bulk at most 1048576: NARROWER than '..Said'. Prove '..Said' where nothing that the law and all that it calls make is longer than what came in: it says more and counts as full. Else prove '..UptoSaid'. A law counts once. -/
mutual
def uptoBulk {H : Type} : DataW H → Nat
  | .lit (.string bytes) => bytes.length + 1
  | .lit _ => 1
  | .nil => 1
  | .ptr d => uptoBulk d + 1
  | .slice elems spare => uptoBulkAll elems + uptoBulkAll spare + 1
  | .agg parts => uptoBulkAll parts + 1
  | .iface _ d => uptoBulk d + 1
  | .map entries => uptoBulkEntries entries + 1
  | .held _ => 1
def uptoBulkAll {H : Type} : List (DataW H) → Nat
  | [] => 0
  | d :: r => uptoBulk d + uptoBulkAll r
def uptoBulkEntries {H : Type} : List (Lit × DataW H) → Nat
  | [] => 0
  | x :: r => uptoBulkEntry x + uptoBulkEntries r
def uptoBulkEntry {H : Type} : Lit × DataW H → Nat
  | (.string bytes, d) => bytes.length + uptoBulk d + 1
  | (_, d) => uptoBulk d + 1
 end
def uptoSmall : (H : Type) → List (DataW H) → Bool := fun _ ds => decide (uptoBulkAll ds ≤ 1048576)
def OpenSpec.upto (s : _root_.Go.ChangeSpec) : _root_.Go.OpenSpec := { _root_.Go.OpenSpec.ofChange s with cond := some uptoSmall }

/-- 'tipstafflaw2.RecordTells', WHERE WHAT IT READS IS OF BULK AT MOST 1048576: true; the input reads as it did. -/
def recordTellsUptoRow : OpenClaim := { program := "ytgjceiomfccbbaa", sum := "3f5784d75884ed043210690188e31361cb5e7a5c3c4817fe9e69798eb1c70d02", func := "tipstaff/tipstafflaw2.RecordTells", spec := "recordTells", apart := false, narrowed := true }
def RecordTellsUptoSaid : Prop := recordTellsUptoRow.holds Try.pinned (OpenSpec.upto recordTellsSpec)

/-- 'tipstafflaw2.RecordHalves', WHERE WHAT IT READS IS OF BULK AT MOST 1048576: true; the input reads as it did. -/
def recordHalvesUptoRow : OpenClaim := { program := "ytgjceiomfccbbaa", sum := "3f5784d75884ed043210690188e31361cb5e7a5c3c4817fe9e69798eb1c70d02", func := "tipstaff/tipstafflaw2.RecordHalves", spec := "recordHalves", apart := false, narrowed := true }
def RecordHalvesUptoSaid : Prop := recordHalvesUptoRow.holds Try.pinned (OpenSpec.upto recordHalvesSpec)

/-- 'tipstafflaw4.CheckerWrong', WHERE WHAT IT READS IS OF BULK AT MOST 1048576: true; the input reads as it did. -/
def checkerWrongUptoRow : OpenClaim := { program := "ytgjceiomfccbbaa", sum := "3f5784d75884ed043210690188e31361cb5e7a5c3c4817fe9e69798eb1c70d02", func := "tipstaff/tipstafflaw4.CheckerWrong", spec := "checkerWrong", unfollowed := true, recurses := true, apart := false, narrowed := true }
def CheckerWrongUptoSaid : Prop := checkerWrongUptoRow.holds Try.pinned (OpenSpec.upto checkerWrongSpec)

/-- 'tipstafflaw4.CheckerMore', WHERE WHAT IT READS IS OF BULK AT MOST 1048576: true; the input reads as it did. -/
def checkerMoreUptoRow : OpenClaim := { program := "ytgjceiomfccbbaa", sum := "3f5784d75884ed043210690188e31361cb5e7a5c3c4817fe9e69798eb1c70d02", func := "tipstaff/tipstafflaw4.CheckerMore", spec := "checkerMore", unfollowed := true, recurses := true, apart := false, narrowed := true }
def CheckerMoreUptoSaid : Prop := checkerMoreUptoRow.holds Try.pinned (OpenSpec.upto checkerMoreSpec)

/-- 'tipstafflaw3.MachineRuns', WHERE WHAT IT READS IS OF BULK AT MOST 1048576: true; the input reads as it did. -/
def machineRunsUptoRow : OpenClaim := { program := "ytgjceiomfccbbaa", sum := "3f5784d75884ed043210690188e31361cb5e7a5c3c4817fe9e69798eb1c70d02", func := "tipstaff/tipstafflaw3.MachineRuns", spec := "machineRuns", apart := false, narrowed := true }
def MachineRunsUptoSaid : Prop := machineRunsUptoRow.holds Try.pinned (OpenSpec.upto machineRunsSpec)

/-- 'tipstafflaw3.MachineReckons', WHERE WHAT IT READS IS OF BULK AT MOST 1048576: true; the input reads as it did. -/
def machineReckonsUptoRow : OpenClaim := { program := "ytgjceiomfccbbaa", sum := "3f5784d75884ed043210690188e31361cb5e7a5c3c4817fe9e69798eb1c70d02", func := "tipstaff/tipstafflaw3.MachineReckons", spec := "machineReckons", apart := false, narrowed := true }
def MachineReckonsUptoSaid : Prop := machineReckonsUptoRow.holds Try.pinned (OpenSpec.upto machineReckonsSpec)

/-- 'tipstafflaw3.MachineJumps', WHERE WHAT IT READS IS OF BULK AT MOST 1048576: true; the input reads as it did. -/
def machineJumpsUptoRow : OpenClaim := { program := "ytgjceiomfccbbaa", sum := "3f5784d75884ed043210690188e31361cb5e7a5c3c4817fe9e69798eb1c70d02", func := "tipstaff/tipstafflaw3.MachineJumps", spec := "machineJumps", apart := false, narrowed := true }
def MachineJumpsUptoSaid : Prop := machineJumpsUptoRow.holds Try.pinned (OpenSpec.upto machineJumpsSpec)

/-- 'tipstafflaw3.MachineCells', WHERE WHAT IT READS IS OF BULK AT MOST 1048576: true; the input reads as it did. -/
def machineCellsUptoRow : OpenClaim := { program := "ytgjceiomfccbbaa", sum := "3f5784d75884ed043210690188e31361cb5e7a5c3c4817fe9e69798eb1c70d02", func := "tipstaff/tipstafflaw3.MachineCells", spec := "machineCells", apart := false, narrowed := true }
def MachineCellsUptoSaid : Prop := machineCellsUptoRow.holds Try.pinned (OpenSpec.upto machineCellsSpec)

/-- 'tipstafflaw3.MachineLoads', WHERE WHAT IT READS IS OF BULK AT MOST 1048576: true; the input reads as it did. -/
def machineLoadsUptoRow : OpenClaim := { program := "ytgjceiomfccbbaa", sum := "3f5784d75884ed043210690188e31361cb5e7a5c3c4817fe9e69798eb1c70d02", func := "tipstaff/tipstafflaw3.MachineLoads", spec := "machineLoads", apart := false, narrowed := true }
def MachineLoadsUptoSaid : Prop := machineLoadsUptoRow.holds Try.pinned (OpenSpec.upto machineLoadsSpec)

/-- 'tipstafflaw4.CheckerSafe', WHERE WHAT IT READS IS OF BULK AT MOST 1048576: true; the input reads as it did. -/
def checkerSafeUptoRow : OpenClaim := { program := "ytgjceiomfccbbaa", sum := "3f5784d75884ed043210690188e31361cb5e7a5c3c4817fe9e69798eb1c70d02", func := "tipstaff/tipstafflaw4.CheckerSafe", spec := "checkerSafe", unfollowed := true, recurses := true, apart := false, narrowed := true }
def CheckerSafeUptoSaid : Prop := checkerSafeUptoRow.holds Try.pinned (OpenSpec.upto checkerSafeSpec)

/-- 'tipstafflaw4.CheckerLong', WHERE WHAT IT READS IS OF BULK AT MOST 1048576: true; the input reads as it did. -/
def checkerLongUptoRow : OpenClaim := { program := "ytgjceiomfccbbaa", sum := "3f5784d75884ed043210690188e31361cb5e7a5c3c4817fe9e69798eb1c70d02", func := "tipstaff/tipstafflaw4.CheckerLong", spec := "checkerLong", unfollowed := true, recurses := true, apart := false, narrowed := true }
def CheckerLongUptoSaid : Prop := checkerLongUptoRow.holds Try.pinned (OpenSpec.upto checkerLongSpec)

end Rows
end Go.Proofs.Ytgjceiomfccbbaa
