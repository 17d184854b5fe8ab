/-
  NARROWER THAN 'FOR EVERY INPUT', by the rows' own cells (each row's printed sentence says how): PushTells: loops · PushMeans: loops · PushTwice: loops · SenseTells: loops · SenseLaws: loops · ClausesTell: loops · ClausesMean: loops.
  DERIVED. THE GIVEN ROWS OF THIS SEAT. 9 by the template 'for every input the law returns true; each argument reads behind the call as it read before'; 0 by the template 'total and deterministic' (their statements: YtimkgalclegffaaTotals.lean).
  GIVEN WITH THE SEED: the statements are not yours to turn. If you find one false, say at which input.
  Laid BY PROGRAM, IN A SANDBOX (cutbox-rows.mjs): the forced cells as the released guide's own fill.sh prints them over the translation dba3b8123d946e5b… (all of the seat's roots in one cut). By AI agents, Wed Nov 11 2026. No macro, syntax, notation, axiom, sorry.
-/
import Derived.Test.YtimkgalclegffaaChecked
import GoSem.Claim
import GoSem.ClaimJoined
import GoSem.ClaimMapViews
import Derived.JoinedTies
import Derived.KernelRfl
namespace Go.Proofs.Ytimkgalclegffaa
/- THE CELL 'sum', in the pinned program and in every row, IS THE sha256 OF THE DUMP (.gsa) THAT YtimkgalclegffaaProg.lean LOADS. Nothing in Lean hashes anything: it is a label: what it is worth is what the hold of that sum in a sandbox is worth. -/
noncomputable def Try.pinned : Pinned := { name := "ytimkgalclegffaa", sum := "dba3b8123d946e5be2ff974f336ac58802f52d422ebe0eae9ab0cc9331a1075e", checked := Try.checked }
namespace Rows
def none {H : Type} : Left H := { results := [], args := [] }

/-- 'tipstafflaw18.PushTells': WHATEVER THE INPUT: true; the input reads as it did. -/
def pushTellsSpec : ChangeSpec := { name := "pushTells", fn := fun _ => fun
  | [d] => { results := [.lit (.bool true)], args := [d] }
  | _ => none }
def pushTellsRow : OpenClaim := { program := "ytimkgalclegffaa", sum := "dba3b8123d946e5be2ff974f336ac58802f52d422ebe0eae9ab0cc9331a1075e", func := "tipstaff/tipstafflaw18.PushTells", spec := "pushTells", unfollowed := true, recurses := true, loops := true, apart := false }
def PushTellsSaid : Prop := pushTellsRow.holds Try.pinned (OpenSpec.ofChange pushTellsSpec)

/-- ITS FALSE NEIGHBOUR: 'it returns false'. Refute it at one input. -/
def pushTellsWrong : ChangeSpec := { name := "pushTells", fn := fun _ => fun
  | [d] => { results := [.lit (.bool false)], args := [d] }
  | _ => none }
def PushTellsWrongFalsely : Prop := pushTellsRow.holds Try.pinned (OpenSpec.ofChange pushTellsWrong)

/-- 'tipstafflaw18.PushMeans': WHATEVER THE INPUT: true; the input reads as it did. -/
def pushMeansSpec : ChangeSpec := { name := "pushMeans", fn := fun _ => fun
  | [d1, d2] => { results := [.lit (.bool true)], args := [d1, d2] }
  | _ => none }
def pushMeansRow : OpenClaim := { program := "ytimkgalclegffaa", sum := "dba3b8123d946e5be2ff974f336ac58802f52d422ebe0eae9ab0cc9331a1075e", func := "tipstaff/tipstafflaw18.PushMeans", spec := "pushMeans", unfollowed := true, recurses := true, loops := true, apart := false }
def PushMeansSaid : Prop := pushMeansRow.holds Try.pinned (OpenSpec.ofChange pushMeansSpec)

/-- ITS FALSE NEIGHBOUR: 'it returns false'. Refute it at one input. -/
def pushMeansWrong : ChangeSpec := { name := "pushMeans", fn := fun _ => fun
  | [d1, d2] => { results := [.lit (.bool false)], args := [d1, d2] }
  | _ => none }
def PushMeansWrongFalsely : Prop := pushMeansRow.holds Try.pinned (OpenSpec.ofChange pushMeansWrong)

/-- 'tipstafflaw18.PushTwice': WHATEVER THE INPUT: true; the input reads as it did. -/
def pushTwiceSpec : ChangeSpec := { name := "pushTwice", fn := fun _ => fun
  | [d1, d2] => { results := [.lit (.bool true)], args := [d1, d2] }
  | _ => none }
def pushTwiceRow : OpenClaim := { program := "ytimkgalclegffaa", sum := "dba3b8123d946e5be2ff974f336ac58802f52d422ebe0eae9ab0cc9331a1075e", func := "tipstaff/tipstafflaw18.PushTwice", spec := "pushTwice", unfollowed := true, recurses := true, loops := true, apart := false }
def PushTwiceSaid : Prop := pushTwiceRow.holds Try.pinned (OpenSpec.ofChange pushTwiceSpec)

/-- ITS FALSE NEIGHBOUR: 'it returns false'. Refute it at one input. -/
def pushTwiceWrong : ChangeSpec := { name := "pushTwice", fn := fun _ => fun
  | [d1, d2] => { results := [.lit (.bool false)], args := [d1, d2] }
  | _ => none }
def PushTwiceWrongFalsely : Prop := pushTwiceRow.holds Try.pinned (OpenSpec.ofChange pushTwiceWrong)

/-- 'tipstafflaw17.SenseTells': WHATEVER THE INPUT: true; the input reads as it did. -/
def senseTellsSpec : ChangeSpec := { name := "senseTells", fn := fun _ => fun
  | [d1, d2] => { results := [.lit (.bool true)], args := [d1, d2] }
  | _ => none }
def senseTellsRow : OpenClaim := { program := "ytimkgalclegffaa", sum := "dba3b8123d946e5be2ff974f336ac58802f52d422ebe0eae9ab0cc9331a1075e", func := "tipstaff/tipstafflaw17.SenseTells", spec := "senseTells", unfollowed := true, recurses := true, loops := true, apart := false }
def SenseTellsSaid : Prop := senseTellsRow.holds Try.pinned (OpenSpec.ofChange senseTellsSpec)

/-- ITS FALSE NEIGHBOUR: 'it returns false'. Refute it at one input. -/
def senseTellsWrong : ChangeSpec := { name := "senseTells", fn := fun _ => fun
  | [d1, d2] => { results := [.lit (.bool false)], args := [d1, d2] }
  | _ => none }
def SenseTellsWrongFalsely : Prop := senseTellsRow.holds Try.pinned (OpenSpec.ofChange senseTellsWrong)

/-- 'tipstafflaw17.SenseLaws': WHATEVER THE INPUT: true; the input reads as it did. -/
def senseLawsSpec : ChangeSpec := { name := "senseLaws", fn := fun _ => fun
  | [d1, d2, d3] => { results := [.lit (.bool true)], args := [d1, d2, d3] }
  | _ => none }
def senseLawsRow : OpenClaim := { program := "ytimkgalclegffaa", sum := "dba3b8123d946e5be2ff974f336ac58802f52d422ebe0eae9ab0cc9331a1075e", func := "tipstaff/tipstafflaw17.SenseLaws", spec := "senseLaws", unfollowed := true, recurses := true, loops := true, apart := false }
def SenseLawsSaid : Prop := senseLawsRow.holds Try.pinned (OpenSpec.ofChange senseLawsSpec)

/-- ITS FALSE NEIGHBOUR: 'it returns false'. Refute it at one input. -/
def senseLawsWrong : ChangeSpec := { name := "senseLaws", fn := fun _ => fun
  | [d1, d2, d3] => { results := [.lit (.bool false)], args := [d1, d2, d3] }
  | _ => none }
def SenseLawsWrongFalsely : Prop := senseLawsRow.holds Try.pinned (OpenSpec.ofChange senseLawsWrong)

/-- 'tipstafftop.TopNames': WHATEVER THE INPUT: true; the input reads as it did. -/
def topNamesSpec : ChangeSpec := { name := "topNames", fn := fun _ => fun
  | [] => { results := [.lit (.bool true)], args := [] }
  | _ => none }
def topNamesRow : OpenClaim := { program := "ytimkgalclegffaa", sum := "dba3b8123d946e5be2ff974f336ac58802f52d422ebe0eae9ab0cc9331a1075e", func := "tipstaff/tipstafftop.TopNames", spec := "topNames", apart := false }
def TopNamesSaid : Prop := topNamesRow.holds Try.pinned (OpenSpec.ofChange topNamesSpec)

/-- ITS FALSE NEIGHBOUR: 'it returns false'. Refute it at one input. -/
def topNamesWrong : ChangeSpec := { name := "topNames", fn := fun _ => fun
  | [] => { results := [.lit (.bool false)], args := [] }
  | _ => none }
def TopNamesWrongFalsely : Prop := topNamesRow.holds Try.pinned (OpenSpec.ofChange topNamesWrong)

/-- 'tipstafflaw19.ClausesTell': WHATEVER THE INPUT: true; the input reads as it did. -/
def clausesTellSpec : ChangeSpec := { name := "clausesTell", fn := fun _ => fun
  | [d] => { results := [.lit (.bool true)], args := [d] }
  | _ => none }
def clausesTellRow : OpenClaim := { program := "ytimkgalclegffaa", sum := "dba3b8123d946e5be2ff974f336ac58802f52d422ebe0eae9ab0cc9331a1075e", func := "tipstaff/tipstafflaw19.ClausesTell", spec := "clausesTell", unfollowed := true, recurses := true, loops := true, apart := false }
def ClausesTellSaid : Prop := clausesTellRow.holds Try.pinned (OpenSpec.ofChange clausesTellSpec)

/-- ITS FALSE NEIGHBOUR: 'it returns false'. Refute it at one input. -/
def clausesTellWrong : ChangeSpec := { name := "clausesTell", fn := fun _ => fun
  | [d] => { results := [.lit (.bool false)], args := [d] }
  | _ => none }
def ClausesTellWrongFalsely : Prop := clausesTellRow.holds Try.pinned (OpenSpec.ofChange clausesTellWrong)

/-- 'tipstafflaw19.ClausesMean': WHATEVER THE INPUT: true; the input reads as it did. -/
def clausesMeanSpec : ChangeSpec := { name := "clausesMean", fn := fun _ => fun
  | [d1, d2] => { results := [.lit (.bool true)], args := [d1, d2] }
  | _ => none }
def clausesMeanRow : OpenClaim := { program := "ytimkgalclegffaa", sum := "dba3b8123d946e5be2ff974f336ac58802f52d422ebe0eae9ab0cc9331a1075e", func := "tipstaff/tipstafflaw19.ClausesMean", spec := "clausesMean", unfollowed := true, recurses := true, loops := true, apart := false }
def ClausesMeanSaid : Prop := clausesMeanRow.holds Try.pinned (OpenSpec.ofChange clausesMeanSpec)

/-- ITS FALSE NEIGHBOUR: 'it returns false'. Refute it at one input. -/
def clausesMeanWrong : ChangeSpec := { name := "clausesMean", fn := fun _ => fun
  | [d1, d2] => { results := [.lit (.bool false)], args := [d1, d2] }
  | _ => none }
def ClausesMeanWrongFalsely : Prop := clausesMeanRow.holds Try.pinned (OpenSpec.ofChange clausesMeanWrong)

/-- 'tipstafflaw19.ClausesMany': WHATEVER THE INPUT: true; the input reads as it did. -/
def clausesManySpec : ChangeSpec := { name := "clausesMany", fn := fun _ => fun
  | [d1, d2] => { results := [.lit (.bool true)], args := [d1, d2] }
  | _ => none }
def clausesManyRow : OpenClaim := { program := "ytimkgalclegffaa", sum := "dba3b8123d946e5be2ff974f336ac58802f52d422ebe0eae9ab0cc9331a1075e", func := "tipstaff/tipstafflaw19.ClausesMany", spec := "clausesMany", unfollowed := true, recurses := true, apart := false }
def ClausesManySaid : Prop := clausesManyRow.holds Try.pinned (OpenSpec.ofChange clausesManySpec)

/-- ITS FALSE NEIGHBOUR: 'it returns false'. Refute it at one input. -/
def clausesManyWrong : ChangeSpec := { name := "clausesMany", fn := fun _ => fun
  | [d1, d2] => { results := [.lit (.bool false)], args := [d1, d2] }
  | _ => none }
def ClausesManyWrongFalsely : Prop := clausesManyRow.holds Try.pinned (OpenSpec.ofChange clausesManyWrong)

/- THE SECOND FORM. 'bulk': how many values and letters a reading holds, each counted each time it is reached (what is shared counts as often as it is met; a slice's spare places count too). A statement '..UptoSaid' is the law's where the arguments, and the package variables that the reading takes, are together of bulk at most 1048576: NARROWER than '..Said'. Prove '..Said' where nothing that the law and all that it calls make is longer than what came in: it says more and counts as full. Else prove '..UptoSaid'. A law counts once. -/
mutual
def uptoBulk {H : Type} : DataW H → Nat
  | .lit (.string bytes) => bytes.length + 1
  | .lit _ => 1
  | .nil => 1
  | .ptr d => uptoBulk d + 1
  | .slice elems spare => uptoBulkAll elems + uptoBulkAll spare + 1
  | .agg parts => uptoBulkAll parts + 1
  | .iface _ d => uptoBulk d + 1
  | .map entries => uptoBulkEntries entries + 1
  | .held _ => 1
def uptoBulkAll {H : Type} : List (DataW H) → Nat
  | [] => 0
  | d :: r => uptoBulk d + uptoBulkAll r
def uptoBulkEntries {H : Type} : List (Lit × DataW H) → Nat
  | [] => 0
  | x :: r => uptoBulkEntry x + uptoBulkEntries r
def uptoBulkEntry {H : Type} : Lit × DataW H → Nat
  | (.string bytes, d) => bytes.length + uptoBulk d + 1
  | (_, d) => uptoBulk d + 1
 end
def uptoSmall : (H : Type) → List (DataW H) → Bool := fun _ ds => decide (uptoBulkAll ds ≤ 1048576)
def OpenSpec.upto (s : _root_.Go.ChangeSpec) : _root_.Go.OpenSpec := { _root_.Go.OpenSpec.ofChange s with cond := some uptoSmall }

/-- 'tipstafflaw18.PushTells', WHERE WHAT IT READS IS OF BULK AT MOST 1048576: true; the input reads as it did. -/
def pushTellsUptoRow : OpenClaim := { program := "ytimkgalclegffaa", sum := "dba3b8123d946e5be2ff974f336ac58802f52d422ebe0eae9ab0cc9331a1075e", func := "tipstaff/tipstafflaw18.PushTells", spec := "pushTells", unfollowed := true, recurses := true, loops := true, apart := false, narrowed := true }
def PushTellsUptoSaid : Prop := pushTellsUptoRow.holds Try.pinned (OpenSpec.upto pushTellsSpec)

/-- 'tipstafflaw18.PushMeans', WHERE WHAT IT READS IS OF BULK AT MOST 1048576: true; the input reads as it did. -/
def pushMeansUptoRow : OpenClaim := { program := "ytimkgalclegffaa", sum := "dba3b8123d946e5be2ff974f336ac58802f52d422ebe0eae9ab0cc9331a1075e", func := "tipstaff/tipstafflaw18.PushMeans", spec := "pushMeans", unfollowed := true, recurses := true, loops := true, apart := false, narrowed := true }
def PushMeansUptoSaid : Prop := pushMeansUptoRow.holds Try.pinned (OpenSpec.upto pushMeansSpec)

/-- 'tipstafflaw18.PushTwice', WHERE WHAT IT READS IS OF BULK AT MOST 1048576: true; the input reads as it did. -/
def pushTwiceUptoRow : OpenClaim := { program := "ytimkgalclegffaa", sum := "dba3b8123d946e5be2ff974f336ac58802f52d422ebe0eae9ab0cc9331a1075e", func := "tipstaff/tipstafflaw18.PushTwice", spec := "pushTwice", unfollowed := true, recurses := true, loops := true, apart := false, narrowed := true }
def PushTwiceUptoSaid : Prop := pushTwiceUptoRow.holds Try.pinned (OpenSpec.upto pushTwiceSpec)

/-- 'tipstafflaw17.SenseTells', WHERE WHAT IT READS IS OF BULK AT MOST 1048576: true; the input reads as it did. -/
def senseTellsUptoRow : OpenClaim := { program := "ytimkgalclegffaa", sum := "dba3b8123d946e5be2ff974f336ac58802f52d422ebe0eae9ab0cc9331a1075e", func := "tipstaff/tipstafflaw17.SenseTells", spec := "senseTells", unfollowed := true, recurses := true, loops := true, apart := false, narrowed := true }
def SenseTellsUptoSaid : Prop := senseTellsUptoRow.holds Try.pinned (OpenSpec.upto senseTellsSpec)

/-- 'tipstafflaw17.SenseLaws', WHERE WHAT IT READS IS OF BULK AT MOST 1048576: true; the input reads as it did. -/
def senseLawsUptoRow : OpenClaim := { program := "ytimkgalclegffaa", sum := "dba3b8123d946e5be2ff974f336ac58802f52d422ebe0eae9ab0cc9331a1075e", func := "tipstaff/tipstafflaw17.SenseLaws", spec := "senseLaws", unfollowed := true, recurses := true, loops := true, apart := false, narrowed := true }
def SenseLawsUptoSaid : Prop := senseLawsUptoRow.holds Try.pinned (OpenSpec.upto senseLawsSpec)

/-- 'tipstafftop.TopNames', WHERE WHAT IT READS IS OF BULK AT MOST 1048576: true; the input reads as it did. -/
def topNamesUptoRow : OpenClaim := { program := "ytimkgalclegffaa", sum := "dba3b8123d946e5be2ff974f336ac58802f52d422ebe0eae9ab0cc9331a1075e", func := "tipstaff/tipstafftop.TopNames", spec := "topNames", apart := false, narrowed := true }
def TopNamesUptoSaid : Prop := topNamesUptoRow.holds Try.pinned (OpenSpec.upto topNamesSpec)

/-- 'tipstafflaw19.ClausesTell', WHERE WHAT IT READS IS OF BULK AT MOST 1048576: true; the input reads as it did. -/
def clausesTellUptoRow : OpenClaim := { program := "ytimkgalclegffaa", sum := "dba3b8123d946e5be2ff974f336ac58802f52d422ebe0eae9ab0cc9331a1075e", func := "tipstaff/tipstafflaw19.ClausesTell", spec := "clausesTell", unfollowed := true, recurses := true, loops := true, apart := false, narrowed := true }
def ClausesTellUptoSaid : Prop := clausesTellUptoRow.holds Try.pinned (OpenSpec.upto clausesTellSpec)

/-- 'tipstafflaw19.ClausesMean', WHERE WHAT IT READS IS OF BULK AT MOST 1048576: true; the input reads as it did. -/
def clausesMeanUptoRow : OpenClaim := { program := "ytimkgalclegffaa", sum := "dba3b8123d946e5be2ff974f336ac58802f52d422ebe0eae9ab0cc9331a1075e", func := "tipstaff/tipstafflaw19.ClausesMean", spec := "clausesMean", unfollowed := true, recurses := true, loops := true, apart := false, narrowed := true }
def ClausesMeanUptoSaid : Prop := clausesMeanUptoRow.holds Try.pinned (OpenSpec.upto clausesMeanSpec)

/-- 'tipstafflaw19.ClausesMany', WHERE WHAT IT READS IS OF BULK AT MOST 1048576: true; the input reads as it did. -/
def clausesManyUptoRow : OpenClaim := { program := "ytimkgalclegffaa", sum := "dba3b8123d946e5be2ff974f336ac58802f52d422ebe0eae9ab0cc9331a1075e", func := "tipstaff/tipstafflaw19.ClausesMany", spec := "clausesMany", unfollowed := true, recurses := true, apart := false, narrowed := true }
def ClausesManyUptoSaid : Prop := clausesManyUptoRow.holds Try.pinned (OpenSpec.upto clausesManySpec)

end Rows
end Go.Proofs.Ytimkgalclegffaa
