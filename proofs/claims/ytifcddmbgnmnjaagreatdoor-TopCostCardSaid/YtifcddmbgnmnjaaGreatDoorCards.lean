/-
  DERIVED. GIVEN WITH THE SEED: THE CARDS: each row of YtifcddmbgnmnjaaGreatDoorRows.lean that lists a variable, with what it lists TIED to the program's text (the seventh form; the later family's looks); each row that meets fmt, with fmt's text TOLD by the authors' own Lean function (tested against real Go, not proved from fmt's source: count such statements apart). THE CARD IS WHAT COUNTS. Prove the row's statement (the work); the ties are given (YtifcddmbgnmnjaaGreatDoorTie.lean); close each card by the builder's one call (the guide's Derived/Test/ToyasCard.lean, 'card_holds'). Laid BY PROGRAM, IN A SANDBOX (cutbox-door.mjs). By AI agents, Wed Nov 11 2026. No macro, syntax, notation, axiom, sorry.
-/
import Derived.Test.YtifcddmbgnmnjaaGreatDoorRows
import GoSem.ClaimSeven
namespace Go.Proofs.YtifcddmbgnmnjaaGreatDoor
namespace Rows

/-- THE TIED CARD OF 'tipstafftop.TopArches'. -/
def topArchesCard : Claim7 := { stood := { row := topArchesRow, standIns := [], harness := (true, "1c29be2401b4ea8089541c1e8962e13fa9932ea8ca124efafeb7dd744b117b3b"), looks := true }, kinds := [], alts := [], laidByText := true, laidKinds := [.data, .listed, .data, .pinned], laidTests := true, laidLooks := .later }
def TopArchesCardSaid : Prop := Claim7.holds Tryz.pinned (.plain (OpenSpec.ofChange topArchesSpec)) topArchesCard

/-- THE TIED CARD OF 'tipstafftop.TopBlind'. -/
def topBlindCard : Claim7 := { stood := { row := topBlindRow, standIns := [], harness := (true, "1c29be2401b4ea8089541c1e8962e13fa9932ea8ca124efafeb7dd744b117b3b"), looks := true }, kinds := [], alts := [], laidByText := true, laidKinds := [.data, .listed, .data, .pinned], laidTests := true, laidLooks := .later }
def TopBlindCardSaid : Prop := Claim7.holds Tryz.pinned (.plain (OpenSpec.ofChange topBlindSpec)) topBlindCard

/-- THE TIED CARD OF 'tipstafftop.TopCost'. -/
def topCostCard : Claim7 := { stood := { row := topCostRow, standIns := [], harness := (true, "1c29be2401b4ea8089541c1e8962e13fa9932ea8ca124efafeb7dd744b117b3b"), looks := true }, kinds := [], alts := [], laidByText := true, laidKinds := [.data, .listed, .data, .pinned], laidTests := true, laidLooks := .later }
def TopCostCardSaid : Prop := Claim7.holds Tryz.pinned (.plain (OpenSpec.ofChange topCostSpec)) topCostCard

/-- THE SECOND FORM's CARD OF 'tipstafftop.TopArches'. -/
def topArchesUptoCard : Claim7 := { stood := { row := topArchesUptoRow, standIns := [], harness := (true, "1c29be2401b4ea8089541c1e8962e13fa9932ea8ca124efafeb7dd744b117b3b"), looks := true }, kinds := [], alts := [], laidByText := true, laidKinds := [.data, .listed, .data, .pinned], laidTests := true, laidLooks := .later }
def TopArchesUptoCardSaid : Prop := Claim7.holds Tryz.pinned (.plain (OpenSpec.upto topArchesSpec)) topArchesUptoCard

/-- THE SECOND FORM's CARD OF 'tipstafftop.TopBlind'. -/
def topBlindUptoCard : Claim7 := { stood := { row := topBlindUptoRow, standIns := [], harness := (true, "1c29be2401b4ea8089541c1e8962e13fa9932ea8ca124efafeb7dd744b117b3b"), looks := true }, kinds := [], alts := [], laidByText := true, laidKinds := [.data, .listed, .data, .pinned], laidTests := true, laidLooks := .later }
def TopBlindUptoCardSaid : Prop := Claim7.holds Tryz.pinned (.plain (OpenSpec.upto topBlindSpec)) topBlindUptoCard

/-- THE SECOND FORM's CARD OF 'tipstafftop.TopCost'. -/
def topCostUptoCard : Claim7 := { stood := { row := topCostUptoRow, standIns := [], harness := (true, "1c29be2401b4ea8089541c1e8962e13fa9932ea8ca124efafeb7dd744b117b3b"), looks := true }, kinds := [], alts := [], laidByText := true, laidKinds := [.data, .listed, .data, .pinned], laidTests := true, laidLooks := .later }
def TopCostUptoCardSaid : Prop := Claim7.holds Tryz.pinned (.plain (OpenSpec.upto topCostSpec)) topCostUptoCard
end Rows
end Go.Proofs.YtifcddmbgnmnjaaGreatDoor
