/-
  DERIVED. GIVEN WITH THE SEED: THE CARDS: each row of YtnhnelgkcldkbaaGreatDoorRows.lean that lists a variable, with what it lists TIED to the program's text (the seventh form; the later family's looks); each row that meets fmt, with fmt's text TOLD by the authors' own Lean function (tested against real Go, not proved from fmt's source: count such statements apart). THE CARD IS WHAT COUNTS. Prove the row's statement (the work); the ties are given (YtnhnelgkcldkbaaGreatDoorTie.lean); close each card by the builder's one call (the guide's Derived/Test/ToyasCard.lean, 'card_holds'). Laid BY PROGRAM, IN A SANDBOX (cutbox-door.mjs). By AI agents, Wed Nov 11 2026. No macro, syntax, notation, axiom, sorry.
-/
import Derived.Test.YtnhnelgkcldkbaaGreatDoorRows
import GoSem.ClaimSeven
namespace Go.Proofs.YtnhnelgkcldkbaaGreatDoor
namespace Rows

/-- THE TIED CARD OF 'pawnshoptop.TopForm'. -/
def topFormCard : Claim7 := { stood := { row := topFormRow, standIns := [], harness := (true, "e8681e8d36b6527429877feba5b2dfefa495cb98cfabed46fb2bdb7d536da029"), looks := true }, kinds := [], alts := [], laidByText := true, laidKinds := [.data, .data, .data], laidTests := true, laidLooks := .later }
def TopFormCardSaid : Prop := Claim7.holds Tryz.pinned (.plain (OpenSpec.ofChange topFormSpec)) topFormCard

/-- THE TIED CARD OF 'pawnshoptop.TopCode'. -/
def topCodeCard : Claim7 := { stood := { row := topCodeRow, standIns := [], harness := (true, "e8681e8d36b6527429877feba5b2dfefa495cb98cfabed46fb2bdb7d536da029"), looks := true }, kinds := [], alts := [], laidByText := true, laidKinds := [.data, .data, .data, .sentinel, .sentinel], laidTests := true, laidLooks := .later }
def TopCodeCardSaid : Prop := Claim7.holds Tryz.pinned (.plain (OpenSpec.ofChange topCodeSpec)) topCodeCard

/-- THE SECOND FORM's CARD OF 'pawnshoptop.TopForm'. -/
def topFormUptoCard : Claim7 := { stood := { row := topFormUptoRow, standIns := [], harness := (true, "e8681e8d36b6527429877feba5b2dfefa495cb98cfabed46fb2bdb7d536da029"), looks := true }, kinds := [], alts := [], laidByText := true, laidKinds := [.data, .data, .data], laidTests := true, laidLooks := .later }
def TopFormUptoCardSaid : Prop := Claim7.holds Tryz.pinned (.plain (OpenSpec.upto topFormSpec)) topFormUptoCard

/-- THE SECOND FORM's CARD OF 'pawnshoptop.TopCode'. -/
def topCodeUptoCard : Claim7 := { stood := { row := topCodeUptoRow, standIns := [], harness := (true, "e8681e8d36b6527429877feba5b2dfefa495cb98cfabed46fb2bdb7d536da029"), looks := true }, kinds := [], alts := [], laidByText := true, laidKinds := [.data, .data, .data, .sentinel, .sentinel], laidTests := true, laidLooks := .later }
def TopCodeUptoCardSaid : Prop := Claim7.holds Tryz.pinned (.plain (OpenSpec.upto topCodeSpec)) topCodeUptoCard
end Rows
end Go.Proofs.YtnhnelgkcldkbaaGreatDoor
