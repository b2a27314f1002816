/-
  DERIVED. GIVEN WITH THE SEED: THE CARDS: each row of YtglmonlofejcgaaDoorRows.lean that lists a variable, with what it lists TIED to the program's text (the seventh form; the later family's looks); each row that meets fmt, with fmt's text TOLD by the authors' own Lean function (tested against real Go, not proved from fmt's source: count such statements apart). THE CARD IS WHAT COUNTS. Prove the row's statement (the work); the ties are given (YtglmonlofejcgaaDoorTie.lean); close each card by the builder's one call (the guide's Derived/Test/ToyasCard.lean, 'card_holds'). Laid BY PROGRAM, IN A SANDBOX (cutbox-door.mjs). By AI agents, Wed Nov 11 2026. No macro, syntax, notation, axiom, sorry.
-/
import Derived.Test.YtglmonlofejcgaaDoorRows
import GoSem.ClaimSeven
namespace Go.Proofs.YtglmonlofejcgaaDoor
namespace Rows

/-- THE TIED CARD OF 'pawnshoplaw12.TextHead'. -/
def textHeadCard : Claim7 := { stood := { row := textHeadRow, standIns := [], harness := (true, "9c1c2fde05b3d2d0ac103e2bc596dc174256f6113ed376e728f279b6f81a9188"), looks := false }, kinds := [], alts := [], laidByText := true, laidKinds := [.data, .data, .data], laidTests := true, laidLooks := .later }
def TextHeadCardSaid : Prop := Claim7.holds Tryd.pinned (.plain (OpenSpec.ofChange textHeadSpec)) textHeadCard

/-- THE TIED CARD OF 'pawnshoplaw12.TextLines'. -/
def textLinesCard : Claim7 := { stood := { row := textLinesRow, standIns := [], harness := (true, "9c1c2fde05b3d2d0ac103e2bc596dc174256f6113ed376e728f279b6f81a9188"), looks := false }, kinds := [], alts := [], laidByText := true, laidKinds := [.data, .data, .data], laidTests := true, laidLooks := .later }
def TextLinesCardSaid : Prop := Claim7.holds Tryd.pinned (.plain (OpenSpec.ofChange textLinesSpec)) textLinesCard

/-- THE TIED CARD OF 'pawnshoplaw12.TextNames'. -/
def textNamesCard : Claim7 := { stood := { row := textNamesRow, standIns := [], harness := (true, "9c1c2fde05b3d2d0ac103e2bc596dc174256f6113ed376e728f279b6f81a9188"), looks := false }, kinds := [], alts := [], laidByText := true, laidKinds := [.data, .data, .data], laidTests := true, laidLooks := .later }
def TextNamesCardSaid : Prop := Claim7.holds Tryd.pinned (.plain (OpenSpec.ofChange textNamesSpec)) textNamesCard

/-- THE SECOND FORM's CARD OF 'pawnshoplaw12.TextHead'. -/
def textHeadUptoCard : Claim7 := { stood := { row := textHeadUptoRow, standIns := [], harness := (true, "9c1c2fde05b3d2d0ac103e2bc596dc174256f6113ed376e728f279b6f81a9188"), looks := false }, kinds := [], alts := [], laidByText := true, laidKinds := [.data, .data, .data], laidTests := true, laidLooks := .later }
def TextHeadUptoCardSaid : Prop := Claim7.holds Tryd.pinned (.plain (OpenSpec.upto textHeadSpec)) textHeadUptoCard

/-- THE SECOND FORM's CARD OF 'pawnshoplaw12.TextLines'. -/
def textLinesUptoCard : Claim7 := { stood := { row := textLinesUptoRow, standIns := [], harness := (true, "9c1c2fde05b3d2d0ac103e2bc596dc174256f6113ed376e728f279b6f81a9188"), looks := false }, kinds := [], alts := [], laidByText := true, laidKinds := [.data, .data, .data], laidTests := true, laidLooks := .later }
def TextLinesUptoCardSaid : Prop := Claim7.holds Tryd.pinned (.plain (OpenSpec.upto textLinesSpec)) textLinesUptoCard

/-- THE SECOND FORM's CARD OF 'pawnshoplaw12.TextNames'. -/
def textNamesUptoCard : Claim7 := { stood := { row := textNamesUptoRow, standIns := [], harness := (true, "9c1c2fde05b3d2d0ac103e2bc596dc174256f6113ed376e728f279b6f81a9188"), looks := false }, kinds := [], alts := [], laidByText := true, laidKinds := [.data, .data, .data], laidTests := true, laidLooks := .later }
def TextNamesUptoCardSaid : Prop := Claim7.holds Tryd.pinned (.plain (OpenSpec.upto textNamesSpec)) textNamesUptoCard
end Rows
end Go.Proofs.YtglmonlofejcgaaDoor
