/-
  DERIVED. GIVEN WITH THE SEED: THE CARDS: each row of YtncbkjokabgkbaaDoorRows.lean that lists a variable, with what it lists TIED to the program's text (the seventh form; the later family's looks); each row that meets fmt, with fmt's text TOLD by the authors' own Lean function (tested against real Go, not proved from fmt's source: count such statements apart). THE CARD IS WHAT COUNTS. Prove the row's statement (the work); the ties are given (YtncbkjokabgkbaaDoorTie.lean); close each card by the builder's one call (the guide's Derived/Test/ToyasCard.lean, 'card_holds'). Laid BY PROGRAM, IN A SANDBOX (cutbox-door.mjs). By AI agents, Wed Nov 11 2026. No macro, syntax, notation, axiom, sorry.
-/
import Derived.Test.YtncbkjokabgkbaaDoorRows
import GoSem.ClaimSeven
namespace Go.Proofs.YtncbkjokabgkbaaDoor
namespace Rows

/-- THE TIED CARD OF 'pawnshoplaw03.PlaceTells'. -/
def placeTellsCard : Claim7 := { stood := { row := placeTellsRow, standIns := [], harness := (true, "e071307971bd3a3544bf8c69bf4ef2b6671c6b1fac62b6f71e1f05cec4cefbc4"), looks := true }, kinds := [], alts := [], laidByText := true, laidKinds := [.data, .data, .data], laidTests := true, laidLooks := .later }
def PlaceTellsCardSaid : Prop := Claim7.holds Tryd.pinned (.plain (OpenSpec.ofChange placeTellsSpec)) placeTellsCard

/-- THE TIED CARD OF 'pawnshoplaw04.ValueOperands'. -/
def valueOperandsCard : Claim7 := { stood := { row := valueOperandsRow, standIns := [], harness := (true, "e071307971bd3a3544bf8c69bf4ef2b6671c6b1fac62b6f71e1f05cec4cefbc4"), looks := true }, kinds := [], alts := [], laidByText := true, laidKinds := [.data, .data, .data], laidTests := true, laidLooks := .later }
def ValueOperandsCardSaid : Prop := Claim7.holds Tryd.pinned (.plain (OpenSpec.ofChange valueOperandsSpec)) valueOperandsCard

/-- THE TIED CARD OF 'pawnshoplaw03.PlaceReads'. -/
def placeReadsCard : Claim7 := { stood := { row := placeReadsRow, standIns := [], harness := (true, "e071307971bd3a3544bf8c69bf4ef2b6671c6b1fac62b6f71e1f05cec4cefbc4"), looks := true }, kinds := [], alts := [], laidByText := true, laidKinds := [.data, .data, .data, .sentinel, .sentinel], laidTests := true, laidLooks := .later }
def PlaceReadsCardSaid : Prop := Claim7.holds Tryd.pinned (.plain (OpenSpec.ofChange placeReadsSpec)) placeReadsCard

/-- THE TIED CARD OF 'pawnshoplaw03.PlaceOrder'. -/
def placeOrderCard : Claim7 := { stood := { row := placeOrderRow, standIns := [], harness := (true, "e071307971bd3a3544bf8c69bf4ef2b6671c6b1fac62b6f71e1f05cec4cefbc4"), looks := true }, kinds := [], alts := [], laidByText := true, laidKinds := [.data, .data, .data, .sentinel, .sentinel], laidTests := true, laidLooks := .later }
def PlaceOrderCardSaid : Prop := Claim7.holds Tryd.pinned (.plain (OpenSpec.ofChange placeOrderSpec)) placeOrderCard

/-- THE TIED CARD OF 'pawnshoplaw03.PlaceHalves'. -/
def placeHalvesCard : Claim7 := { stood := { row := placeHalvesRow, standIns := [], harness := (true, "e071307971bd3a3544bf8c69bf4ef2b6671c6b1fac62b6f71e1f05cec4cefbc4"), looks := true }, kinds := [], alts := [], laidByText := true, laidKinds := [.data, .data, .data, .sentinel, .sentinel], laidTests := true, laidLooks := .later }
def PlaceHalvesCardSaid : Prop := Claim7.holds Tryd.pinned (.plain (OpenSpec.ofChange placeHalvesSpec)) placeHalvesCard

/-- THE TIED CARD OF 'pawnshoplaw03.PlaceTexts'. -/
def placeTextsCard : Claim7 := { stood := { row := placeTextsRow, standIns := [], harness := (true, "e071307971bd3a3544bf8c69bf4ef2b6671c6b1fac62b6f71e1f05cec4cefbc4"), looks := true }, kinds := [], alts := [], laidByText := true, laidKinds := [.data, .data, .data, .sentinel, .sentinel], laidTests := true, laidLooks := .later }
def PlaceTextsCardSaid : Prop := Claim7.holds Tryd.pinned (.plain (OpenSpec.ofChange placeTextsSpec)) placeTextsCard

/-- THE TIED CARD OF 'pawnshoplaw03.PlaceNames'. -/
def placeNamesCard : Claim7 := { stood := { row := placeNamesRow, standIns := [], harness := (true, "e071307971bd3a3544bf8c69bf4ef2b6671c6b1fac62b6f71e1f05cec4cefbc4"), looks := true }, kinds := [], alts := [], laidByText := true, laidKinds := [.data, .data, .data, .sentinel, .sentinel], laidTests := true, laidLooks := .later }
def PlaceNamesCardSaid : Prop := Claim7.holds Tryd.pinned (.plain (OpenSpec.ofChange placeNamesSpec)) placeNamesCard

/-- THE TIED CARD OF 'pawnshoplaw03.PlaceMeets'. -/
def placeMeetsCard : Claim7 := { stood := { row := placeMeetsRow, standIns := [], harness := (true, "e071307971bd3a3544bf8c69bf4ef2b6671c6b1fac62b6f71e1f05cec4cefbc4"), looks := true }, kinds := [], alts := [], laidByText := true, laidKinds := [.data, .data, .data, .sentinel, .sentinel], laidTests := true, laidLooks := .later }
def PlaceMeetsCardSaid : Prop := Claim7.holds Tryd.pinned (.plain (OpenSpec.ofChange placeMeetsSpec)) placeMeetsCard

/-- THE TIED CARD OF 'pawnshoplaw04.ValueNames'. -/
def valueNamesCard : Claim7 := { stood := { row := valueNamesRow, standIns := [], harness := (true, "e071307971bd3a3544bf8c69bf4ef2b6671c6b1fac62b6f71e1f05cec4cefbc4"), looks := true }, kinds := [], alts := [], laidByText := true, laidKinds := [.data, .data, .data], laidTests := true, laidLooks := .later }
def ValueNamesCardSaid : Prop := Claim7.holds Tryd.pinned (.plain (OpenSpec.ofChange valueNamesSpec)) valueNamesCard

/-- THE TIED CARD OF 'pawnshoplaw04.ValueTells'. -/
def valueTellsCard : Claim7 := { stood := { row := valueTellsRow, standIns := [], harness := (true, "e071307971bd3a3544bf8c69bf4ef2b6671c6b1fac62b6f71e1f05cec4cefbc4"), looks := true }, kinds := [], alts := [], laidByText := true, laidKinds := [.data, .data, .data], laidTests := true, laidLooks := .later }
def ValueTellsCardSaid : Prop := Claim7.holds Tryd.pinned (.plain (OpenSpec.ofChange valueTellsSpec)) valueTellsCard

/-- THE TIED CARD OF 'pawnshoplaw04.ValueUses'. -/
def valueUsesCard : Claim7 := { stood := { row := valueUsesRow, standIns := [], harness := (true, "e071307971bd3a3544bf8c69bf4ef2b6671c6b1fac62b6f71e1f05cec4cefbc4"), looks := true }, kinds := [], alts := [], laidByText := true, laidKinds := [.data, .data, .data], laidTests := true, laidLooks := .later }
def ValueUsesCardSaid : Prop := Claim7.holds Tryd.pinned (.plain (OpenSpec.ofChange valueUsesSpec)) valueUsesCard

/-- THE TIED CARD OF 'pawnshoplaw04.ValueTexts'. -/
def valueTextsCard : Claim7 := { stood := { row := valueTextsRow, standIns := [], harness := (true, "e071307971bd3a3544bf8c69bf4ef2b6671c6b1fac62b6f71e1f05cec4cefbc4"), looks := true }, kinds := [], alts := [], laidByText := true, laidKinds := [.data, .data, .data], laidTests := true, laidLooks := .later }
def ValueTextsCardSaid : Prop := Claim7.holds Tryd.pinned (.plain (OpenSpec.ofChange valueTextsSpec)) valueTextsCard

/-- THE TIED CARD OF 'pawnshoplaw04.ValueSpare'. -/
def valueSpareCard : Claim7 := { stood := { row := valueSpareRow, standIns := [], harness := (true, "e071307971bd3a3544bf8c69bf4ef2b6671c6b1fac62b6f71e1f05cec4cefbc4"), looks := true }, kinds := [], alts := [], laidByText := true, laidKinds := [.data, .data, .data], laidTests := true, laidLooks := .later }
def ValueSpareCardSaid : Prop := Claim7.holds Tryd.pinned (.plain (OpenSpec.ofChange valueSpareSpec)) valueSpareCard

/-- THE SECOND FORM's CARD OF 'pawnshoplaw03.PlaceTells'. -/
def placeTellsUptoCard : Claim7 := { stood := { row := placeTellsUptoRow, standIns := [], harness := (true, "e071307971bd3a3544bf8c69bf4ef2b6671c6b1fac62b6f71e1f05cec4cefbc4"), looks := true }, kinds := [], alts := [], laidByText := true, laidKinds := [.data, .data, .data], laidTests := true, laidLooks := .later }
def PlaceTellsUptoCardSaid : Prop := Claim7.holds Tryd.pinned (.plain (OpenSpec.upto placeTellsSpec)) placeTellsUptoCard

/-- THE SECOND FORM's CARD OF 'pawnshoplaw04.ValueOperands'. -/
def valueOperandsUptoCard : Claim7 := { stood := { row := valueOperandsUptoRow, standIns := [], harness := (true, "e071307971bd3a3544bf8c69bf4ef2b6671c6b1fac62b6f71e1f05cec4cefbc4"), looks := true }, kinds := [], alts := [], laidByText := true, laidKinds := [.data, .data, .data], laidTests := true, laidLooks := .later }
def ValueOperandsUptoCardSaid : Prop := Claim7.holds Tryd.pinned (.plain (OpenSpec.upto valueOperandsSpec)) valueOperandsUptoCard

/-- THE SECOND FORM's CARD OF 'pawnshoplaw03.PlaceReads'. -/
def placeReadsUptoCard : Claim7 := { stood := { row := placeReadsUptoRow, standIns := [], harness := (true, "e071307971bd3a3544bf8c69bf4ef2b6671c6b1fac62b6f71e1f05cec4cefbc4"), looks := true }, kinds := [], alts := [], laidByText := true, laidKinds := [.data, .data, .data, .sentinel, .sentinel], laidTests := true, laidLooks := .later }
def PlaceReadsUptoCardSaid : Prop := Claim7.holds Tryd.pinned (.plain (OpenSpec.upto placeReadsSpec)) placeReadsUptoCard

/-- THE SECOND FORM's CARD OF 'pawnshoplaw03.PlaceOrder'. -/
def placeOrderUptoCard : Claim7 := { stood := { row := placeOrderUptoRow, standIns := [], harness := (true, "e071307971bd3a3544bf8c69bf4ef2b6671c6b1fac62b6f71e1f05cec4cefbc4"), looks := true }, kinds := [], alts := [], laidByText := true, laidKinds := [.data, .data, .data, .sentinel, .sentinel], laidTests := true, laidLooks := .later }
def PlaceOrderUptoCardSaid : Prop := Claim7.holds Tryd.pinned (.plain (OpenSpec.upto placeOrderSpec)) placeOrderUptoCard

/-- THE SECOND FORM's CARD OF 'pawnshoplaw03.PlaceHalves'. -/
def placeHalvesUptoCard : Claim7 := { stood := { row := placeHalvesUptoRow, standIns := [], harness := (true, "e071307971bd3a3544bf8c69bf4ef2b6671c6b1fac62b6f71e1f05cec4cefbc4"), looks := true }, kinds := [], alts := [], laidByText := true, laidKinds := [.data, .data, .data, .sentinel, .sentinel], laidTests := true, laidLooks := .later }
def PlaceHalvesUptoCardSaid : Prop := Claim7.holds Tryd.pinned (.plain (OpenSpec.upto placeHalvesSpec)) placeHalvesUptoCard

/-- THE SECOND FORM's CARD OF 'pawnshoplaw03.PlaceTexts'. -/
def placeTextsUptoCard : Claim7 := { stood := { row := placeTextsUptoRow, standIns := [], harness := (true, "e071307971bd3a3544bf8c69bf4ef2b6671c6b1fac62b6f71e1f05cec4cefbc4"), looks := true }, kinds := [], alts := [], laidByText := true, laidKinds := [.data, .data, .data, .sentinel, .sentinel], laidTests := true, laidLooks := .later }
def PlaceTextsUptoCardSaid : Prop := Claim7.holds Tryd.pinned (.plain (OpenSpec.upto placeTextsSpec)) placeTextsUptoCard

/-- THE SECOND FORM's CARD OF 'pawnshoplaw03.PlaceNames'. -/
def placeNamesUptoCard : Claim7 := { stood := { row := placeNamesUptoRow, standIns := [], harness := (true, "e071307971bd3a3544bf8c69bf4ef2b6671c6b1fac62b6f71e1f05cec4cefbc4"), looks := true }, kinds := [], alts := [], laidByText := true, laidKinds := [.data, .data, .data, .sentinel, .sentinel], laidTests := true, laidLooks := .later }
def PlaceNamesUptoCardSaid : Prop := Claim7.holds Tryd.pinned (.plain (OpenSpec.upto placeNamesSpec)) placeNamesUptoCard

/-- THE SECOND FORM's CARD OF 'pawnshoplaw03.PlaceMeets'. -/
def placeMeetsUptoCard : Claim7 := { stood := { row := placeMeetsUptoRow, standIns := [], harness := (true, "e071307971bd3a3544bf8c69bf4ef2b6671c6b1fac62b6f71e1f05cec4cefbc4"), looks := true }, kinds := [], alts := [], laidByText := true, laidKinds := [.data, .data, .data, .sentinel, .sentinel], laidTests := true, laidLooks := .later }
def PlaceMeetsUptoCardSaid : Prop := Claim7.holds Tryd.pinned (.plain (OpenSpec.upto placeMeetsSpec)) placeMeetsUptoCard

/-- THE SECOND FORM's CARD OF 'pawnshoplaw04.ValueNames'. -/
def valueNamesUptoCard : Claim7 := { stood := { row := valueNamesUptoRow, standIns := [], harness := (true, "e071307971bd3a3544bf8c69bf4ef2b6671c6b1fac62b6f71e1f05cec4cefbc4"), looks := true }, kinds := [], alts := [], laidByText := true, laidKinds := [.data, .data, .data], laidTests := true, laidLooks := .later }
def ValueNamesUptoCardSaid : Prop := Claim7.holds Tryd.pinned (.plain (OpenSpec.upto valueNamesSpec)) valueNamesUptoCard

/-- THE SECOND FORM's CARD OF 'pawnshoplaw04.ValueTells'. -/
def valueTellsUptoCard : Claim7 := { stood := { row := valueTellsUptoRow, standIns := [], harness := (true, "e071307971bd3a3544bf8c69bf4ef2b6671c6b1fac62b6f71e1f05cec4cefbc4"), looks := true }, kinds := [], alts := [], laidByText := true, laidKinds := [.data, .data, .data], laidTests := true, laidLooks := .later }
def ValueTellsUptoCardSaid : Prop := Claim7.holds Tryd.pinned (.plain (OpenSpec.upto valueTellsSpec)) valueTellsUptoCard

/-- THE SECOND FORM's CARD OF 'pawnshoplaw04.ValueUses'. -/
def valueUsesUptoCard : Claim7 := { stood := { row := valueUsesUptoRow, standIns := [], harness := (true, "e071307971bd3a3544bf8c69bf4ef2b6671c6b1fac62b6f71e1f05cec4cefbc4"), looks := true }, kinds := [], alts := [], laidByText := true, laidKinds := [.data, .data, .data], laidTests := true, laidLooks := .later }
def ValueUsesUptoCardSaid : Prop := Claim7.holds Tryd.pinned (.plain (OpenSpec.upto valueUsesSpec)) valueUsesUptoCard

/-- THE SECOND FORM's CARD OF 'pawnshoplaw04.ValueTexts'. -/
def valueTextsUptoCard : Claim7 := { stood := { row := valueTextsUptoRow, standIns := [], harness := (true, "e071307971bd3a3544bf8c69bf4ef2b6671c6b1fac62b6f71e1f05cec4cefbc4"), looks := true }, kinds := [], alts := [], laidByText := true, laidKinds := [.data, .data, .data], laidTests := true, laidLooks := .later }
def ValueTextsUptoCardSaid : Prop := Claim7.holds Tryd.pinned (.plain (OpenSpec.upto valueTextsSpec)) valueTextsUptoCard

/-- THE SECOND FORM's CARD OF 'pawnshoplaw04.ValueSpare'. -/
def valueSpareUptoCard : Claim7 := { stood := { row := valueSpareUptoRow, standIns := [], harness := (true, "e071307971bd3a3544bf8c69bf4ef2b6671c6b1fac62b6f71e1f05cec4cefbc4"), looks := true }, kinds := [], alts := [], laidByText := true, laidKinds := [.data, .data, .data], laidTests := true, laidLooks := .later }
def ValueSpareUptoCardSaid : Prop := Claim7.holds Tryd.pinned (.plain (OpenSpec.upto valueSpareSpec)) valueSpareUptoCard
end Rows
end Go.Proofs.YtncbkjokabgkbaaDoor
