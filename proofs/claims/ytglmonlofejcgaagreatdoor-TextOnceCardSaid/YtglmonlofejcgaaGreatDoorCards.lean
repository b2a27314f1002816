/-
  DERIVED. GIVEN WITH THE SEED: THE CARDS: each row of YtglmonlofejcgaaGreatDoorRows.lean that lists a variable, with what it lists TIED to the program's text (the seventh form; the later family's looks); each row that meets fmt, with fmt's text TOLD by the authors' own Lean function (tested against real Go, not proved from fmt's source: count such statements apart). THE CARD IS WHAT COUNTS. Prove the row's statement (the work); the ties are given (YtglmonlofejcgaaGreatDoorTie.lean); close each card by the builder's one call (the guide's Derived/Test/ToyasCard.lean, 'card_holds'). Laid BY PROGRAM, IN A SANDBOX (cutbox-door.mjs). By AI agents, Wed Nov 11 2026. No macro, syntax, notation, axiom, sorry.
-/
import Derived.Test.YtglmonlofejcgaaGreatDoorRows
import GoSem.ClaimSeven
namespace Go.Proofs.YtglmonlofejcgaaGreatDoor
namespace Rows

/-- THE TIED CARD OF 'pawnshoplaw12.TextFuncs'. -/
def textFuncsCard : Claim7 := { stood := { row := textFuncsRow, standIns := [], harness := (true, "8c3f80282f54b31e644f31a4a5ceb06d97eab7fb7e47b01e0b84ec173345749c"), looks := false }, kinds := [], alts := [], laidByText := true, laidKinds := [.data, .data, .data], laidTests := true, laidLooks := .later }
def TextFuncsCardSaid : Prop := Claim7.holds Tryz.pinned (.plain (OpenSpec.ofChange textFuncsSpec)) textFuncsCard

/-- THE TIED CARD OF 'pawnshoplaw12.TextPrograms'. -/
def textProgramsCard : Claim7 := { stood := { row := textProgramsRow, standIns := [], harness := (true, "8c3f80282f54b31e644f31a4a5ceb06d97eab7fb7e47b01e0b84ec173345749c"), looks := false }, kinds := [], alts := [], laidByText := true, laidKinds := [.data, .data, .data], laidTests := true, laidLooks := .later }
def TextProgramsCardSaid : Prop := Claim7.holds Tryz.pinned (.plain (OpenSpec.ofChange textProgramsSpec)) textProgramsCard

/-- THE TIED CARD OF 'pawnshoplaw12.TextOnce'. -/
def textOnceCard : Claim7 := { stood := { row := textOnceRow, standIns := [], harness := (true, "8c3f80282f54b31e644f31a4a5ceb06d97eab7fb7e47b01e0b84ec173345749c"), looks := false }, kinds := [], alts := [], laidByText := true, laidKinds := [.data, .data, .data], laidTests := true, laidLooks := .later }
def TextOnceCardSaid : Prop := Claim7.holds Tryz.pinned (.plain (OpenSpec.ofChange textOnceSpec)) textOnceCard

/-- THE TIED CARD OF 'pawnshoplaw12.TextParts'. -/
def textPartsCard : Claim7 := { stood := { row := textPartsRow, standIns := [], harness := (true, "8c3f80282f54b31e644f31a4a5ceb06d97eab7fb7e47b01e0b84ec173345749c"), looks := false }, kinds := [], alts := [], laidByText := true, laidKinds := [.data, .data, .data], laidTests := true, laidLooks := .later }
def TextPartsCardSaid : Prop := Claim7.holds Tryz.pinned (.plain (OpenSpec.ofChange textPartsSpec)) textPartsCard

/-- THE SECOND FORM's CARD OF 'pawnshoplaw12.TextFuncs'. -/
def textFuncsUptoCard : Claim7 := { stood := { row := textFuncsUptoRow, standIns := [], harness := (true, "8c3f80282f54b31e644f31a4a5ceb06d97eab7fb7e47b01e0b84ec173345749c"), looks := false }, kinds := [], alts := [], laidByText := true, laidKinds := [.data, .data, .data], laidTests := true, laidLooks := .later }
def TextFuncsUptoCardSaid : Prop := Claim7.holds Tryz.pinned (.plain (OpenSpec.upto textFuncsSpec)) textFuncsUptoCard

/-- THE SECOND FORM's CARD OF 'pawnshoplaw12.TextPrograms'. -/
def textProgramsUptoCard : Claim7 := { stood := { row := textProgramsUptoRow, standIns := [], harness := (true, "8c3f80282f54b31e644f31a4a5ceb06d97eab7fb7e47b01e0b84ec173345749c"), looks := false }, kinds := [], alts := [], laidByText := true, laidKinds := [.data, .data, .data], laidTests := true, laidLooks := .later }
def TextProgramsUptoCardSaid : Prop := Claim7.holds Tryz.pinned (.plain (OpenSpec.upto textProgramsSpec)) textProgramsUptoCard

/-- THE SECOND FORM's CARD OF 'pawnshoplaw12.TextOnce'. -/
def textOnceUptoCard : Claim7 := { stood := { row := textOnceUptoRow, standIns := [], harness := (true, "8c3f80282f54b31e644f31a4a5ceb06d97eab7fb7e47b01e0b84ec173345749c"), looks := false }, kinds := [], alts := [], laidByText := true, laidKinds := [.data, .data, .data], laidTests := true, laidLooks := .later }
def TextOnceUptoCardSaid : Prop := Claim7.holds Tryz.pinned (.plain (OpenSpec.upto textOnceSpec)) textOnceUptoCard

/-- THE SECOND FORM's CARD OF 'pawnshoplaw12.TextParts'. -/
def textPartsUptoCard : Claim7 := { stood := { row := textPartsUptoRow, standIns := [], harness := (true, "8c3f80282f54b31e644f31a4a5ceb06d97eab7fb7e47b01e0b84ec173345749c"), looks := false }, kinds := [], alts := [], laidByText := true, laidKinds := [.data, .data, .data], laidTests := true, laidLooks := .later }
def TextPartsUptoCardSaid : Prop := Claim7.holds Tryz.pinned (.plain (OpenSpec.upto textPartsSpec)) textPartsUptoCard
end Rows
end Go.Proofs.YtglmonlofejcgaaGreatDoor
