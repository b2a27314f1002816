/-
  DERIVED. GIVEN WITH THE SEED: THE CARDS: each row of YtaamdiknefodgaaDoorRows.lean that lists a variable, with what it lists TIED to the program's text (the seventh form; the later family's looks); each row that meets fmt, with fmt's text TOLD by the authors' own Lean function (tested against real Go, not proved from fmt's source: count such statements apart). THE CARD IS WHAT COUNTS. Prove the row's statement (the work); the ties are given (YtaamdiknefodgaaDoorTie.lean); close each card by the builder's one call (the guide's Derived/Test/ToyasCard.lean, 'card_holds'). Laid BY PROGRAM, IN A SANDBOX (cutbox-door.mjs). By AI agents, Wed Nov 11 2026. No macro, syntax, notation, axiom, sorry.
-/
import Derived.Test.YtaamdiknefodgaaDoorRows
import GoSem.ClaimSeven
namespace Go.Proofs.YtaamdiknefodgaaDoor
namespace Rows

/-- THE TIED CARD OF 'pawnshoplaw06.JumpNames'. -/
def jumpNamesCard : Claim7 := { stood := { row := jumpNamesRow, standIns := [], harness := (true, "e0958274218a65c52688ca629b0d17d0647d80259e6504c4f824747d58cc3345"), looks := false }, kinds := [], alts := [], laidByText := true, laidKinds := [.data, .data, .data], laidTests := true, laidLooks := .later }
def JumpNamesCardSaid : Prop := Claim7.holds Tryd.pinned (.plain (OpenSpec.ofChange jumpNamesSpec)) jumpNamesCard

/-- THE TIED CARD OF 'pawnshoplaw06.JumpTells'. -/
def jumpTellsCard : Claim7 := { stood := { row := jumpTellsRow, standIns := [], harness := (true, "e0958274218a65c52688ca629b0d17d0647d80259e6504c4f824747d58cc3345"), looks := false }, kinds := [], alts := [], laidByText := true, laidKinds := [.data, .data, .data], laidTests := true, laidLooks := .later }
def JumpTellsCardSaid : Prop := Claim7.holds Tryd.pinned (.plain (OpenSpec.ofChange jumpTellsSpec)) jumpTellsCard

/-- THE TIED CARD OF 'pawnshoplaw06.JumpTargets'. -/
def jumpTargetsCard : Claim7 := { stood := { row := jumpTargetsRow, standIns := [], harness := (true, "e0958274218a65c52688ca629b0d17d0647d80259e6504c4f824747d58cc3345"), looks := false }, kinds := [], alts := [], laidByText := true, laidKinds := [.data, .data, .data], laidTests := true, laidLooks := .later }
def JumpTargetsCardSaid : Prop := Claim7.holds Tryd.pinned (.plain (OpenSpec.ofChange jumpTargetsSpec)) jumpTargetsCard

/-- THE TIED CARD OF 'pawnshoplaw06.JumpOrder'. -/
def jumpOrderCard : Claim7 := { stood := { row := jumpOrderRow, standIns := [], harness := (true, "e0958274218a65c52688ca629b0d17d0647d80259e6504c4f824747d58cc3345"), looks := false }, kinds := [], alts := [], laidByText := true, laidKinds := [.data, .data, .data], laidTests := true, laidLooks := .later }
def JumpOrderCardSaid : Prop := Claim7.holds Tryd.pinned (.plain (OpenSpec.ofChange jumpOrderSpec)) jumpOrderCard

/-- THE TIED CARD OF 'pawnshoplaw06.JumpTexts'. -/
def jumpTextsCard : Claim7 := { stood := { row := jumpTextsRow, standIns := [], harness := (true, "e0958274218a65c52688ca629b0d17d0647d80259e6504c4f824747d58cc3345"), looks := false }, kinds := [], alts := [], laidByText := true, laidKinds := [.data, .data, .data], laidTests := true, laidLooks := .later }
def JumpTextsCardSaid : Prop := Claim7.holds Tryd.pinned (.plain (OpenSpec.ofChange jumpTextsSpec)) jumpTextsCard

/-- THE TIED CARD OF 'pawnshoplaw06.JumpUses'. -/
def jumpUsesCard : Claim7 := { stood := { row := jumpUsesRow, standIns := [], harness := (true, "e0958274218a65c52688ca629b0d17d0647d80259e6504c4f824747d58cc3345"), looks := false }, kinds := [], alts := [], laidByText := true, laidKinds := [.data, .data, .data], laidTests := true, laidLooks := .later }
def JumpUsesCardSaid : Prop := Claim7.holds Tryd.pinned (.plain (OpenSpec.ofChange jumpUsesSpec)) jumpUsesCard

/-- THE TIED CARD OF 'pawnshoplaw05.StmtNames'. -/
def stmtNamesCard : Claim7 := { stood := { row := stmtNamesRow, standIns := [], harness := (true, "e0958274218a65c52688ca629b0d17d0647d80259e6504c4f824747d58cc3345"), looks := false }, kinds := [], alts := [], laidByText := true, laidKinds := [.data, .data, .data], laidTests := true, laidLooks := .later }
def StmtNamesCardSaid : Prop := Claim7.holds Tryd.pinned (.plain (OpenSpec.ofChange stmtNamesSpec)) stmtNamesCard

/-- THE TIED CARD OF 'pawnshoplaw05.StmtTells'. -/
def stmtTellsCard : Claim7 := { stood := { row := stmtTellsRow, standIns := [], harness := (true, "e0958274218a65c52688ca629b0d17d0647d80259e6504c4f824747d58cc3345"), looks := false }, kinds := [], alts := [], laidByText := true, laidKinds := [.data, .data, .data], laidTests := true, laidLooks := .later }
def StmtTellsCardSaid : Prop := Claim7.holds Tryd.pinned (.plain (OpenSpec.ofChange stmtTellsSpec)) stmtTellsCard

/-- THE TIED CARD OF 'pawnshoplaw05.StmtOnce'. -/
def stmtOnceCard : Claim7 := { stood := { row := stmtOnceRow, standIns := [], harness := (true, "e0958274218a65c52688ca629b0d17d0647d80259e6504c4f824747d58cc3345"), looks := false }, kinds := [], alts := [], laidByText := true, laidKinds := [.data, .data, .data], laidTests := true, laidLooks := .later }
def StmtOnceCardSaid : Prop := Claim7.holds Tryd.pinned (.plain (OpenSpec.ofChange stmtOnceSpec)) stmtOnceCard

/-- THE TIED CARD OF 'pawnshoplaw05.StmtRvalue'. -/
def stmtRvalueCard : Claim7 := { stood := { row := stmtRvalueRow, standIns := [], harness := (true, "e0958274218a65c52688ca629b0d17d0647d80259e6504c4f824747d58cc3345"), looks := false }, kinds := [], alts := [], laidByText := true, laidKinds := [.data, .data, .data], laidTests := true, laidLooks := .later }
def StmtRvalueCardSaid : Prop := Claim7.holds Tryd.pinned (.plain (OpenSpec.ofChange stmtRvalueSpec)) stmtRvalueCard

/-- THE TIED CARD OF 'pawnshoplaw05.StmtTexts'. -/
def stmtTextsCard : Claim7 := { stood := { row := stmtTextsRow, standIns := [], harness := (true, "e0958274218a65c52688ca629b0d17d0647d80259e6504c4f824747d58cc3345"), looks := false }, kinds := [], alts := [], laidByText := true, laidKinds := [.data, .data, .data], laidTests := true, laidLooks := .later }
def StmtTextsCardSaid : Prop := Claim7.holds Tryd.pinned (.plain (OpenSpec.ofChange stmtTextsSpec)) stmtTextsCard

/-- THE TIED CARD OF 'pawnshoplaw05.StmtPlace'. -/
def stmtPlaceCard : Claim7 := { stood := { row := stmtPlaceRow, standIns := [], harness := (true, "e0958274218a65c52688ca629b0d17d0647d80259e6504c4f824747d58cc3345"), looks := false }, kinds := [], alts := [], laidByText := true, laidKinds := [.data, .data, .data], laidTests := true, laidLooks := .later }
def StmtPlaceCardSaid : Prop := Claim7.holds Tryd.pinned (.plain (OpenSpec.ofChange stmtPlaceSpec)) stmtPlaceCard

/-- THE SECOND FORM's CARD OF 'pawnshoplaw06.JumpNames'. -/
def jumpNamesUptoCard : Claim7 := { stood := { row := jumpNamesUptoRow, standIns := [], harness := (true, "e0958274218a65c52688ca629b0d17d0647d80259e6504c4f824747d58cc3345"), looks := false }, kinds := [], alts := [], laidByText := true, laidKinds := [.data, .data, .data], laidTests := true, laidLooks := .later }
def JumpNamesUptoCardSaid : Prop := Claim7.holds Tryd.pinned (.plain (OpenSpec.upto jumpNamesSpec)) jumpNamesUptoCard

/-- THE SECOND FORM's CARD OF 'pawnshoplaw06.JumpTells'. -/
def jumpTellsUptoCard : Claim7 := { stood := { row := jumpTellsUptoRow, standIns := [], harness := (true, "e0958274218a65c52688ca629b0d17d0647d80259e6504c4f824747d58cc3345"), looks := false }, kinds := [], alts := [], laidByText := true, laidKinds := [.data, .data, .data], laidTests := true, laidLooks := .later }
def JumpTellsUptoCardSaid : Prop := Claim7.holds Tryd.pinned (.plain (OpenSpec.upto jumpTellsSpec)) jumpTellsUptoCard

/-- THE SECOND FORM's CARD OF 'pawnshoplaw06.JumpTargets'. -/
def jumpTargetsUptoCard : Claim7 := { stood := { row := jumpTargetsUptoRow, standIns := [], harness := (true, "e0958274218a65c52688ca629b0d17d0647d80259e6504c4f824747d58cc3345"), looks := false }, kinds := [], alts := [], laidByText := true, laidKinds := [.data, .data, .data], laidTests := true, laidLooks := .later }
def JumpTargetsUptoCardSaid : Prop := Claim7.holds Tryd.pinned (.plain (OpenSpec.upto jumpTargetsSpec)) jumpTargetsUptoCard

/-- THE SECOND FORM's CARD OF 'pawnshoplaw06.JumpOrder'. -/
def jumpOrderUptoCard : Claim7 := { stood := { row := jumpOrderUptoRow, standIns := [], harness := (true, "e0958274218a65c52688ca629b0d17d0647d80259e6504c4f824747d58cc3345"), looks := false }, kinds := [], alts := [], laidByText := true, laidKinds := [.data, .data, .data], laidTests := true, laidLooks := .later }
def JumpOrderUptoCardSaid : Prop := Claim7.holds Tryd.pinned (.plain (OpenSpec.upto jumpOrderSpec)) jumpOrderUptoCard

/-- THE SECOND FORM's CARD OF 'pawnshoplaw06.JumpTexts'. -/
def jumpTextsUptoCard : Claim7 := { stood := { row := jumpTextsUptoRow, standIns := [], harness := (true, "e0958274218a65c52688ca629b0d17d0647d80259e6504c4f824747d58cc3345"), looks := false }, kinds := [], alts := [], laidByText := true, laidKinds := [.data, .data, .data], laidTests := true, laidLooks := .later }
def JumpTextsUptoCardSaid : Prop := Claim7.holds Tryd.pinned (.plain (OpenSpec.upto jumpTextsSpec)) jumpTextsUptoCard

/-- THE SECOND FORM's CARD OF 'pawnshoplaw06.JumpUses'. -/
def jumpUsesUptoCard : Claim7 := { stood := { row := jumpUsesUptoRow, standIns := [], harness := (true, "e0958274218a65c52688ca629b0d17d0647d80259e6504c4f824747d58cc3345"), looks := false }, kinds := [], alts := [], laidByText := true, laidKinds := [.data, .data, .data], laidTests := true, laidLooks := .later }
def JumpUsesUptoCardSaid : Prop := Claim7.holds Tryd.pinned (.plain (OpenSpec.upto jumpUsesSpec)) jumpUsesUptoCard

/-- THE SECOND FORM's CARD OF 'pawnshoplaw05.StmtNames'. -/
def stmtNamesUptoCard : Claim7 := { stood := { row := stmtNamesUptoRow, standIns := [], harness := (true, "e0958274218a65c52688ca629b0d17d0647d80259e6504c4f824747d58cc3345"), looks := false }, kinds := [], alts := [], laidByText := true, laidKinds := [.data, .data, .data], laidTests := true, laidLooks := .later }
def StmtNamesUptoCardSaid : Prop := Claim7.holds Tryd.pinned (.plain (OpenSpec.upto stmtNamesSpec)) stmtNamesUptoCard

/-- THE SECOND FORM's CARD OF 'pawnshoplaw05.StmtTells'. -/
def stmtTellsUptoCard : Claim7 := { stood := { row := stmtTellsUptoRow, standIns := [], harness := (true, "e0958274218a65c52688ca629b0d17d0647d80259e6504c4f824747d58cc3345"), looks := false }, kinds := [], alts := [], laidByText := true, laidKinds := [.data, .data, .data], laidTests := true, laidLooks := .later }
def StmtTellsUptoCardSaid : Prop := Claim7.holds Tryd.pinned (.plain (OpenSpec.upto stmtTellsSpec)) stmtTellsUptoCard

/-- THE SECOND FORM's CARD OF 'pawnshoplaw05.StmtOnce'. -/
def stmtOnceUptoCard : Claim7 := { stood := { row := stmtOnceUptoRow, standIns := [], harness := (true, "e0958274218a65c52688ca629b0d17d0647d80259e6504c4f824747d58cc3345"), looks := false }, kinds := [], alts := [], laidByText := true, laidKinds := [.data, .data, .data], laidTests := true, laidLooks := .later }
def StmtOnceUptoCardSaid : Prop := Claim7.holds Tryd.pinned (.plain (OpenSpec.upto stmtOnceSpec)) stmtOnceUptoCard

/-- THE SECOND FORM's CARD OF 'pawnshoplaw05.StmtRvalue'. -/
def stmtRvalueUptoCard : Claim7 := { stood := { row := stmtRvalueUptoRow, standIns := [], harness := (true, "e0958274218a65c52688ca629b0d17d0647d80259e6504c4f824747d58cc3345"), looks := false }, kinds := [], alts := [], laidByText := true, laidKinds := [.data, .data, .data], laidTests := true, laidLooks := .later }
def StmtRvalueUptoCardSaid : Prop := Claim7.holds Tryd.pinned (.plain (OpenSpec.upto stmtRvalueSpec)) stmtRvalueUptoCard

/-- THE SECOND FORM's CARD OF 'pawnshoplaw05.StmtTexts'. -/
def stmtTextsUptoCard : Claim7 := { stood := { row := stmtTextsUptoRow, standIns := [], harness := (true, "e0958274218a65c52688ca629b0d17d0647d80259e6504c4f824747d58cc3345"), looks := false }, kinds := [], alts := [], laidByText := true, laidKinds := [.data, .data, .data], laidTests := true, laidLooks := .later }
def StmtTextsUptoCardSaid : Prop := Claim7.holds Tryd.pinned (.plain (OpenSpec.upto stmtTextsSpec)) stmtTextsUptoCard

/-- THE SECOND FORM's CARD OF 'pawnshoplaw05.StmtPlace'. -/
def stmtPlaceUptoCard : Claim7 := { stood := { row := stmtPlaceUptoRow, standIns := [], harness := (true, "e0958274218a65c52688ca629b0d17d0647d80259e6504c4f824747d58cc3345"), looks := false }, kinds := [], alts := [], laidByText := true, laidKinds := [.data, .data, .data], laidTests := true, laidLooks := .later }
def StmtPlaceUptoCardSaid : Prop := Claim7.holds Tryd.pinned (.plain (OpenSpec.upto stmtPlaceSpec)) stmtPlaceUptoCard
end Rows
end Go.Proofs.YtaamdiknefodgaaDoor
