/-
  DERIVED. GIVEN WITH THE SEED: THE CARDS: each row of YtmljjflimiakfaaDoorRows.lean that lists a variable, with what it lists TIED to the program's text (the seventh form; the later family's looks); each row that meets fmt, with fmt's text TOLD by the authors' own Lean function (tested against real Go, not proved from fmt's source: count such statements apart). THE CARD IS WHAT COUNTS. Prove the row's statement (the work); the ties are given (YtmljjflimiakfaaDoorTie.lean); close each card by the builder's one call (the guide's Derived/Test/ToyasCard.lean, 'card_holds'). Laid BY PROGRAM, IN A SANDBOX (cutbox-door.mjs). By AI agents, Wed Nov 11 2026. No macro, syntax, notation, axiom, sorry.
-/
import Derived.Test.YtmljjflimiakfaaDoorRows
import GoSem.ClaimSeven
namespace Go.Proofs.YtmljjflimiakfaaDoor
namespace Rows

/-- THE TIED CARD OF 'pawnshoplaw06.JumpOrder'. -/
def jumpOrderCard : Claim7 := { stood := { row := jumpOrderRow, standIns := [], harness := (true, "35ec81832ae61064f55f1cf933b86ae0595d0327d5b0f07ca13162ba64746347"), looks := false }, kinds := [], alts := [], laidByText := true, laidKinds := [.data, .data, .data], laidTests := true, laidLooks := .later }
def JumpOrderCardSaid : Prop := Claim7.holds Tryd.pinned (.plain (OpenSpec.ofChange jumpOrderSpec)) jumpOrderCard

/-- THE SECOND FORM's CARD OF 'pawnshoplaw06.JumpOrder'. -/
def jumpOrderUptoCard : Claim7 := { stood := { row := jumpOrderUptoRow, standIns := [], harness := (true, "35ec81832ae61064f55f1cf933b86ae0595d0327d5b0f07ca13162ba64746347"), looks := false }, kinds := [], alts := [], laidByText := true, laidKinds := [.data, .data, .data], laidTests := true, laidLooks := .later }
def JumpOrderUptoCardSaid : Prop := Claim7.holds Tryd.pinned (.plain (OpenSpec.upto jumpOrderSpec)) jumpOrderUptoCard
end Rows
end Go.Proofs.YtmljjflimiakfaaDoor
