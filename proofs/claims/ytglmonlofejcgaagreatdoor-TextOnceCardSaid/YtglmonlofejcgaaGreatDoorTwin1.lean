/- pawnshopref07.Twin: a copy of a function that shares no memory. -/
import Derived.Test.YtglmonlofejcgaaGreatDoorCore
set_option linter.unusedVariables false
set_option linter.unusedSectionVars false
namespace Go.Proofs.YtglmonlofejcgaaGreatDoor
namespace twin
open Go.RowKit Am
theorem pX {P : Program} {o : Oper} {a : Act} {W : World} (ty : TypeId) (x : Operand) (ho : o.op = .load ty x) (b off : Nat) (hx : a.eval x = .pointer (some ⟨b, off, none⟩)) (cs : List Value) (d : TypeDesc) (hc : W.rangeAt b off cs) (hu : P.underlying ty = some d) (hd : d.isRow = true) (hi : (P.info? ty).map (·.size) = some cs.length) :
  (execOp a.eval o).run P W = .ok (.value (.agg cs.toArray)) W := by
 unfold execOp
 simp only [ho, hx, Instr.loadAt, Instr.sureAddr, Sem.run_bind, Sem.run_pure, Result.andThen_ok, run_loadVar_mid W b off ty cs d hc hu hd hi]
def Q9 (b : bK) : List Nat := jA b.s ++ jA b.a
end twin
end Go.Proofs.YtglmonlofejcgaaGreatDoor
