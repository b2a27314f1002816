/- What a function's checks answer hangs on its core: its data without where its lists lie; and what a change of the core does to the answers. (Plain.) -/
import Derived.Test.YtglmonlofejcgaaGreatDoorFn29
set_option maxRecDepth 100000
open List renaming length_map → apu
set_option linter.unusedVariables false
set_option linter.unusedSectionVars false
namespace Go.Proofs.YtglmonlofejcgaaGreatDoor
namespace Am
open Go.RowKit
def Ul : Value := .slice none 0 0
def bK.core (b : bK) : bK := ⟨Ul, b.pre, Ul, b.post, b.st, b.ops⟩
def FnD.core (D : FnD) : FnD := ⟨D.p, D.u, Ul, Ul, D.ls, D.bs.map bK.core, ⟨Ul, []⟩⟩
section
variable (D : FnD)
theorem a7Q : many.iV D.core = many.iV D := by
 unfold many.iV FnD.core
 rw [apu, List.all_map]
 rfl
theorem a6y : made.kV D.core = made.kV D := by
 unfold made.kV
 have h1 : head.mM D.core = head.mM D := rfl
 have h2 : D.core.bs.length = D.bs.length := by unfold FnD.core; rw [apu]
 have h3 : D.core.ls = D.ls := rfl
 have h4 : ∀ p : bK -> Bool, D.core.bs.all p = D.bs.all fun b => p b.core := fun p => by unfold FnD.core; rw [List.all_map]; rfl
 rw [h1, h2, h3, h4, h4]
 rfl
theorem akb : twos.Ct.fn D.core = twos.Ct.fn D := by
 unfold twos.Ct.fn FnD.core
 rw [List.foldl_map]
 rfl
theorem a7m : twos.rQ D.core = twos.rQ D := by
 unfold twos.rQ
 congr 1
 funext t
 unfold twos.Fg
 rw [akb]
 rfl
theorem adq : check.jK D.core = check.jK D := by
 unfold check.jK
 rw [a7Q, a6y, a7m]
end
section
variable {α : Type} {p : α -> Bool} {f : α -> α} {l : List α} {b : Nat}
end
def bK.push (x : List Value) (b : bK) : bK := { b with st := b.st ++ [x] }
section
variable {C : FnD} {b : Nat} {f : bK -> bK}
end
section
variable {C : FnD} {b : Nat} (n : Int)
end
end Am
end Go.Proofs.YtglmonlofejcgaaGreatDoor
