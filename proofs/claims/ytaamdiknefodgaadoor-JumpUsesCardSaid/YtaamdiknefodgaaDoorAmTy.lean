import Derived.Test.YtaamdiknefodgaaDoorAmCore
namespace Go.Proofs.YtaamdiknefodgaaDoor.Am
def cellOf (v : Value) : Option S := match ofValue v with | some (.s x) => some x | _ => none
noncomputable def zeroCells (v : Value) : Option (List S) := mapO cellOf v.cells.toList
def dOf : TypeDesc → D
  | .bool => .one
  | .int k => .int k
  | .string => .str
  | .pointer e => .ptr e
  | .slice e => .sl e
  | .array n e => .arr n e
  | .struct fs => .st (fs.toList.map fun f => (f.offset, f.type))
  | .interface _ => .ifc
  | _ => .other
/-- == of two such values is that of their parts -/
def cmpOf (P : Program) (t : TypeId) (d : TypeDesc) : Bool :=
  match d with
  | .struct fs => fs.toList.all (fun f => !(f.name == "_")) && !P.stoodInHeld t && !P.eqGuardType P.depth t
  | .array .. => !P.eqGuardType P.depth t
  | _ => false
noncomputable def tyOf (P : Program) (t : TypeId) : Option Ty :=
  match P.toTables.info? t, P.underlying t with
  | some i, some d => match i.zero with
    | some z => match zeroCells z with
      | some c => some ⟨dOf d, i.size, i.bytes, c, cmpOf P t d⟩
      | none => none
    | none => none
  | _, _ => none
def fnOf (P : Program) (f : FuncId) : Option Func := P.funcs[f]?
end Go.Proofs.YtaamdiknefodgaaDoor.Am
