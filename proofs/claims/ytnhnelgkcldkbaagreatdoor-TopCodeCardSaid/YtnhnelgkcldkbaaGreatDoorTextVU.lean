/- Texts of numbers, places and operands: what they are made of, and that each is the text of one alone. (No program in sight.) -/
import Derived.Test.YtnhnelgkcldkbaaGreatDoorPlaceU
namespace Go.Proofs.YtnhnelgkcldkbaaGreatDoor.Am
open Go.RowKit

/-! digits -/
def I64 (n : Int) : Prop := -9223372036854775808 ≤ n ∧ n ≤ 9223372036854775807
/-! what is before the first byte of another kind -/
/-! places -/
/-! operands -/
/-- an operand: its kind, number, place -/
structure Opd where
  k : Int
  n : Int
  l : Int
  d : Bool
  f : Int
/-- a valid one -/
def Opd.Ok (o : Opd) : Prop := (o.k = 1 ∧ I64 o.n ∧ o.l = 0 ∧ o.d = false ∧ o.f = 0) ∨ ((o.k = 2 ∨ o.k = 3) ∧ o.n = 0 ∧ InP o.l o.f)
/-! rvalues -/
structure Rv where
  k : Int
  a : Opd
  b : Opd
  op : Int
  bo : Int
  l : Int
  d : Bool
  f : Int
def Opd.no : Opd := ⟨0, 0, 0, false, 0⟩
/-- a valid one: a use, two with a sign, a pair, a reference, a raw pointer -/
def Rv.Ok (r : Rv) : Prop :=
  (r.k = 1 ∧ r.a.Ok ∧ r.b = Opd.no ∧ r.op = 0 ∧ r.bo = 0 ∧ r.l = 0 ∧ r.d = false ∧ r.f = 0) ∨
  (r.k = 2 ∧ r.a.Ok ∧ r.b.Ok ∧ (1 ≤ r.op ∧ r.op ≤ 6) ∧ r.bo = 0 ∧ r.l = 0 ∧ r.d = false ∧ r.f = 0) ∨
  (r.k = 3 ∧ r.a.Ok ∧ r.b.Ok ∧ r.op = 0 ∧ r.bo = 0 ∧ r.l = 0 ∧ r.d = false ∧ r.f = 0) ∨
  (r.k = 4 ∧ r.a = Opd.no ∧ r.b = Opd.no ∧ r.op = 0 ∧ (1 ≤ r.bo ∧ r.bo ≤ 3) ∧ InP r.l r.f) ∨
  (r.k = 5 ∧ r.a = Opd.no ∧ r.b = Opd.no ∧ r.op = 0 ∧ r.bo = 0 ∧ InP r.l r.f)
/-- what an rvalue begins with -/
inductive Rv.As (r : Rv) : Prop where
  | use (h : r = ⟨1, r.a, Opd.no, 0, 0, 0, false, 0⟩) (a : r.a.Ok)
  | bin (h : r = ⟨2, r.a, r.b, r.op, 0, 0, false, 0⟩) (a : r.a.Ok) (b : r.b.Ok) (o : 1 ≤ r.op ∧ r.op ≤ 6)
  | pair (h : r = ⟨3, r.a, r.b, 0, 0, 0, false, 0⟩) (a : r.a.Ok) (b : r.b.Ok)
  | ref (h : r = ⟨r.k, Opd.no, Opd.no, 0, r.bo, r.l, r.d, r.f⟩) (k : (r.k = 4 ∧ 1 ≤ r.bo ∧ r.bo ≤ 3) ∨ (r.k = 5 ∧ r.bo = 0)) (p : InP r.l r.f)
theorem Rv.Ok.as {r : Rv} (h : r.Ok) : r.As := by
  obtain ⟨k, a, b, op, bo, l, d, f⟩ := r
  rcases h with ⟨rfl, ha, rfl, rfl, rfl, rfl, rfl, rfl⟩ | ⟨rfl, ha, hb, ho, rfl, rfl, rfl, rfl⟩ | ⟨rfl, ha, hb, rfl, rfl, rfl, rfl, rfl⟩ | ⟨rfl, rfl, rfl, rfl, hb, hp⟩ | ⟨rfl, rfl, rfl, rfl, rfl, hp⟩
  · exact .use rfl ha
  · exact .bin rfl ha hb ho
  · exact .pair rfl ha hb
  · exact .ref rfl (.inl ⟨rfl, hb⟩) hp
  · exact .ref rfl (.inr ⟨rfl, rfl⟩) hp
end Go.Proofs.YtnhnelgkcldkbaaGreatDoor.Am
