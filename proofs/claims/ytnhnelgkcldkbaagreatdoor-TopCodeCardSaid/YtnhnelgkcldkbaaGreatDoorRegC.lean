/- A region that draws its order, walked in ONE order, what it reads being some cells that no operation of the region changes. Append onto a row of one's own, which keeps the cells that were there. (No program in sight.) -/
import Derived.Test.YtnhnelgkcldkbaaGreatDoorLoanK
import Derived.Deep.AppendLies
namespace Go.Proofs.YtnhnelgkcldkbaaGreatDoor
open Go.RowKit Go.Proofs.YtnhnelgkcldkbaaGreatDoor.Am Go.Proofs.YtnhnelgkcldkbaaGreatDoor.loan
set_option linter.unusedVariables false
section
variable {P : Program} {ops : Array Oper} {Q : Exit → Act → World → Prop}
/-- these cells are as they were -/
def Cells (L : List Addr) (w w' : World) : Prop := ∀ p ∈ L, w'.cell? p = w.cell? p
theorem Cells.get {L : List Addr} {w w' : World} {p : Addr} {u : Value} (h : Cells L w w') (hp : p ∈ L) (hc : w.cell? p = some u) : w'.cell? p = some u := (h p hp).trans hc
theorem Cells.refl (L : List Addr) (w : World) : Cells L w w := fun _ _ => rfl
theorem Cells.of_ext {L : List Addr} {w w' : World} (h : Below w.heap.size w w') (hL : ∀ p ∈ L, p.block < w.heap.size) : Cells L w w' := fun p hp => h.cell (p := p) (hL p hp)
theorem region_cells (L : List Addr) {id : Nat} {a : Act} {w : World} (r : List (Nat × Bool)) (hm : P.follows .mixedOrders = true) (hs : Region.noSelect ops = true) (hlen : r.length ≤ ops.size) (hok : okOrder .any ops r (Array.replicate ops.size false) = true)
    (hQ : ∀ (d : Tmp) (v : Value) c a w, Q (.panic c) (a.put (some d) v) w → Q (.panic c) a w) (h : SeqE P ops Q (Cells L) r a w.drew) : (Code.region id ops true).wp P Q a w :=
  wp_region_any hm (wpAny_of_E _ _ _ _ (seqE_any (fun w => Cells.refl L w) (fun _ _ _ h k p hp => (k p hp).trans (h p hp)) hs (fun d v c a w h => match d, h with | none, h => h | some d, h => hQ d v c a w h) r _ _ _ _ hlen hok h))
theorem SeqC.take {L : List Addr} {i : Nat} {o : Oper} {r : List (Nat × Bool)} {a : Act} {w : World} {v : Value} (ho : ops.toList[i]? = some o) (hw : Region.wanted o (yielded ops a.tmps) = true) (hrun : ∀ W, Cells L w W → (execOp a.eval o).run P W = .ok (.value v) W)
    (h : SeqE P ops Q (Cells L) r (a.put o.dst v) w) : SeqE P ops Q (Cells L) ((i, true) :: r) a w := ⟨o, v, op_of ho, .inl ⟨hw, hrun⟩, h⟩
theorem SeqC.skip {L : List Addr} {i : Nat} {o : Oper} {r : List (Nat × Bool)} {a : Act} {w : World} (ho : ops.toList[i]? = some o) (hw : Region.wanted o (yielded ops a.tmps) = false)
    (h : SeqE P ops Q (Cells L) r (a.put o.dst undef) w) : SeqE P ops Q (Cells L) ((i, true) :: r) a w := ⟨o, undef, op_of ho, .inr ⟨hw, rfl⟩, h⟩
theorem SeqC.pass {L : List Addr} {i : Nat} {o : Oper} {r : List (Nat × Bool)} {a : Act} {w : World} (ho : ops.toList[i]? = some o) (hw : Region.wanted o (yielded ops a.tmps) = false)
    (h : SeqE P ops Q (Cells L) r (a.put o.dst undef) w) : SeqE P ops Q (Cells L) ((i, false) :: r) a w :=
  wpOp_step (op_of ho) fun K' hK => by rw [hw]; exact hK _ _ ⟨Cells.refl _ _, h⟩
theorem SeqC.step {L : List Addr} {i : Nat} {o : Oper} {r : List (Nat × Bool)} {a : Act} {w : World} (ho : ops.toList[i]? = some o) (hw : Region.wanted o (yielded ops a.tmps) = true)
    (h : ∀ K' : Act → World → Prop, (∀ a w', Cells L w w' → SeqE P ops Q (Cells L) r a w' → K' a w') → Oper.wp P o a w K' Q) : SeqE P ops Q (Cells L) ((i, false) :: r) a w :=
  wpOp_step (op_of ho) fun K' hK => by rw [hw]; exact h K' fun a w' he hs => hK a w' ⟨he, hs⟩
/-- an operation that changes the world (makes memory, stores) -/
theorem SeqC.val {L : List Addr} {i : Nat} {o : Oper} {r : List (Nat × Bool)} {a : Act} {w w' : World} {v : Value} (ho : ops.toList[i]? = some o) (hw : Region.wanted o (yielded ops a.tmps) = true)
    (hrun : (execOp a.eval o).run P w = .ok (.value v) w') (he : Cells L w w') (h : SeqE P ops Q (Cells L) r (a.put o.dst v) w') : SeqE P ops Q (Cells L) ((i, false) :: r) a w :=
  SeqC.step ho hw fun K' hK => by
    unfold Oper.wp
    rw [hrun]
    simp only [Oper.upon]
    exact hK _ _ he h
/-- a call of a Go function, met by its contract -/
theorem SeqC.call {L : List Addr} {i : Nat} {o : Oper} {r : List (Nat × Bool)} {a : Act} {w : World} {f : FuncId} {args : Array Value} (ho : ops.toList[i]? = some o) (hw : Region.wanted o (yielded ops a.tmps) = true)
    (hrun : (execOp a.eval o).run P w = .ok (.enter f args) w) (h : Calls P f args w fun e w' => ∃ v, e = .returned v ∧ Cells L w w' ∧ SeqE P ops Q (Cells L) r (a.put o.dst v) w') : SeqE P ops Q (Cells L) ((i, false) :: r) a w :=
  SeqC.step ho hw fun K' hK => by
    unfold Oper.wp
    rw [hrun]
    simp only [Oper.upon]
    refine h.mono ?_
    rintro e w' ⟨v, rfl, he, hs⟩
    exact hK _ _ he hs
theorem SeqC.done {L : List Addr} {a : Act} {w : World} (h : Q .normal a w) : SeqE P ops Q (Cells L) [] a w := h
end
end Go.Proofs.YtnhnelgkcldkbaaGreatDoor
