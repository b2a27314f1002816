/- A region that draws its order, walked in ONE order, what it reads being some cells that no operation of the region changes. Append onto a row of one's own, which keeps the cells that were there. (No program in sight.) text.line, and the closure that writes a line behind two blanks. text.function$1: a line behind two blanks. -/
import Derived.Test.YtglmonlofejcgaaDoorLoanK
import Derived.Deep.AppendLies
import Derived.Test.YtglmonlofejcgaaDoorBldW
import Derived.Deep.DeepCutAuto
import Derived.Deep.MidRow
namespace Go.Proofs.YtglmonlofejcgaaDoor
open Go.RowKit Go.Proofs.YtglmonlofejcgaaDoor.Am Go.Proofs.YtglmonlofejcgaaDoor.loan
set_option linter.unusedVariables false
section
variable {P : Program} {ops : Array Oper} {Q : Exit → Act → World → Prop}
/-- these cells are as they were -/
def Cells (L : List Addr) (w w' : World) : Prop := ∀ p ∈ L, w'.cell? p = w.cell? p
theorem Cells.get {L : List Addr} {w w' : World} {p : Addr} {u : Value} (h : Cells L w w') (hp : p ∈ L) (hc : w.cell? p = some u) : w'.cell? p = some u := (h p hp).trans hc
theorem Cells.refl (L : List Addr) (w : World) : Cells L w w := fun _ _ => rfl
theorem Cells.of_ext {L : List Addr} {w w' : World} (h : Below w.heap.size w w') (hL : ∀ p ∈ L, p.block < w.heap.size) : Cells L w w' := fun p hp => h.cell (p := p) (hL p hp)
theorem region_cells (L : List Addr) {id : Nat} {a : Act} {w : World} (r : List (Nat × Bool)) (hm : P.follows .mixedOrders = true) (hs : Region.noSelect ops = true) (hlen : r.length ≤ ops.size) (hok : okOrder .any ops r (Array.replicate ops.size false) = true)
    (hQ : ∀ (d : Tmp) (v : Value) c a w, Q (.panic c) (a.put (some d) v) w → Q (.panic c) a w) (h : SeqE P ops Q (Cells L) r a w.drew) : (Code.region id ops true).wp P Q a w :=
  wp_region_any hm (wpAny_of_E _ _ _ _ (seqE_any (fun w => Cells.refl L w) (fun _ _ _ h k p hp => (k p hp).trans (h p hp)) hs (fun d v c a w h => match d, h with | none, h => h | some d, h => hQ d v c a w h) r _ _ _ _ hlen hok h))
theorem SeqC.take {L : List Addr} {i : Nat} {o : Oper} {r : List (Nat × Bool)} {a : Act} {w : World} {v : Value} (ho : ops.toList[i]? = some o) (hw : Region.wanted o (yielded ops a.tmps) = true) (hrun : ∀ W, Cells L w W → (execOp a.eval o).run P W = .ok (.value v) W)
    (h : SeqE P ops Q (Cells L) r (a.put o.dst v) w) : SeqE P ops Q (Cells L) ((i, true) :: r) a w := ⟨o, v, op_of ho, .inl ⟨hw, hrun⟩, h⟩
theorem SeqC.skip {L : List Addr} {i : Nat} {o : Oper} {r : List (Nat × Bool)} {a : Act} {w : World} (ho : ops.toList[i]? = some o) (hw : Region.wanted o (yielded ops a.tmps) = false)
    (h : SeqE P ops Q (Cells L) r (a.put o.dst undef) w) : SeqE P ops Q (Cells L) ((i, true) :: r) a w := ⟨o, undef, op_of ho, .inr ⟨hw, rfl⟩, h⟩
theorem SeqC.pass {L : List Addr} {i : Nat} {o : Oper} {r : List (Nat × Bool)} {a : Act} {w : World} (ho : ops.toList[i]? = some o) (hw : Region.wanted o (yielded ops a.tmps) = false)
    (h : SeqE P ops Q (Cells L) r (a.put o.dst undef) w) : SeqE P ops Q (Cells L) ((i, false) :: r) a w :=
  wpOp_step (op_of ho) fun K' hK => by rw [hw]; exact hK _ _ ⟨Cells.refl _ _, h⟩
theorem SeqC.step {L : List Addr} {i : Nat} {o : Oper} {r : List (Nat × Bool)} {a : Act} {w : World} (ho : ops.toList[i]? = some o) (hw : Region.wanted o (yielded ops a.tmps) = true)
    (h : ∀ K' : Act → World → Prop, (∀ a w', Cells L w w' → SeqE P ops Q (Cells L) r a w' → K' a w') → Oper.wp P o a w K' Q) : SeqE P ops Q (Cells L) ((i, false) :: r) a w :=
  wpOp_step (op_of ho) fun K' hK => by rw [hw]; exact h K' fun a w' he hs => hK a w' ⟨he, hs⟩
/-- an operation that changes the world (makes memory, stores) -/
theorem SeqC.val {L : List Addr} {i : Nat} {o : Oper} {r : List (Nat × Bool)} {a : Act} {w w' : World} {v : Value} (ho : ops.toList[i]? = some o) (hw : Region.wanted o (yielded ops a.tmps) = true)
    (hrun : (execOp a.eval o).run P w = .ok (.value v) w') (he : Cells L w w') (h : SeqE P ops Q (Cells L) r (a.put o.dst v) w') : SeqE P ops Q (Cells L) ((i, false) :: r) a w :=
  SeqC.step ho hw fun K' hK => by
    unfold Oper.wp
    rw [hrun]
    simp only [Oper.upon]
    exact hK _ _ he h
/-- a call of a Go function, met by its contract -/
theorem SeqC.call {L : List Addr} {i : Nat} {o : Oper} {r : List (Nat × Bool)} {a : Act} {w : World} {f : FuncId} {args : Array Value} (ho : ops.toList[i]? = some o) (hw : Region.wanted o (yielded ops a.tmps) = true)
    (hrun : (execOp a.eval o).run P w = .ok (.enter f args) w) (h : Calls P f args w fun e w' => ∃ v, e = .returned v ∧ Cells L w w' ∧ SeqE P ops Q (Cells L) r (a.put o.dst v) w') : SeqE P ops Q (Cells L) ((i, false) :: r) a w :=
  SeqC.step ho hw fun K' hK => by
    unfold Oper.wp
    rw [hrun]
    simp only [Oper.upon]
    refine h.mono ?_
    rintro e w' ⟨v, rfl, he, hs⟩
    exact hK _ _ he hs
theorem SeqC.done {L : List Addr} {a : Act} {w : World} (h : Q .normal a w) : SeqE P ops Q (Cells L) [] a w := h
end
end Go.Proofs.YtglmonlofejcgaaDoor
namespace Go.Proofs.YtglmonlofejcgaaDoor.txt
open Go.RowKit Go.Proofs.YtglmonlofejcgaaDoor Go.Proofs.YtglmonlofejcgaaDoor.Am Go.Proofs.YtglmonlofejcgaaDoor.loan Go.Proofs.YtglmonlofejcgaaDoor.bld
set_option linter.unusedVariables false
abbrev tS1 : TypeId := 9
abbrev tPB : TypeId := 72
/-- nothing is answered; these bytes more stand in the builder -/
def Wr (b : Nat) (l : List UInt8) (W : World) (e : Ending) (W' : World) : Prop := e = .returned (.tuple #[]) ∧ Bld tB tU b l W' ∧ Wrote tU b W W'
theorem nl_c {b : Nat} {l : List UInt8} {w : World} (h : Bld tB tU b l w) (hlen : l.length + 1 ≤ 140737488355328) :
    Calls Tryd.prog 80 #[.pointer (some ⟨b, 0, none⟩), .int .u8 10] w fun e w' => e = .returned .nilIface ∧ Bld tB tU b (l ++ [10]) w' ∧ Wrote tU b w w' := writeByte_c 10 h hlen
theorem flat_le {l : List (List UInt8)} {i : Nat} {s : List UInt8} (h : l[i]? = some s) : (l.take i).flatten.length + s.length ≤ l.flatten.length := by
  have h1 : l.flatten = (l.take (i + 1)).flatten ++ (l.drop (i + 1)).flatten := by rw [← List.flatten_append, List.take_append_drop]
  have h2 : l.take (i + 1) = l.take i ++ [s] := by rw [List.take_add_one, h]; rfl
  rw [h1, h2, List.flatten_append]
  simp only [List.length_append, List.flatten_cons, List.flatten_nil, List.append_nil]
  omega
set_option maxHeartbeats 2000000 in
set_option maxRecDepth 100000 in
theorem line_c {b : Nat} {acc : List UInt8} {A : Option Addr} {c : Nat} {parts : List (List UInt8)} {w : World} (h : Bld tB tU b acc w) (hp : StrsAt w b tU A parts) (hlen : acc.length + parts.flatten.length + 1 ≤ 140737488355328) (hn : (parts.length : Int) ≤ 1000) :
    Calls Tryd.prog 47 #[.pointer (some ⟨b, 0, none⟩), .slice A parts.length c] w (Wr b (acc ++ (parts.flatten ++ [10])) w) := by
  have HP := Lib.hid hp
  have HB := Lib.hid h
  clear hp h
  go_enter Tryd.func47, Tryd.ntmps47
  go_wp2
  go_loopg [8] parts.length (fun g s8 wr => ∃ i : Nat, s8 = .int .i64 i ∧ i ≤ parts.length ∧ g = parts.length - i ∧ Bld tB tU b (acc ++ (parts.take i).flatten) wr ∧ Wrote tU b w wr)
  case atStart => exact ⟨0, rfl, Nat.zero_le _, rfl, by simpa using HB.out, .refl _ _ _⟩
  case round =>
    obtain ⟨i, rfl, hi, rfl, hb, hw⟩ := hrel
    have h0I : (0 : Int) ≤ (i : Int) := Int.natCast_nonneg _
    have HW := Lib.hid hw
    have HBI := Lib.hid hb
    have hp := HP.out.wrote hw
    clear hw hb
    rcases Nat.lt_or_ge i parts.length with hlt | hge
    · have hltI : (i : Int) < (parts.length : Int) := by omega
      obtain ⟨s, hs⟩ : ∃ s, parts[i]? = some s := ⟨_, List.getElem?_eq_getElem hlt⟩
      obtain ⟨g, o, eA, hc⟩ := hp.cell hs
      subst eA
      have hfl := flat_le hs
      have HS := Lib.hid hs
      clear hs hp
      go_wp2_with (go_at_call 56; refine (writeString_c s HBI.out (by rw [List.length_append]; omega)).mono ?_; rintro e w2 ⟨⟨v, rfl⟩, hb2, hw2⟩)
      go_roundg (parts.length - (i + 1))
      case measure => omega
      case rel =>
        refine ⟨i + 1, by simp, by omega, rfl, ?_, HW.out.trans hw2⟩
        rw [List.take_add_one, HS.out, List.flatten_append]
        simpa using hb2
    · obtain rfl : i = parts.length := by omega
      have hl2 := HBI.out
      rw [List.take_length] at hl2
      have HL := Lib.hid hl2
      clear hl2 hp
      go_wp2_with (go_at_call 80; refine (nl_c HL.out (by rw [List.length_append]; omega)).mono ?_; rintro e w2 ⟨rfl, hb2, hw2⟩)
      go_end0
      exact ⟨rfl, by rw [← List.append_assoc]; exact hb2, HW.out.trans hw2⟩
end Go.Proofs.YtglmonlofejcgaaDoor.txt
namespace Go.Proofs.YtglmonlofejcgaaDoor.txt
open Go.RowKit Go.Proofs.YtglmonlofejcgaaDoor Go.Proofs.YtglmonlofejcgaaDoor.Am Go.Proofs.YtglmonlofejcgaaDoor.loan Go.Proofs.YtglmonlofejcgaaDoor.bld
set_option linter.unusedVariables false
set_option maxHeartbeats 2000000 in
set_option maxRecDepth 100000 in
theorem in_c {b X : Nat} {acc m : List UInt8} {w : World} (h : Bld tB tU b acc w) (hX : w.heap[X]? = some (.cells #[.pointer (some ⟨b, 0, none⟩)] tPB (0, 0))) (hlen : acc.length + m.length ≤ 100000000000) :
    Calls Tryd.prog 49 #[.string ⟨m.toArray⟩, .int .i64 0, .pointer (some ⟨X, 0, none⟩)] w (Wr b (acc ++ (([32, 32] ++ m) ++ [10])) w) := by
  have hc : w.cell? ⟨X, 0, none⟩ = some (.pointer (some ⟨b, 0, none⟩)) := by rw [cell_of_row w X 0 _ tPB (0, 0) hX]; rfl
  have HB := Lib.hid h
  have hbl := h.lt
  clear h hX
  go_enter Tryd.func49, Tryd.ntmps49
  have hb1 : Below w.heap.size w (w.alloc (.cells #[.string ⟨#[32, 32]⟩, .string ⟨m.toArray⟩] tS1)) := (Below.refl _ _).alloc (Nat.le_refl _) _
  have HL := Lib.hid (line_c (c := 2) (parts := [[32, 32], m]) (HB.out.below hb1) (StrsAt.new (b := b) (t := tS1) (l := [[32, 32], m]) (Nat.ne_of_gt hbl) (by decide) (at_alloc rfl)) (by simp; omega) (by simp))
  have HW := Lib.hid (Wrote.of_below (e := tU) hb1 (Nat.le_of_lt hbl))
  clear hb1
  go_wp2_with (go_at_call 47; refine HL.out.mono ?_; rintro e w2 ⟨rfl, hb2, hw2⟩)
  go_end0
  exact ⟨rfl, by simpa using hb2, HW.out.trans hw2⟩
end Go.Proofs.YtglmonlofejcgaaDoor.txt
