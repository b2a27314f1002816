/- What the texts for TopCode lean on: types, sizes, blocks. place.Overlap of a place with itself. OperandText, Text and the reference's Written: the texts of operands and rvalues. place.Text by the plain data of a place. shape.Of and shape.Code: a type's number, the type that it names, and its code. -/
import Derived.Test.YtnhnelgkcldkbaaGreatDoorCodN
import Derived.Test.YtnhnelgkcldkbaaGreatDoorBld
import Derived.Test.YtnhnelgkcldkbaaGreatDoorLoanK
import Derived.Deep.DeepCutAuto
import Derived.Deep.LoopGhost
import Derived.Deep.MidRow
import Derived.Test.YtnhnelgkcldkbaaGreatDoorTexts4U
namespace Go.Proofs.YtnhnelgkcldkbaaGreatDoor.enc
open Go.RowKit Go.Proofs.YtnhnelgkcldkbaaGreatDoor Go.Proofs.YtnhnelgkcldkbaaGreatDoor.Am Go.Proofs.YtnhnelgkcldkbaaGreatDoor.loan Go.Proofs.YtnhnelgkcldkbaaGreatDoor.bld
set_option linter.unusedVariables false
abbrev tPl : TypeId := 57
abbrev tRv : TypeId := 61
abbrev tSt : TypeId := 63
theorem rvR : (Tryz.prog.info? 61).map (·.size) = some 16 := by kernel_rfl
theorem stR : (Tryz.prog.info? 63).map (·.size) = some 26 := by kernel_rfl
theorem range_block {W : World} {H : Nat} {cs X ys Z : List Value} {t : TypeId} (h : W.heap[H]? = some (.cells cs.toArray t (0, 0))) (e : cs = X ++ (ys ++ Z)) : W.rangeAt H X.length ys := fun j u hj => by
  rw [cell_of_row W H _ _ t (0, 0) h, List.getElem?_toArray, e, List.getElem?_append_right (by omega), Nat.add_sub_cancel_left, List.getElem?_append_left (List.getElem?_eq_some_iff.1 hj).1]
  exact hj
theorem box_cell {W : World} {H : Nat} {cs : List Value} {t : TypeId} (h : W.heap[H]? = some (.cells cs.toArray t (0, 0))) {j : Nat} {v : Value} (e : cs[j]? = some v) : W.cell? ⟨H, j, none⟩ = some v := by
  rw [Lib.cell_of_heap h, List.getElem?_toArray, e]
end Go.Proofs.YtnhnelgkcldkbaaGreatDoor.enc
namespace Go.Proofs.YtnhnelgkcldkbaaGreatDoor.enc
open Go.RowKit Go.Proofs.YtnhnelgkcldkbaaGreatDoor Go.Proofs.YtnhnelgkcldkbaaGreatDoor.Am Go.Proofs.YtnhnelgkcldkbaaGreatDoor.loan Go.Proofs.YtnhnelgkcldkbaaGreatDoor.bld
set_option linter.unusedVariables false
abbrev kn0 : KnowOk Know.nought (fun _ => 0) (fun _ => []) := KnowOk.nought (fun _ => 0) (fun _ => [])
/-- a call at arguments that are written out -/
theorem run_lit {f : FuncId} {args : List A} {vs : List Value} {v : V} (w : World) (ha : @All2 A Value (@VA (baseN w kn0) r0) args vs) (h : sayV v (@runs Know.nought (tyOf Tryz.prog) (fnOf Tryz.prog) noneO 12 8 f args ⟨[], 0⟩ 0) = true) :
    Calls Tryz.prog f vs.toArray w fun e w' => ∃ u, e = .returned u ∧ (∃ r, @VV (baseN w kn0) r v u) ∧ Below w.heap.size w w' := by
  have ok := kn0
  letI : Base := baseN w ok
  have hS := sound_runsN ok (@sound_noneO w _ _ _ ok) 12 8
  cases hr : @runs Know.nought (tyOf Tryz.prog) (fnOf Tryz.prog) noneO 12 8 f args ⟨[], 0⟩ 0 with
  | none => rw [hr] at h; cases h
  | some q =>
    obtain ⟨v', h'⟩ := q
    rw [hr] at h
    have hv := V.same_ok (show V.same v' v = true from h)
    subst hv
    exact (calls_flat w (Nat.zero_le _) (fun k hk => absurd hk (Nat.not_lt_zero k)) hS ha hr).mono fun e w' ⟨u, r', e1, e2, e3⟩ => ⟨u, e1, ⟨r', e2⟩, e3⟩
def pl96 : List (Nat × Bool × Nat) := (List.range 16).flatMap fun l => [false, true].flatMap fun d => (List.range 3).map fun f => (l, d, f)
def plS (p : Nat × Bool × Nat) : List S := [.int .i64 p.1, .bool p.2.1, .int .u8 p.2.2]
theorem over_runs : pl96.all (fun p => sayV (.t [.s (.bool true), .s (.int .i64 0)]) (@runs Know.nought (tyOf Tryz.prog) (fnOf Tryz.prog) noneO 12 8 25 [.g (plS p), .g (plS p)] ⟨[], 0⟩ 0)) = true := by kernel_rfl
theorem over_c {q : PlV} (h : q.ok) (w : World) : Calls Tryz.prog 25 #[.agg q.c.toArray, .agg q.c.toArray] w (bld.Ans w (.tuple #[.bool true, .int .i64 0])) := by
  obtain ⟨l, d, f⟩ := q
  obtain ⟨h0, h1, h2, h3⟩ := h
  simp only at h0 h1 h2 h3
  obtain ⟨l, rfl⟩ := Int.eq_ofNat_of_zero_le h0
  obtain ⟨f, rfl⟩ := Int.eq_ofNat_of_zero_le h2
  have hm : (l, d, f) ∈ pl96 := by
    unfold pl96
    refine List.mem_flatMap.2 ⟨l, List.mem_range.2 (by omega), List.mem_flatMap.2 ⟨d, by cases d <;> simp, List.mem_map.2 ⟨f, List.mem_range.2 (by omega), rfl⟩⟩⟩
  refine (run_lit w (args := [.g (plS (l, d, f)), .g (plS (l, d, f))]) (vs := [.agg (PlV.c ⟨l, d, f⟩).toArray, .agg (PlV.c ⟨l, d, f⟩).toArray]) ⟨⟨_, rfl, ⟨rfl, rfl, rfl, trivial⟩⟩, ⟨_, rfl, ⟨rfl, rfl, rfl, trivial⟩⟩, trivial⟩ (List.all_eq_true.1 over_runs _ hm)).mono ?_
  rintro e w' ⟨u, rfl, ⟨r, us, rfl, hu⟩, hb⟩
  match us, hu with
  | [x, y], ⟨h1, h2, _⟩ =>
    refine ⟨?_, hb⟩
    rw [show x = .bool true from h1, show y = .int .i64 0 from h2]
end Go.Proofs.YtnhnelgkcldkbaaGreatDoor.enc
namespace Go.Proofs.YtnhnelgkcldkbaaGreatDoor.Am
open Go.RowKit
set_option maxRecDepth 100000
def tlP : List Pl := [(0, (1, 2))]
def tlT : Sp := .cut 0 0 .leaf (.cut 0 16 (.cut 2 3 .leaf .leaf) .leaf)
theorem tplA_texts : Texts Tryz.prog TabOk 23 kPl (okPlE 0) (fun us => placeT (cellI us 0) (decide (cellI us 1 = 1)) (cellI us 2)) vS2 := texts_of mS2_ok (pls := tlP) (fun L xs => plcX kPl tlP L xs 0) (fun b0 L r xs us l hL d e ha h => @plcX_ok b0 r L kPl tlP xs us hL e ha 0 l h) (by kernel_rfl) (sp := tlT) (by kernel_rfl)
end Go.Proofs.YtnhnelgkcldkbaaGreatDoor.Am
namespace Go.Proofs.YtnhnelgkcldkbaaGreatDoor.enc
open Go.RowKit Go.Proofs.YtnhnelgkcldkbaaGreatDoor Go.Proofs.YtnhnelgkcldkbaaGreatDoor.Am Go.Proofs.YtnhnelgkcldkbaaGreatDoor.loan Go.Proofs.YtnhnelgkcldkbaaGreatDoor.bld
set_option linter.unusedVariables false
theorem pl_kd {q : PlV} (h : q.ok) : All2 Kd.ok kPl q.c := by
  obtain ⟨h0, h1, h2, h3⟩ := h
  exact ⟨⟨_, rfl, by show (-9223372036854775808 : Int) ≤ _; omega, by show _ ≤ (9223372036854775807 : Int); omega⟩, ⟨_, rfl⟩, ⟨_, rfl, by show (0 : Int) ≤ _; omega, by show _ ≤ (255 : Int); omega⟩, trivial⟩
theorem pl_val {q : PlV} (h : q.ok) : (okPlE 0).val q.c = true := by
  obtain ⟨l, d, f⟩ := q
  obtain ⟨h0, h1, h2, h3⟩ := h
  simp only at h0 h1 h2 h3
  show (okPlE 0).num (cellI [Value.int .i64 l, .bool d, .int .u8 f]) = true
  simp [okPlE, E.ands, E.num, cellI, codeI]
  omega
theorem text_c {q : PlV} (h : q.ok) {W : World} (k : TabOk W) : Calls Tryz.prog 23 #[.agg q.c.toArray] W (bld.Ans W (.tuple #[.string ⟨(placeT q.l q.d q.f).toArray⟩, .int .i64 0])) := by
  refine (tplA_texts q.c (pl_kd h) (pl_val h) W k).mono ?_
  rintro e w' ⟨rfl, hb⟩
  refine ⟨?_, hb⟩
  have e1 : decide (cellI q.c 1 = 1) = q.d := by cases q; rename_i l d f; cases d <;> rfl
  show Ending.returned (vS2 (placeT (cellI q.c 0) (decide (cellI q.c 1 = 1)) (cellI q.c 2))) = _
  rw [e1]
  rfl
end Go.Proofs.YtnhnelgkcldkbaaGreatDoor.enc
namespace Go.Proofs.YtnhnelgkcldkbaaGreatDoor.enc
open Go.RowKit Go.Proofs.YtnhnelgkcldkbaaGreatDoor Go.Proofs.YtnhnelgkcldkbaaGreatDoor.Am Go.Proofs.YtnhnelgkcldkbaaGreatDoor.loan Go.Proofs.YtnhnelgkcldkbaaGreatDoor.bld
set_option linter.unusedVariables false
def types8 : List (Nat × Nat) := [(1, 0), (2, 0), (3, 1), (3, 2), (4, 1), (4, 2), (5, 1), (5, 2)]
def typV (p : Nat × Nat) : List Value := [.int .u8 p.1, .int .u8 p.2]
def typS (p : Nat × Nat) : List S := [.int .u8 p.1, .int .u8 p.2]
def tyN (p : Nat × Nat) : Int := if p.2 = 0 then (p.1 : Int) - 1 else 2 * ((p.1 : Int) - 2) + ((p.2 : Int) - 1)
theorem of_runs : types8.all (fun p => sayV (.t [.g (typS p), .s (.int .i64 0)]) (@runs Know.nought (tyOf Tryz.prog) (fnOf Tryz.prog) noneO 12 8 36 [.s (.int .i64 (tyN p))] ⟨[], 0⟩ 0)) = true := by kernel_rfl
theorem of_c {p : Nat × Nat} (hp : p ∈ types8) (w : World) : Calls Tryz.prog 36 #[.int .i64 (tyN p)] w (bld.Ans w (.tuple #[.agg (typV p).toArray, .int .i64 0])) := by
  refine (run_lit w (args := [.s (.int .i64 (tyN p))]) (vs := [.int .i64 (tyN p)]) ⟨rfl, trivial⟩ (List.all_eq_true.1 of_runs p hp)).mono ?_
  rintro e w' ⟨u, rfl, ⟨r, us, rfl, hu⟩, hb⟩
  match us, hu with
  | [x, y], ⟨⟨zs, e1, hz⟩, h2, _⟩ =>
    match zs, hz with
    | [a, b], ⟨ha, hb', _⟩ =>
      refine ⟨?_, hb⟩
      rw [e1, show a = .int .u8 p.1 from ha, show b = .int .u8 p.2 from hb', show y = .int .i64 0 from h2]
      rfl
theorem code_runs : types8.all (fun p => sayV (.t [.s (.int .i64 (tyN p)), .s (.int .i64 0)]) (@runs Know.nought (tyOf Tryz.prog) (fnOf Tryz.prog) noneO 12 8 37 [.g (typS p)] ⟨[], 0⟩ 0)) = true := by kernel_rfl
theorem code_c {p : Nat × Nat} (h : p ∈ types8) (w : World) : Calls Tryz.prog 37 #[.agg (typV p).toArray] w (bld.Ans w (.tuple #[.int .i64 (tyN p), .int .i64 0])) := by
  refine (run_lit w (args := [.g (typS p)]) (vs := [.agg (typV p).toArray]) ⟨⟨_, rfl, ⟨rfl, rfl, trivial⟩⟩, trivial⟩ (List.all_eq_true.1 code_runs p h)).mono ?_
  rintro e w' ⟨u, rfl, ⟨r, us, rfl, hu⟩, hb⟩
  match us, hu with
  | [x, y], ⟨h1, h2, _⟩ =>
    refine ⟨?_, hb⟩
    rw [show x = .int .i64 (tyN p) from h1, show y = .int .i64 0 from h2]
theorem code_runs8 : ((List.range 8).all fun n => types8.any fun p => tyN p == (n : Int)) = true := by decide
theorem code_type {n : Int} (h0 : 0 ≤ n) (h1 : n ≤ 7) : ∃ p ∈ types8, tyN p = n := by
  obtain ⟨m, rfl⟩ := Int.eq_ofNat_of_zero_le h0
  obtain ⟨p, hp, e⟩ := List.any_eq_true.1 (List.all_eq_true.1 code_runs8 m (List.mem_range.2 (by omega)))
  exact ⟨p, hp, eq_of_beq e⟩
end Go.Proofs.YtnhnelgkcldkbaaGreatDoor.enc
