/- places06: the places of an rvalue's operands, and its own. -/
import Derived.Test.YtnhnelgkcldkbaaGreatDoorCodOps
namespace Go.Proofs.YtnhnelgkcldkbaaGreatDoor.enc
open Go.RowKit Go.Proofs.YtnhnelgkcldkbaaGreatDoor Go.Proofs.YtnhnelgkcldkbaaGreatDoor.Am Go.Proofs.YtnhnelgkcldkbaaGreatDoor.loan Go.Proofs.YtnhnelgkcldkbaaGreatDoor.bld
set_option linter.unusedVariables false
def OpV.pls : OpV → List PlV
  | .k _ => []
  | .p _ q => [q]
def RvV.own : RvV → List PlV
  | .ref _ q => [q]
  | .raw q => [q]
  | _ => []
def RvV.pls (r : RvV) : List PlV := r.ops.flatMap OpV.pls ++ r.own
theorem plR : (Tryz.prog.info? 57).map (fun i => (i.zero, i.size, i.bytes)) = some (some (.agg #[.int .i64 0, .bool false, .int .u8 0]), 3, 16) := by kernel_rfl
theorem pls_take {l : List OpV} {i : Nat} {a : OpV} (h : l[i]? = some a) : (l.take (i + 1)).flatMap OpV.pls = (l.take i).flatMap OpV.pls ++ a.pls := by
  rw [List.take_add_one, h, List.flatMap_append]
  simp
theorem pls_le (r : RvV) : (r.ops.flatMap OpV.pls).length ≤ 2 := by
  rcases r with a | ⟨o, a, a'⟩ | ⟨a, a'⟩ | ⟨o, q⟩ | q
  · cases a <;> simp [RvV.ops, OpV.pls]
  · cases a <;> cases a' <;> simp [RvV.ops, OpV.pls]
  · cases a <;> cases a' <;> simp [RvV.ops, OpV.pls]
  · simp [RvV.ops]
  · simp [RvV.ops]
theorem flat_le' (l : List OpV) (i : Nat) : ((l.take i).flatMap OpV.pls).length ≤ i := by
  have h : ∀ l : List OpV, (l.flatMap OpV.pls).length ≤ l.length := fun l => by
    induction l with
    | nil => exact Nat.le_refl _
    | cons a l ih => rw [List.flatMap_cons, List.length_append, List.length_cons]; have : a.pls.length ≤ 1 := (by cases a <;> simp [OpV.pls]); omega
  have := h (l.take i)
  rw [List.length_take] at this
  omega
/-- the rows of places -/
abbrev plC (l : List PlV) : List (List Value) := l.map PlV.c
theorem plC_three {l : List PlV} : ∀ x ∈ plC l, x.length = 3 := fun x hx => by
  obtain ⟨a, -, rfl⟩ := List.mem_map.1 hx
  rfl
theorem pl_rows {W : World} {B : Nat} {v : Value} {l : List PlV} (h : W.ownsRow B tPl 3 v l.length (plC l).flatten) : ∃ A c, v = .slice A l.length c ∧ RowsAt W A 3 (plC l) := by
  have e : l.length = (plC l).length := (List.length_map _).symm
  rw [e] at h ⊢
  obtain ⟨A, c, e2, -, r⟩ := ListAt.rows (ListAt.of_own h plC_three) (by decide)
  exact ⟨A, c, e2, r⟩
/-- a new slice with these places, and true -/
def AnsP (l : List PlV) (W : World) (e : Ending) (W' : World) : Prop := ∃ A c, e = .returned (.tuple #[.slice A l.length c, .bool true]) ∧ RowsAt W' A 3 (plC l) ∧ Below W.heap.size W W'
set_option maxHeartbeats 8000000 in
set_option maxRecDepth 100000 in
theorem places_c {W : World} {r : RvV} (hk : All2 Kd.ok kRv r.c) (hv : (okRvE 0).val r.c = true) : Calls Tryz.prog 21 #[.agg r.c.toArray] W (AnsP r.pls W) := by
  have HC := Lib.hid (fun (W1 : World) => ops_c (W := W1) hk hv)
  have hl := r.len16'
  have hp2 := pls_le r
  clear hk hv
  generalize hcs : r.c = cs at *
  have HCS := Lib.hid hcs
  clear hcs
  go_enter Tryz.func21, Tryz.ntmps21
  go_upto_region 1 with fail
  have hh0 : (W.alloc (.cells cs.toArray tRv)).heap[W.heap.size]? = some (.cells cs.toArray tRv (0, 0)) := at_alloc rfl
  have hb : Below W.heap.size W (W.alloc (.cells cs.toArray tRv)) := (Below.refl _ _).alloc (Nat.le_refl _) _
  have hs : W.heap.size < (W.alloc (.cells cs.toArray tRv)).heap.size := by simp
  generalize W.alloc (.cells cs.toArray tRv) = w0 at *
  generalize hH : W.heap.size = H at *
  have hr : w0.rangeAt H 0 cs := range_block (X := []) (Z := []) hh0 (by simp)
  have HR := Lib.hid hr
  have HB := Lib.hid hb
  have HH0 := Lib.hid hh0
  clear hh0 hr hb
  go_upto_region 2 with (first | (refine wpList_load_mid rfl tRv _ rfl H 0 rfl cs _ HR.out Tryz.underlying61 rfl (by rw [hl]; exact rvR) ?_) | (go_at_call 28; refine (HC.out _).mono ?_; rintro e w1 ⟨A, c, rfl, rows, b1, -⟩))
  have HH1 := Lib.hid (show w1.heap[H]? = some (.cells cs.toArray tRv (0, 0)) from (b1.block H hs).trans HH0.out)
  have HB1 := Lib.hid (HB.out.trans (b1.mono (by have := HB.out.size; omega)))
  have hs1 : H < w1.heap.size := Nat.lt_of_lt_of_le hs b1.size
  have hol : r.ops.length ≤ 2 := by rcases r with a | ⟨o, a, a'⟩ | ⟨a, a'⟩ | ⟨o, q⟩ | q <;> simp [RvV.ops]
  have HRO := Lib.hid rows
  clear b1 HH0 HR HB HC rows hs
  go_wp2_with fail
  go_loopg [6, 7] r.ops.length (fun g s6 s7 wr => ∃ i : Nat, s7 = .int .i64 i ∧ i ≤ r.ops.length ∧ g = r.ops.length - i ∧ wr.ownsRow w1.heap.size tPl 3 s6 ((r.ops.take i).flatMap OpV.pls).length (plC ((r.ops.take i).flatMap OpV.pls)).flatten ∧ Below w1.heap.size w1 wr)
  case atStart => exact ⟨0, rfl, Nat.zero_le _, rfl, World.ownsRow_nil _ _ _ _, Below.refl _ _⟩
  case round =>
    obtain ⟨i, rfl, hi, rfl, hown, hbel⟩ := hrel
    have h0I : (0 : Int) ≤ (i : Int) := Int.natCast_nonneg _
    have hsz := hbel.size
    have HO := Lib.hid hown
    have HBL := Lib.hid hbel
    rcases Nat.lt_or_ge i r.ops.length with hlt | hge
    · have hltI : (i : Int) < (r.ops.length : Int) := by omega
      obtain ⟨a, hx⟩ : ∃ a, r.ops[i]? = some a := ⟨_, List.getElem?_eq_getElem hlt⟩
      obtain ⟨g, o, eA, hg, hrng⟩ := (HRO.out.below hbel) i a.c (by rw [List.getElem?_map, hx]; rfl)
      subst eA
      have HTK := Lib.hid (pls_take hx)
      have hle : ((r.ops.take i).flatMap OpV.pls).length ≤ 100 := by
        have := flat_le' r.ops i
        omega
      clear hx hown hbel
      rcases a with n | ⟨m, q⟩
      · have c0 := hrng 0 _ rfl
        simp only [Nat.add_zero] at c0
        clear hrng
        go_wp2_with fail
        go_roundg (r.ops.length - (i + 1))
        case measure => omega
        case rel => exact ⟨i + 1, by simp, by omega, rfl, by rw [HTK.out]; simpa [OpV.pls] using HO.out, HBL.out⟩
      · have c0 := hrng 0 _ rfl
        have c2 := hrng 2 _ rfl
        have c3 := hrng 3 _ rfl
        have c4 := hrng 4 _ rfl
        simp only [Nat.add_zero] at c0
        clear hrng
        have hkm : (kdM m != 1) = true := by cases m <;> decide
        generalize kdM m = km at *
        go_wp2_with (at_builtin; refine wpList_appendN rfl _ _ 65 rfl w1.heap.size tPl (.agg #[.int .i64 0, .bool false, .int .u8 0]) 3 16 Tryz.underlying65 plR rfl (by decide) _ _ _ rfl (HO.out.alloc _) [.int .i64 q.l, .bool q.d, .int .u8 q.f] _ 1 rfl (at_alloc rfl) rfl (by simp [Value.oneCell']) (by omega) (by omega) (HBL.out.alloc hsz _) (by simp; omega) ?_; intro v1 w2 hown1 hbel1)
        go_roundg (r.ops.length - (i + 1))
        case measure => omega
        case rel => exact ⟨i + 1, by simp, by omega, rfl, by rw [HTK.out]; simpa [OpV.pls, plC, PlV.c] using hown1, hbel1⟩
    · obtain rfl : i = r.ops.length := by omega
      rw [List.take_length] at HO
      have hhr := (HBL.out.block H hs1).trans HH1.out
      have HF := Lib.hid (HB1.out.trans (HBL.out.mono (by have := HB1.out.size; omega)))
      have hq := HCS.out
      clear hown
      subst hH
      rcases r with a | ⟨k, a, a'⟩ | ⟨a, a'⟩ | ⟨k, q⟩ | q
      iterate 3
        focus
          have q0 := box_cell (j := 0) hhr (by rw [← hq]; rfl)
          go_wp2_with fail
          go_ret2
          obtain ⟨A2, c2, rfl, rows⟩ := pl_rows HO.out
          exact ⟨A2, c2, by simp [RvV.pls, RvV.own], by simpa [RvV.pls, RvV.own] using rows, HF.out⟩
      all_goals (
        have q0 := box_cell (j := 0) hhr (by rw [← hq]; rfl)
        have q1 := box_cell (j := 13) hhr (by rw [← hq]; rfl)
        have q2 := box_cell (j := 14) hhr (by rw [← hq]; rfl)
        have q3 := box_cell (j := 15) hhr (by rw [← hq]; rfl)
        go_wp2_with (at_builtin; refine wpList_appendN rfl _ _ 65 rfl w1.heap.size tPl (.agg #[.int .i64 0, .bool false, .int .u8 0]) 3 16 Tryz.underlying65 plR rfl (by decide) _ _ _ rfl (HO.out.alloc _) [.int .i64 q.l, .bool q.d, .int .u8 q.f] _ 1 rfl (at_alloc rfl) rfl (by simp [Value.oneCell']) (by omega) (by omega) (HBL.out.alloc hsz _) (by simp; omega) ?_; intro v1 w2 hown1 hbel1)
        go_ret2
        obtain ⟨A2, c2, rfl, rows⟩ := pl_rows (l := [q]) (by simpa [RvV.ops, plC, PlV.c] using hown1)
        exact ⟨A2, c2, rfl, rows, HB1.out.trans (hbel1.mono HB1.out.size)⟩)
end Go.Proofs.YtnhnelgkcldkbaaGreatDoor.enc
