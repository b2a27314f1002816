/- value.parts, value.Operands: the operands of an rvalue, as rows. -/
import Derived.Test.YtnhnelgkcldkbaaGreatDoorCodS
namespace Go.Proofs.YtnhnelgkcldkbaaGreatDoor.enc
open Go.RowKit Go.Proofs.YtnhnelgkcldkbaaGreatDoor Go.Proofs.YtnhnelgkcldkbaaGreatDoor.Am Go.Proofs.YtnhnelgkcldkbaaGreatDoor.loan Go.Proofs.YtnhnelgkcldkbaaGreatDoor.bld
set_option linter.unusedVariables false
def RvV.ops : RvV → List OpV
  | .use a => [a]
  | .bin _ a b => [a, b]
  | .two a b => [a, b]
  | .ref _ _ => []
  | .raw _ => []
theorem rows_blk {W : World} {g sz : Nat} {t : TypeId} {els : List (List Value)} {cs rest : List Value} (hl : ∀ x ∈ els, x.length = sz) (h : W.heap[g]? = some (.cells cs.toArray t (0, 0))) (e : cs = els.flatten ++ rest) : RowsAt W (some ⟨g, 0, none⟩) sz els := fun i el hi =>
  ⟨g, 0, rfl, (Array.getElem?_eq_some_iff.1 h).1, fun j u hj => by
    have q := flat_get hl hi hj
    rw [Nat.zero_add, cell_of_row W g _ _ t (0, 0) h, List.getElem?_toArray, e, List.getElem?_append_left (List.getElem?_eq_some_iff.1 q).1]
    exact q⟩
theorem ops_five {l : List OpV} : ∀ x ∈ l.map OpV.c, x.length = 5 := fun x hx => by
  obtain ⟨a, -, rfl⟩ := List.mem_map.1 hx
  cases a <;> rfl
/-- a new slice with these rows -/
def AnsR (T : List (List Value)) (sz : Nat) (W : World) (e : Ending) (W' : World) : Prop := ∃ A c, e = .returned (.slice A T.length c) ∧ RowsAt W' A sz T ∧ Below W.heap.size W W' ∧ T.length ≤ c ∧ c ≤ 2
set_option maxHeartbeats 8000000 in
set_option maxRecDepth 100000 in
theorem parts_c {W : World} {r : RvV} : Calls Tryz.prog 64 #[.agg r.c.toArray] W (AnsR (r.ops.map OpV.c) 5 W) := by
  cases r
  case' use a => cases a
  case' bin o a b => cases a <;> cases b
  case' two a b => cases a <;> cases b
  all_goals (
    simp only [RvV.c, OpV.c, PlV.c, zO, zP, List.cons_append, List.nil_append]
    go_enter Tryz.func64, Tryz.ntmps64
    go_wp2_with fail
    go_ret
    have b0 : ∀ o o', Below W.heap.size W ((W.alloc o).alloc o') := fun o o' => ((Below.refl _ _).alloc (Nat.le_refl _) _).alloc (by simp) _
    first
    | exact ⟨some ⟨W.heap.size + 1, 0, none⟩, _, rfl, rows_blk (rest := zO) ops_five (at_alloc (by simp)) rfl, b0 _ _, Nat.le_refl _, by decide⟩
    | exact ⟨some ⟨W.heap.size + 1, 0, none⟩, _, rfl, rows_blk (rest := []) ops_five (at_alloc (by simp)) rfl, b0 _ _, Nat.le_refl _, by decide⟩
    | exact ⟨none, _, rfl, fun i el h => (by cases h), b0 _ _, Nat.le_refl _, by decide⟩)
/-- a new slice with these rows, and no error -/
def AnsR0 (T : List (List Value)) (sz : Nat) (W : World) (e : Ending) (W' : World) : Prop := ∃ A c, e = .returned (.tuple #[.slice A T.length c, .int .i64 0]) ∧ RowsAt W' A sz T ∧ Below W.heap.size W W' ∧ T.length ≤ c ∧ c ≤ 2
theorem RvV.len16' (r : RvV) : r.c.length = 16 := by
  rcases r with a | ⟨o, a, a'⟩ | ⟨a, a'⟩ | ⟨o, q⟩ | q
  · cases a <;> rfl
  · cases a <;> cases a' <;> rfl
  · cases a <;> cases a' <;> rfl
  · rfl
  · rfl
set_option maxHeartbeats 8000000 in
set_option maxRecDepth 100000 in
theorem ops_c {W : World} {r : RvV} (hk : All2 Kd.ok kRv r.c) (hv : (okRvE 0).val r.c = true) : Calls Tryz.prog 28 #[.agg r.c.toArray] W (AnsR0 (r.ops.map OpV.c) 5 W) := by
  have HC := Lib.hid (fun (W1 : World) => show Calls Tryz.prog 62 #[.agg r.c.toArray] W1 (fun x w' => x = .returned (.int .i64 0) ∧ Below W1.heap.size W1 w') from by have := rvA_tests r.c hk W1 trivial; rw [hv] at this; exact this)
  have HP := Lib.hid (fun (W1 : World) => parts_c (W := W1) (r := r))
  have hl := r.len16'
  clear hk hv
  generalize r.ops.map OpV.c = T at *
  generalize r.c = cs at *
  go_enter Tryz.func28, Tryz.ntmps28
  go_upto_region 1 with fail
  have hh0 : (W.alloc (.cells cs.toArray tRv)).heap[W.heap.size]? = some (.cells cs.toArray tRv (0, 0)) := at_alloc rfl
  have hr : (W.alloc (.cells cs.toArray tRv)).rangeAt W.heap.size 0 cs := range_block (X := []) (Z := []) hh0 (by simp)
  have hb : Below W.heap.size W (W.alloc (.cells cs.toArray tRv)) := (Below.refl _ _).alloc (Nat.le_refl _) _
  have hs : W.heap.size < (W.alloc (.cells cs.toArray tRv)).heap.size := by simp
  generalize W.alloc (.cells cs.toArray tRv) = w0 at *
  generalize hH : W.heap.size = H at *
  have HR := Lib.hid hr
  have HB := Lib.hid hb
  clear hh0 hr hb
  go_upto_region 4 with (first | (refine wpList_load_mid rfl tRv _ rfl H 0 rfl cs _ HR.out Tryz.underlying61 rfl (by rw [hl]; exact rvR) ?_) | (go_at_call 62; refine (HC.out _).mono ?_; rintro e w1 ⟨rfl, b1⟩))
  have HR1 := Lib.hid (show w1.rangeAt H 0 cs from fun j u hj => (b1.cell (p := ⟨H, 0 + j, none⟩) hs).trans (HR.out j u hj))
  have HB1 := Lib.hid (HB.out.trans (b1.mono (by have := HB.out.size; omega)))
  clear b1
  go_wp2_with (first | (refine wpList_load_mid rfl tRv _ rfl H 0 rfl cs _ HR1.out Tryz.underlying61 rfl (by rw [hl]; exact rvR) ?_) | (go_at_call 64; refine (HP.out _).mono ?_; rintro e w2 ⟨A, c, rfl, rows, b2, hcc⟩))
  go_ret2
  subst hH
  exact ⟨A, c, rfl, rows, HB1.out.trans (b2.mono HB1.out.size), hcc⟩
end Go.Proofs.YtnhnelgkcldkbaaGreatDoor.enc
