/- pawnshopref15.Size, Point and Stmt, by their contracts. -/
import Derived.Test.YthdcahkedlijpaaGreatLoanB
namespace Go.Proofs.YthdcahkedlijpaaGreat.loan
open Go.RowKit Go.Proofs.YthdcahkedlijpaaGreat Go.Proofs.YthdcahkedlijpaaGreat.Am
set_option linter.unusedVariables false
def Ans1 (W : World) (v : Value) (e : Ending) (W' : World) : Prop := e = .returned v ∧ Below W.heap.size W W'
theorem starts_read {w : World} {v : Value} {D : FnD} (h : FnOk' w v D) (hs : Small D) : Calls Tryz.prog 39 #[v] w fun e w' => ∃ g c, e = .returned (.slice (some ⟨g, 0, none⟩) (D.bs.length + 1) c) ∧ (∀ j, j ≤ D.bs.length → w'.cell? ⟨g, j, none⟩ = some (.int .i64 (startOf D.bs j : Nat))) ∧ Below w.heap.size w w' := by
  refine (starts_c h hs).mono ?_
  rintro e w' ⟨s, rfl, ho, hb⟩
  rw [stL_len] at ho
  obtain ⟨g, c, rfl, hg, _⟩ := ho.form (by omega)
  refine ⟨g, c, rfl, fun j hj => ?_, hb⟩
  have := ho.cells (g := g) rfl j (.int .i64 (startOf D.bs j : Nat)) (by have := flat_get stL_1 (stL_at (bs := D.bs) hj) (f := 0) rfl; rw [Nat.mul_one] at this; exact this)
  rw [addr_add, Nat.zero_add] at this
  exact this
set_option maxRecDepth 100000 in
set_option maxHeartbeats 4000000 in
theorem size_c {w : World} {v : Value} {D : FnD} (h : FnOk' w v D) (hs : Small D) : Calls Tryz.prog 24 #[v] w (Ans1 w (.int .i64 (sizeN D : Nat))) := by
  have hT := fun w1 (hb : Below w.heap.size w w1) => starts_read (h.frz hb.block) hs
  obtain ⟨A, c, e, hm, hr⟩ := FnOk'.blks h
  rw [h.eq, e] at hT ⊢
  have HT := Lib.hid hT
  clear hT h hr e
  have B0 : Box (w.alloc (.cells #[.int .i64 D.p, .bool D.u, D.lv, .slice A D.bs.length c] tF)).drew w.heap.size tF (.int .i64 D.p) (.bool D.u) D.lv (.slice A D.bs.length c) := Box.mk rfl
  have b0 : Below w.heap.size w (w.alloc (.cells #[.int .i64 D.p, .bool D.u, D.lv, .slice A D.bs.length c] tF)).drew := ((Below.refl _ _).alloc (Nat.le_refl _) _).drew
  obtain ⟨y0, y1, y2, y3⟩ := B0.cells
  have hlt := B0.lt
  go_enter Tryz.func24, Tryz.ntmps24
  go_upto_region 1 with fail
  refine region_cells [⟨w.heap.size, 0, none⟩, ⟨w.heap.size, 1, none⟩, ⟨w.heap.size, 2, none⟩, ⟨w.heap.size, 3, none⟩] [(0, true), (2, true), (3, true), (4, true), (1, false), (5, true), (6, false), (7, true)] (by kernel_rfl) (by kernel_rfl) (by decide) (by kernel_rfl) (fun _ _ _ _ _ h => h) ?_
  generalize (w.alloc (.cells #[.int .i64 D.p, .bool D.u, D.lv, .slice A D.bs.length c] tF)).drew = wa at *
  refine SeqC.take (v := ?_) rfl (by rfl) (fun W hW => ?_) ?_; rotate_left; (focus (have z0 := hW.get (by simp) y0; have z1 := hW.get (by simp) y1; have z2 := hW.get (by simp) y2; have z3 := hW.get (by simp) y3; go_simp; with_reducible rfl)); simp only [Act.put, List.setIfInBounds_toArray, List.set_cons_zero, List.set_cons_succ]
  refine SeqC.take (v := ?_) rfl (by rfl) (fun W hW => ?_) ?_; rotate_left; (focus (have z0 := hW.get (by simp) y0; have z1 := hW.get (by simp) y1; have z2 := hW.get (by simp) y2; have z3 := hW.get (by simp) y3; go_simp; with_reducible rfl)); simp only [Act.put, List.setIfInBounds_toArray, List.set_cons_zero, List.set_cons_succ]
  refine SeqC.take (v := ?_) rfl (by rfl) (fun W hW => ?_) ?_; rotate_left; (focus (have z0 := hW.get (by simp) y0; have z1 := hW.get (by simp) y1; have z2 := hW.get (by simp) y2; have z3 := hW.get (by simp) y3; go_simp; with_reducible rfl)); simp only [Act.put, List.setIfInBounds_toArray, List.set_cons_zero, List.set_cons_succ]
  refine SeqC.take (v := ?_) rfl (by rfl) (fun W hW => ?_) ?_; rotate_left; (focus (have z0 := hW.get (by simp) y0; have z1 := hW.get (by simp) y1; have z2 := hW.get (by simp) y2; have z3 := hW.get (by simp) y3; go_simp; with_reducible rfl)); simp only [Act.put, List.setIfInBounds_toArray, List.set_cons_zero, List.set_cons_succ]
  refine SeqC.call (f := ?_) (args := ?_) rfl (by rfl) ?_ ?_
  rotate_left 2
  · (go_simp; first | with_reducible rfl | (refine ⟨?_, ?_⟩ <;> with_reducible rfl))
  refine (HT.out _ b0).mono ?_
  rintro e w2 ⟨g, cg, rfl, hcell, b2⟩
  refine ⟨_, rfl, Cells.of_ext b2 (by intro p hp; simp only [List.mem_cons, List.not_mem_nil, or_false] at hp; rcases hp with rfl | rfl | rfl | rfl <;> exact hlt), ?_⟩
  simp only [Act.put, List.setIfInBounds_toArray, List.set_cons_zero, List.set_cons_succ]
  have hN := hcell D.bs.length (Nat.le_refl _)
  have hlI : (D.bs.length : Int) < (D.bs.length : Int) + 1 := by omega
  have h0I : (0 : Int) ≤ (D.bs.length : Int) := Int.natCast_nonneg _
  clear hcell
  refine SeqC.take (v := ?_) rfl (by rfl) (fun W hW => ?_) ?_; rotate_left; (focus (go_simp; with_reducible rfl)); simp only [Act.put, List.setIfInBounds_toArray, List.set_cons_zero, List.set_cons_succ]
  refine SeqC.val (v := ?_) rfl (by rfl) ?_ (Cells.refl _ _) ?_; rotate_left; (focus (go_simp; with_reducible rfl)); simp only [Act.put, List.setIfInBounds_toArray, List.set_cons_zero, List.set_cons_succ]
  refine SeqC.take (v := ?_) rfl (by rfl) (fun W hW => ?_) ?_; rotate_left; (focus (go_simp; with_reducible rfl)); simp only [Act.put, List.setIfInBounds_toArray, List.set_cons_zero, List.set_cons_succ]
  refine SeqC.done ?_
  go_wp2
  go_ret
  exact ⟨rfl, b0.trans (b2.mono b0.size)⟩
structure IsPt (D : FnD) (n i k : Nat) : Prop where
  lt : i < D.bs.length
  le : k ≤ lenB D.bs i
  eq : n = startOf D.bs i + k
theorem IsPt.of {D : FnD} {n : Nat} (h : n < sizeN D) : ∃ i k, IsPt D n i k := by
  obtain ⟨i, k, h1, h2, h3⟩ := pt_ex h
  exact ⟨i, k, h1, h2, h3⟩
theorem IsPt.st {D : FnD} {n i k : Nat} (h : IsPt D n i k) : stN D.bs n = (D.bs.getD i b0).st[k]? := by rw [h.eq]; exact st_at h.lt h.le
def zeroS : List Value := (#[.int .u8 0, .int .i64 0, .bool false, .int .u8 0, .int .u8 0, .int .u8 0, .int .u8 0, .int .u8 0, .int .i64 0, .int .i64 0, .bool false, .int .u8 0, .int .u8 0, .int .i64 0, .int .i64 0, .bool false, .int .u8 0, .int .i64 0, .bool false, .int .u8 0, .int .u8 0, .int .i64 0, .int .i64 0, .bool false, .int .u8 0, .int .i64 0] : Array Value).toList
def stV (bs : List BlkD) (n : Nat) : Value := match stN bs n with | some el => .tuple #[.agg el.toArray, .bool true] | none => .tuple #[.agg zeroS.toArray, .bool false]
end Go.Proofs.YthdcahkedlijpaaGreat.loan
