/- graph.Points: the points of a function, as a new list. (Out of XLoanC, for seats without loans.) -/
import Derived.Test.YtglmonlofejcgaaDoorLoanA
import Derived.Deep.MidRow
namespace Go.Proofs.YtglmonlofejcgaaDoor.loan
open Go.RowKit Go.Proofs.YtglmonlofejcgaaDoor Go.Proofs.YtglmonlofejcgaaDoor.Am
set_option linter.unusedVariables false
def ChkIs (w : World) (v : Value) (x : Int) : Prop := ∀ w1, Below w.heap.size w w1 → Calls Tryd.prog 23 #[v] w1 fun e w' => e = .returned (.int .i64 x) ∧ Below w1.heap.size w1 w'
structure Small (D : FnD) : Prop where
 n : D.bs.length ≤ 24
 s : ∀ b ∈ D.bs, b.st.length ≤ 24
theorem Small.start {D : FnD} (h : Small D) {i : Nat} (hi : i ≤ D.bs.length) : startOf D.bs i ≤ 600 := by
 have := start_le (lenB_le h.s) i
 have := h.n
 omega
def NewE (t : TypeId) (sz : Nat) (els : List (List Value)) (W : World) (e : Ending) (W' : World) : Prop := ∃ s, e = .returned (.tuple #[s, .int .i64 0]) ∧ NewL t sz els W s W'
def ptsL (D : FnD) : List (List Value) := (ptsTo D.bs D.bs.length).map ptV
def sizeN (D : FnD) : Nat := startOf D.bs D.bs.length
theorem ptsL_len (D : FnD) : (ptsL D).length = sizeN D := by unfold ptsL; rw [List.length_map, to_len]; rfl
theorem ptsL_2 (D : FnD) : ∀ x ∈ ptsL D, x.length = 2 := fun x hx => by
 obtain ⟨p, _, rfl⟩ := List.mem_map.1 hx
 rfl
theorem NewL.read {t : TypeId} {sz : Nat} {els : List (List Value)} {W W' : World} {s : Value} (h : NewL t sz els W s W') (hz : 0 < sz) (hl : ∀ x ∈ els, x.length = sz) : ∃ A c, s = .slice A els.length c ∧ RowsAt W' A sz els := RowsAt.own h.1 rfl hz hl
set_option maxRecDepth 100000 in
set_option maxHeartbeats 4000000 in
theorem points_c {w : World} {v : Value} {D : FnD} (h : FnOk' w v D) (hs : Small D) (hC : ChkIs w v 0) : Calls Tryd.prog 12 #[v] w (NewE tP 2 (ptsL D) w) := by
 have hA := fun w1 (hb : Below w.heap.size w w1) => all_c (h.frz hb.block) hs.n hs.s
 unfold ChkIs at hC
 rw [h.eq] at hC hA ⊢
 have B0 : Box (w.alloc (.cells #[.int .i64 D.p, .bool D.u, D.lv, D.bv] tF)) w.heap.size tF (.int .i64 D.p) (.bool D.u) D.lv D.bv := Box.mk rfl
 have b0 : Below w.heap.size w (w.alloc (.cells #[.int .i64 D.p, .bool D.u, D.lv, D.bv] tF)) := (Below.refl _ _).alloc (Nat.le_refl _) _
 have HC := Lib.hid hC
 have HA := Lib.hid hA
 clear hC hA h
 go_enter Tryd.func12, Tryd.ntmps12
 go_wp2_with (first | (go_at_call 23; refine (HC.out _ b0).mono ?_; rintro e w1 ⟨rfl, b1⟩; obtain ⟨y0, y1, y2, y3⟩ := (B0.below b1).cells) | (go_at_call 26; refine (HA.out _ (b0.trans (b1.mono b0.size))).mono ?_; rintro e w2 ⟨s, rfl, hown, b2⟩))
 go_ret2
 have b01 := b0.trans (b1.mono b0.size)
 exact ⟨_, rfl, owns_base hown b01.size, b01.trans (b2.mono b01.size)⟩
end Go.Proofs.YtglmonlofejcgaaDoor.loan
