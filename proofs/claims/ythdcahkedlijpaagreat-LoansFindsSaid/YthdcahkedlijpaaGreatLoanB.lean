/- pawnshopref15.Starts, Size, Point and Stmt, by their contracts. -/
import Derived.Test.YthdcahkedlijpaaGreatLoanC
import Derived.Test.YthdcahkedlijpaaGreatRegC
import Derived.Deep.QuietTactic
import Derived.BigQuiet
import Derived.IntWalk
namespace Go.Proofs.YthdcahkedlijpaaGreat.loan
open Go.RowKit Go.Proofs.YthdcahkedlijpaaGreat Go.Proofs.YthdcahkedlijpaaGreat.Am
set_option linter.unusedVariables false
abbrev tI : TypeId := 3
theorem iR : (Tryz.prog.info? 3).map (fun i => (i.zero, i.size, i.bytes)) = some (some (.int .i64 0), 1, 8) := by kernel_rfl
theorem RowsAt.get {w w' : World} {A : Option Addr} {sz i : Nat} {els : List (List Value)} {el : List Value} (h : RowsAt w A sz els) (hb : Below w.heap.size w w') (hi : els[i]? = some el) : ∃ g o, A = some ⟨g, o, none⟩ ∧ g < w.heap.size ∧ w'.rangeAt g (o + i * sz) el := by
 obtain ⟨g, o, e, hg, hr⟩ := h i el hi
 exact ⟨g, o, e, hg, fun j v hj => (hb.cell (p := ⟨g, o + i * sz + j, none⟩) hg).trans (hr j v hj)⟩
def stL (bs : List BlkD) (i : Nat) : List (List Value) := (List.range (i + 1)).map fun j => [.int .i64 (startOf bs j : Nat)]
theorem stL_len (bs : List BlkD) (i : Nat) : (stL bs i).length = i + 1 := by simp [stL]
theorem stL_1 {bs : List BlkD} {i : Nat} : ∀ x ∈ stL bs i, x.length = 1 := fun x hx => by
 obtain ⟨p, _, rfl⟩ := List.mem_map.1 hx
 rfl
theorem stL_next (bs : List BlkD) (i : Nat) : stL bs (i + 1) = stL bs i ++ [[.int .i64 (startOf bs (i + 1) : Nat)]] := by
 unfold stL
 rw [List.range_succ, List.map_append]
 rfl
theorem stL_at {bs : List BlkD} {i j : Nat} (h : j ≤ i) : (stL bs i)[j]? = some [.int .i64 (startOf bs j : Nat)] := by
 unfold stL
 rw [List.getElem?_map, List.getElem?_range (by omega)]
 rfl
theorem owns_lit {w : World} {base H : Nat} {e : TypeId} {cs : Array Value} (hg : w.heap[H]? = some (.cells cs e (0, 0))) (hb : base ≤ H) (hm : cs.size ≤ maxLen) : w.ownsRow base e 1 (.slice (some ⟨H, 0, none⟩) cs.size cs.size) cs.size cs.toList :=
 ⟨by simp, .inr ⟨H, cs.size, cs, rfl, hb, hg, Nat.le_refl _, hm, by simp, by rw [Nat.mul_one, List.take_of_length_le (by simp)]⟩⟩
set_option maxRecDepth 100000 in
set_option maxHeartbeats 4000000 in
theorem starts_c {w : World} {v : Value} {D : FnD} (h : FnOk' w v D) (hs : Small D) :
  Calls Tryz.prog 39 #[v] w fun e w' => ∃ s, e = .returned s ∧ NewL tI 1 (stL D.bs D.bs.length) w s w' := by
 have HF := Lib.hid h
 obtain ⟨A, c, e, hm, hr⟩ := FnOk'.blks h
 rw [h.eq, e]
 have HR := Lib.hid hr
 have HS := Lib.hid hs
 clear h hr hs e
 obtain ⟨w1, hw1⟩ : ∃ w1, w1 = w.alloc (.cells #[.int .i64 D.p, .bool D.u, D.lv, .slice A D.bs.length c] tF) := ⟨_, rfl⟩
 have B0 : Box w1 w.heap.size tF (.int .i64 D.p) (.bool D.u) D.lv (.slice A D.bs.length c) := by rw [hw1]; exact Box.mk rfl
 have b0 : Below w.heap.size w w1 := by rw [hw1]; exact (Below.refl _ _).alloc (Nat.le_refl _) _
 have s1 : w1.heap.size = w.heap.size + 1 := by rw [hw1]; simp
 have HB0 := Lib.hid B0
 have hn := HS.out.n
 go_enter Tryz.func39, Tryz.ntmps39
 go_wp2
 rw [← hw1]
 go_loopg [3, 4] D.bs.length (fun g s3 s4 wr => ∃ i : Nat, s4 = .int .i64 i ∧ i ≤ D.bs.length ∧ g = D.bs.length - i ∧ wr.ownsRow w1.heap.size tI 1 s3 (i + 1) (stL D.bs i).flatten ∧ Below w1.heap.size w1 wr)
 case atStart => exact ⟨0, rfl, Nat.zero_le _, rfl, owns_lit (cs := #[.int .i64 0]) (at_alloc s1) (by omega) (by simp [maxLen]), (Below.refl _ _).alloc (Nat.le_refl _) _⟩
 case round =>
  obtain ⟨i, rfl, hi, rfl, hown, hbel⟩ := hrel
  obtain ⟨t0, t1, t2, t3⟩ := (HB0.out.below hbel).cells
  have hbw : Below w.heap.size w wr := b0.trans (hbel.mono b0.size)
  rcases Nat.lt_or_ge i D.bs.length with hlt | hge
  ·have hltI : (i : Int) < (D.bs.length : Int) := by omega
   have h0I : (0 : Int) ≤ (i : Int) := Int.natCast_nonneg _
   obtain ⟨b, hb⟩ : ∃ b, D.bs[i]? = some b := ⟨_, List.getElem?_eq_getElem hlt⟩
   obtain ⟨As, cs, es, hms, _⟩ := BlkOk.stms (HF.out.blk b (List.mem_of_getElem? hb))
   obtain ⟨gb, ob, eA, hgb, hcb⟩ := RowsAt.get HR.out hbw (i := i) (el := b.cells) (by rw [List.getElem?_map, hb]; rfl)
   subst eA
   have cg := hcb 0 b.s rfl
   rw [es] at cg
   simp only [Nat.add_zero] at cg
   have h24 := HS.out.s b (List.mem_of_getElem? hb)
   have hst := HS.out.start hi
   obtain ⟨go, co, rfl, hgo, hgo2⟩ := hown.form (by omega)
   have co0 : wr.cell? ⟨go, i, none⟩ = some (.int .i64 (startOf D.bs i : Nat)) := by
    have := hown.cells (g := go) rfl i (.int .i64 (startOf D.bs i : Nat)) (by have := flat_get stL_1 (stL_at (bs := D.bs) (Nat.le_refl i)) (f := 0) rfl; rw [Nat.mul_one] at this; exact this)
    rw [addr_add, Nat.zero_add] at this
    exact this
   have hnx : startOf D.bs (i + 1) = startOf D.bs i + (b.st.length + 1) := by show startOf D.bs i + (lenB D.bs i + 1) = _; rw [lenB_of hb]
   have hfl : ((startOf D.bs i : Int) + (b.st.length : Int) + 1) = ((startOf D.bs (i + 1) : Nat) : Int) := by rw [hnx]; push_cast; omega
   have hwsz := hbw.size
   have HFL := Lib.hid hfl
   have HX := Lib.hid hnx
   have HO := Lib.hid hown
   have HB := Lib.hid hbel
   clear hcb hb es hnx hfl
   have w1s : IntKind.i64.wrap ((startOf D.bs i : Int) + (b.st.length : Int)) = (startOf D.bs i : Int) + (b.st.length : Int) := IntWalk.i64_in _ (by omega)
   have w2s : IntKind.i64.wrap ((startOf D.bs i : Int) + (b.st.length : Int) + 1) = (startOf D.bs i : Int) + (b.st.length : Int) + 1 := IntWalk.i64_in _ (by omega)
   have hiI : (i : Int) < (i : Int) + 1 := by omega
   clear hown hbel
   go_upto_region 5 with fail
   refine region_cells [⟨w.heap.size, 3, none⟩, ⟨gb, ob + i * 14, none⟩, ⟨go, i, none⟩] [(0, true), (1, true), (2, true), (3, true), (4, true), (5, true), (6, true), (7, true), (8, true), (9, true), (10, true), (11, true), (12, true), (13, true), (14, false), (15, false), (16, true)] (by kernel_rfl) (by kernel_rfl) (by decide) (by kernel_rfl) (fun _ _ _ _ _ h => h) ?_
   have d3 : wr.drew.cell? ⟨w.heap.size, 3, none⟩ = _ := t3
   have dg : wr.drew.cell? ⟨gb, ob + i * 14, none⟩ = _ := cg
   have do0 : wr.drew.cell? ⟨go, i, none⟩ = _ := co0
   refine SeqC.take (v := ?_) rfl (by rfl) (fun W hW => ?_) ?_; rotate_left; (focus (have y3 := hW.get (by simp) d3; have y4 := hW.get (by simp) dg; have y5 := hW.get (by simp) do0; go_simp; with_reducible rfl)); simp only [Act.put, List.setIfInBounds_toArray, List.set_cons_zero, List.set_cons_succ]
   refine SeqC.take (v := ?_) rfl (by rfl) (fun W hW => ?_) ?_; rotate_left; (focus (have y3 := hW.get (by simp) d3; have y4 := hW.get (by simp) dg; have y5 := hW.get (by simp) do0; go_simp; with_reducible rfl)); simp only [Act.put, List.setIfInBounds_toArray, List.set_cons_zero, List.set_cons_succ]
   refine SeqC.take (v := ?_) rfl (by rfl) (fun W hW => ?_) ?_; rotate_left; (focus (have y3 := hW.get (by simp) d3; have y4 := hW.get (by simp) dg; have y5 := hW.get (by simp) do0; go_simp; with_reducible rfl)); simp only [Act.put, List.setIfInBounds_toArray, List.set_cons_zero, List.set_cons_succ]
   refine SeqC.take (v := ?_) rfl (by rfl) (fun W hW => ?_) ?_; rotate_left; (focus (have y3 := hW.get (by simp) d3; have y4 := hW.get (by simp) dg; have y5 := hW.get (by simp) do0; go_simp; with_reducible rfl)); simp only [Act.put, List.setIfInBounds_toArray, List.set_cons_zero, List.set_cons_succ]
   refine SeqC.take (v := ?_) rfl (by rfl) (fun W hW => ?_) ?_; rotate_left; (focus (have y3 := hW.get (by simp) d3; have y4 := hW.get (by simp) dg; have y5 := hW.get (by simp) do0; go_simp; with_reducible rfl)); simp only [Act.put, List.setIfInBounds_toArray, List.set_cons_zero, List.set_cons_succ]
   refine SeqC.take (v := ?_) rfl (by rfl) (fun W hW => ?_) ?_; rotate_left; (focus (have y3 := hW.get (by simp) d3; have y4 := hW.get (by simp) dg; have y5 := hW.get (by simp) do0; go_simp; with_reducible rfl)); simp only [Act.put, List.setIfInBounds_toArray, List.set_cons_zero, List.set_cons_succ]
   refine SeqC.take (v := ?_) rfl (by rfl) (fun W hW => ?_) ?_; rotate_left; (focus (have y3 := hW.get (by simp) d3; have y4 := hW.get (by simp) dg; have y5 := hW.get (by simp) do0; go_simp; with_reducible rfl)); simp only [Act.put, List.setIfInBounds_toArray, List.set_cons_zero, List.set_cons_succ]
   refine SeqC.take (v := ?_) rfl (by rfl) (fun W hW => ?_) ?_; rotate_left; (focus (have y3 := hW.get (by simp) d3; have y4 := hW.get (by simp) dg; have y5 := hW.get (by simp) do0; go_simp; with_reducible rfl)); simp only [Act.put, List.setIfInBounds_toArray, List.set_cons_zero, List.set_cons_succ]
   refine SeqC.take (v := ?_) rfl (by rfl) (fun W hW => ?_) ?_; rotate_left; (focus (have y3 := hW.get (by simp) d3; have y4 := hW.get (by simp) dg; have y5 := hW.get (by simp) do0; go_simp; with_reducible rfl)); simp only [Act.put, List.setIfInBounds_toArray, List.set_cons_zero, List.set_cons_succ]
   refine SeqC.take (v := ?_) rfl (by rfl) (fun W hW => ?_) ?_; rotate_left; (focus (have y3 := hW.get (by simp) d3; have y4 := hW.get (by simp) dg; have y5 := hW.get (by simp) do0; go_simp; with_reducible rfl)); simp only [Act.put, List.setIfInBounds_toArray, List.set_cons_zero, List.set_cons_succ]
   refine SeqC.take (v := ?_) rfl (by rfl) (fun W hW => ?_) ?_; rotate_left; (focus (have y3 := hW.get (by simp) d3; have y4 := hW.get (by simp) dg; have y5 := hW.get (by simp) do0; go_simp; with_reducible rfl)); simp only [Act.put, List.setIfInBounds_toArray, List.set_cons_zero, List.set_cons_succ]
   refine SeqC.take (v := ?_) rfl (by rfl) (fun W hW => ?_) ?_; rotate_left; (focus (have y3 := hW.get (by simp) d3; have y4 := hW.get (by simp) dg; have y5 := hW.get (by simp) do0; go_simp; with_reducible rfl)); simp only [Act.put, List.setIfInBounds_toArray, List.set_cons_zero, List.set_cons_succ]
   refine SeqC.take (v := ?_) rfl (by rfl) (fun W hW => ?_) ?_; rotate_left; (focus (have y3 := hW.get (by simp) d3; have y4 := hW.get (by simp) dg; have y5 := hW.get (by simp) do0; go_simp; with_reducible rfl)); simp only [Act.put, List.setIfInBounds_toArray, List.set_cons_zero, List.set_cons_succ]
   refine SeqC.take (v := ?_) rfl (by rfl) (fun W hW => ?_) ?_; rotate_left; (focus (have y3 := hW.get (by simp) d3; have y4 := hW.get (by simp) dg; have y5 := hW.get (by simp) do0; go_simp; with_reducible rfl)); simp only [Act.put, List.setIfInBounds_toArray, List.set_cons_zero, List.set_cons_succ]
   refine SeqC.val (v := .slice (some ⟨wr.heap.size, 0, none⟩) 1 1) (w' := wr.drew.alloc (.cells #[.int .i64 ((startOf D.bs i : Int) + (b.st.length : Int) + 1)] tI)) rfl (by rfl) (by go_simp; try with_reducible rfl) (Cells.of_ext ((Below.refl _ _).alloc (Nat.le_refl _) _) (by intro p hp; simp only [List.mem_cons, List.not_mem_nil, or_false] at hp; show p.block < wr.heap.size; rcases hp with rfl | rfl | rfl <;> simp <;> omega)) ?_
   simp only [Act.put, List.setIfInBounds_toArray, List.set_cons_zero, List.set_cons_succ]
   refine SeqC.step rfl (by rfl) (fun K' hK => ?_)
   refine wp_append_keep _ _ 69 rfl w1.heap.size tI (.int .i64 0) 1 8 Tryz.underlying69 iR rfl (by decide) _ _ _ rfl (World.ownsRow.alloc (w := wr.drew) HO.out _) [.int .i64 ((startOf D.bs i : Int) + (b.st.length : Int) + 1)] wr.heap.size 1 rfl (at_alloc (w := wr.drew) rfl) rfl (by simp [Value.oneCell']) (by omega) (by omega) w1 ((HB.out.drew).alloc (by show w1.heap.size ≤ wr.heap.size; exact HB.out.size) _) (by simp; have := HB.out.size; omega) ?_
   intro v1 w5 hown1 hbel1 hkeep
   refine hK _ _ (fun p hp => ?_) ?_
   ·simp only [List.mem_cons, List.not_mem_nil, or_false] at hp
    rcases hp with rfl | rfl | rfl
    ·exact (hkeep _ _ (cell_more d3) (fun e => absurd (Option.some.inj (show some go = some w.heap.size from e)) (by omega))).trans (cell_more d3).symm
    ·exact (hkeep _ _ (cell_more dg) (fun e => absurd (Option.some.inj (show some go = some gb from e)) (by omega))).trans (cell_more dg).symm
    ·exact (hkeep _ _ (cell_more do0) (fun e => by rw [flat_len stL_1, stL_len]; simp)).trans (cell_more do0).symm
   ·simp only [Act.put, List.setIfInBounds_toArray, List.set_cons_zero, List.set_cons_succ]
    refine SeqC.take (v := ?_) rfl (by rfl) (fun W hW => ?_) ?_
    rotate_left
    focus (go_simp; with_reducible rfl)
    simp only [Act.put, List.setIfInBounds_toArray, List.set_cons_zero, List.set_cons_succ]
    refine SeqC.done ?_
    rw [HFL.out] at hown1
    clear d3 dg do0 hkeep t0 t1 t2 t3 cg co0
    go_wp2
    go_roundg (D.bs.length - (i + 1))
    case measure => omega
    case rel => exact ⟨i + 1, by simp, by omega, rfl, by rw [stL_next, List.flatten_append]; simpa using hown1, hbel1⟩
  ·obtain rfl : i = D.bs.length := by omega
   go_wp2
   go_ret
   exact ⟨_, rfl, owns_base (by rw [stL_len]; exact hown) b0.size, hbw⟩
end Go.Proofs.YthdcahkedlijpaaGreat.loan
