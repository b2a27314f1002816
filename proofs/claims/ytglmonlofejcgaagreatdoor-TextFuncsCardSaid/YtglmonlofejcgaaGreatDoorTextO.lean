/- pawnshopref11.All, At, Asked, and pawnshopref12.Line: the line of a point of a sound function. -/
import Derived.Test.YtglmonlofejcgaaGreatDoorTextN
set_option linter.unusedVariables false
namespace Go.Proofs.YtglmonlofejcgaaGreatDoor.txt
open Go.RowKit Am loan bld
theorem ptR : (Tryz.prog.info? 27).map (fun i => (i.zero, i.size, i.bytes)) = some (some (.agg #[.int .i64 0, .int .i64 0]), 2, 16) := by kernel_rfl
def ag9 (D : FnD) : List (List Value) := (lg D.bs D.bs.length).map ptV
set_option maxRecDepth 100000 in
set_option maxHeartbeats 4000000 in
theorem aju {w : World} {v : Value} {D : FnD} (h : aT w v D) (hL : Lim D) :
  Calls Tryz.prog 46 #[v] w fun e w' => ∃ s, e = .returned s /\ w'.ownsRow w.heap.size tPt 2 s (ag9 D).length (ag9 D).flatten /\ Below w.heap.size w w' := by
 have hn := hL.b
 have hs := hL.s
 have HF := Lib.hid h
 obtain ⟨A, c, e, hm, hr⟩ := aT.blks h
 rw [h.eq, e]
 have HR := Lib.hid hr
 have HS := Lib.hid hs
 clear h hr hs e hL
 obtain ⟨w1, hw1⟩ : ∃ w1, w1 = w.alloc (.cells #[.int .i64 D.p, .bool D.u, D.lv, .slice A D.bs.length c] tFn) := ⟨_, rfl⟩
 have B0 : Box w1 w.heap.size tFn (.int .i64 D.p) (.bool D.u) D.lv (.slice A D.bs.length c) := by rw [hw1]; exact Box.mk rfl
 have b0 : Below w.heap.size w w1 := by rw [hw1]; exact (Below.refl _ _).alloc (Nat.le_refl _) _
 obtain ⟨y0, y1, y2, y3⟩ := B0.cells
 have HB0 := Lib.hid B0
 go_enter Tryz.func46, Tryz.ntmps46
 go_wp2
 go_loopg [3, 4] D.bs.length (fun g s3 s4 wr => ∃ i : Nat, s4 = .int .i64 i /\ i <= D.bs.length /\ g = D.bs.length - i /\ wr.ownsRow w1.heap.size tPt 2 s3 (dF D.bs i) ((lg D.bs i).map ptV).flatten /\ Below w1.heap.size w1 wr)
 case atStart => exact ⟨0, rfl, Nat.zero_le _, rfl, World.ownsRow_nil _ _ _ _, (by rw [<- hw1]; exact Below.refl _ _)⟩
 case round =>
  obtain ⟨i, rfl, hi, rfl, hown, hbel⟩ := hrel
  obtain ⟨t0, t1, t2, t3⟩ := (HB0.out.below hbel).cells
  have hbw : Below w.heap.size w wr := b0.trans (hbel.mono b0.size)
  rcases Nat.lt_or_ge i D.bs.length with hlt | hge
  ·have hltI : (i : Int) < (D.bs.length : Int) := by omega
   have h0I : (0 : Int) <= (i : Int) := Int.natCast_nonneg _
   obtain ⟨b, hb⟩ : ∃ b, D.bs[i]? = some b := ⟨_, List.getElem?_eq_getElem hlt⟩
   obtain ⟨As, cs, es, hms, _⟩ := lq.TR (HF.out.blk b (List.mem_of_getElem? hb))
   have h24 := HS.out b (List.mem_of_getElem? hb)
   have hl := Io hb
   have hst := vH (DZ HS.out) i
   rw [<- a0R] at hown
   have HO := Lib.hid hown
   have HB := Lib.hid hbel
   have HL := Lib.hid hl
   have HBB := Lib.hid hb
   have HES := Lib.hid es
   clear hown hbel hb es hl
   go_wp2
   go_loopg [3, 5] (b.st.length + 1) (fun g s3 s5 wx => ∃ k : Nat, s5 = .int .i64 k /\ k <= b.st.length + 1 /\ g = b.st.length + 1 - k /\ wx.ownsRow w1.heap.size tPt 2 s3 (dF D.bs i + k) ((Dh D.bs i k).map ptV).flatten /\ Below w1.heap.size w1 wx)
   case atStart => exact ⟨0, rfl, Nat.zero_le _, rfl, HO.out, HB.out⟩
   case round =>
    clear HO HB t0 t1 t2 t3
    obtain ⟨k, rfl, hk, rfl, hown, hbel⟩ := hrel
    have hsz := hbel.size
    have hbx := b0.trans (hbel.mono b0.size)
    obtain ⟨t0, t1, t2, t3⟩ := (HB0.out.below hbel).cells
    obtain ⟨gb, ob, eA, hgb, hcb⟩ := (HR.out.below hbx) i b.cells (by rw [List.getElem?_map, HBB.out]; rfl)
    subst eA
    have cg := hcb 0 b.s rfl
    rw [HES.out] at cg
    simp only [Nat.add_zero] at cg
    have h0K : (0 : Int) <= (k : Int) := Int.natCast_nonneg _
    clear hcb
    rcases Nat.lt_or_ge k (b.st.length + 1) with hkl | hkg
    ·have hklI : (k : Int) <= (b.st.length : Int) := by omega
     have hklN : k <= b.st.length := by omega
     go_wp2_with (at_builtin; refine JY rfl _ _ 96 rfl w1.heap.size tPt (.agg #[.int .i64 0, .int .i64 0]) 2 16 Tryz.underlying96 ptR rfl (by decide) _ _ _ rfl (hown.alloc _) [.int .i64 i, .int .i64 k] _ 1 rfl (cu rfl) rfl (by simp [Value.oneCell']) (by omega) (by omega) (hbel.alloc hsz _) (by simp; omega) ?_; intro v1 w2 hown1 hbel1)
     go_roundg (b.st.length + 1 - (k + 1))
     case measure => omega
     case rel => exact ⟨k + 1, by simp, by omega, rfl, by rw [at_next, List.map_append, List.flatten_append]; simpa [ptV, Nat.add_assoc] using hown1, hbel1⟩
    ·obtain rfl : k = b.st.length + 1 := by omega
     have hkn : ¬ ((b.st.length + 1 : Nat) : Int) <= (b.st.length : Int) := by omega
     have hkn2 : ¬ (b.st.length : Int) + 1 <= (b.st.length : Int) := by omega
     rw [<- HL.out, agf, a0R] at hown
     go_wp2
     go_roundg (D.bs.length - (i + 1))
     case measure => omega
     case rel => exact ⟨i + 1, by simp, by omega, rfl, hown, hbel⟩
  ·obtain rfl : i = D.bs.length := by omega
   go_wp2
   go_ret
   exact ⟨_, rfl, sU (by unfold ag9; rw [List.length_map, BL]; exact hown) b0.size, hbw⟩
set_option maxRecDepth 100000 in
set_option maxHeartbeats 4000000 in
theorem aiA {w : World} {v : Value} {D : FnD} (h : aT w v D) (hL : Lim D) {x y r : Int} (N : Nat) (hN : ∀ m p, m < N -> (lg D.bs D.bs.length)[m]? = some p -> ¬ ((p.1 : Int) = x /\ (p.2 : Int) = y))
  (hr : (∃ p, (lg D.bs D.bs.length)[N]? = some p /\ (p.1 : Int) = x /\ (p.2 : Int) = y /\ r = N) \/ (N = (lg D.bs D.bs.length).length /\ r = -1)) : Calls Tryz.prog 27 #[v, .agg #[.int .i64 x, .int .i64 y]] w (bld.Ans w (.int .i64 r)) := by
 have hA := fun w1 (hb : Below w.heap.size w w1) => aju (h.frz hb.block) hL
 have hlen : (lg D.bs D.bs.length).length <= 600 := by
  rw [BL]
  have := vH (DZ hL.s) D.bs.length
  have := hL.b
  omega
 unfold ag9 at hA
 rw [h.eq] at hA |-
 generalize lg D.bs D.bs.length = L at *
 have HA := Lib.hid hA
 have HN := Lib.hid hN
 have HR := Lib.hid hr
 have hNL : N <= L.length := by
  rcases hr with ⟨p, hp, _⟩ | ⟨h, _⟩
  ·exact Nat.le_of_lt (List.getElem?_eq_some_iff.1 hp).1
  ·omega
 clear hA hN hr h hL
 obtain ⟨w1, hw1⟩ : ∃ w1, w1 = (w.alloc (.cells #[.int .i64 D.p, .bool D.u, D.lv, D.bv] tFn)).alloc (.cells #[.int .i64 x, .int .i64 y] tPt) := ⟨_, rfl⟩
 have b1 : Below w.heap.size w w1 := by rw [hw1]; exact ((Below.refl _ _).alloc (Nat.le_refl _) _).alloc (by simp) _
 have P1 : w1.heap[w.heap.size + 1]? = some (.cells #[.int .i64 x, .int .i64 y] tPt (0, 0)) := by rw [hw1]; exact cu (by simp)
 go_enter Tryz.func27, Tryz.ntmps27
 go_upto_region 2 with (rw [<- hw1]; go_at_call 46; refine (HA.out _ b1).mono ?_; rintro e w2 ⟨s, rfl, hown, b2⟩)
 obtain ⟨A, c, rfl, hrow⟩ := pU.own hown rfl (by decide) (fun x hx => by obtain ⟨p, _, rfl⟩ := List.mem_map.1 hx; rfl)
 rw [List.length_map] at *
 have P2 := (b2.block _ (Array.getElem?_eq_some_iff.1 P1).1).trans P1
 have HB := Lib.hid (b1.trans (b2.mono b1.size))
 have HP := Lib.hid P2
 have HW := Lib.hid hrow
 clear hown hrow b1 b2 P1 P2 hw1 HA
 go_wp2_with fail
 go_loopg [6] N (fun g s6 w8 => ∃ m : Nat, s6 = .int .i64 m /\ m <= N /\ g = N - m /\ Below w2.heap.size w2 w8)
 case atStart => exact ⟨0, rfl, Nat.zero_le _, rfl, Below.refl _ _⟩
 case round =>
  obtain ⟨m, rfl, hm, rfl, hbel⟩ := hrel
  have h0M : (0 : Int) <= (m : Int) := Int.natCast_nonneg _
  have PP := (hbel.block _ (Array.getElem?_eq_some_iff.1 HP.out).1).trans HP.out
  have p0 : wr.cell? ⟨w.heap.size + 1, 0, none⟩ = some (.int .i64 x) := by rw [cell_of_row wr _ 0 _ tPt (0, 0) PP]; rfl
  have p1 : wr.cell? ⟨w.heap.size + 1, 1, none⟩ = some (.int .i64 y) := by rw [cell_of_row wr _ 1 _ tPt (0, 0) PP]; rfl
  have HBL := Lib.hid hbel
  clear PP hbel
  by_cases hlt : m < L.length
  ·have hltI : (m : Int) < (L.length : Int) := by omega
   obtain ⟨⟨a, d⟩, hp⟩ : ∃ p, L[m]? = some p := ⟨_, List.getElem?_eq_getElem hlt⟩
   obtain ⟨gr, orr, eA, hgr, hrng⟩ := (HW.out.below HBL.out) m (ptV (a, d)) (by rw [List.getElem?_map, hp]; rfl)
   subst eA
   have c0 := hrng 0 _ rfl
   have c1 := hrng 1 _ rfl
   simp only [Nat.add_zero] at c0
   have HPP := Lib.hid hp
   clear hrng hp
   go_upto_region 5 with fail
   have hNe : ¬ ((a : Int) = x /\ (d : Int) = y) -> m < N := fun hne => by
    rcases Nat.lt_or_ge m N with h | h
    ·exact h
    ·exfalso
     obtain rfl : m = N := by omega
     rcases HR.out with ⟨p, hp, e1, e2, _⟩ | ⟨h, _⟩
     ·rw [HPP.out] at hp
      cases hp
      exact hne ⟨e1, e2⟩
     ·omega
   by_cases hax : (a : Int) = x
   ·by_cases hdy : (d : Int) = y
    ·have hmN : m = N := by
      rcases Nat.lt_or_ge m N with h | h
      ·exact absurd ⟨hax, hdy⟩ (HN.out m _ h HPP.out)
      ·omega
     have hr : r = (m : Int) := by
      rcases HR.out with ⟨p, hp, e1, e2, e3⟩ | ⟨h, _⟩
      ·rw [e3, hmN]
      ·omega
     have HRR := Lib.hid hr
     clear hNe hmN hr
     subst hax hdy
     refine dI [⟨gr, orr + m * 2, none⟩, ⟨gr, orr + m * 2 + 1, none⟩, ⟨w.heap.size + 1, 0, none⟩, ⟨w.heap.size + 1, 1, none⟩] [(0, true), (1, true), (2, true), (3, true), (4, true), (5, true)] (by kernel_rfl) (by kernel_rfl) (by decide) (by kernel_rfl) (fun _ _ _ _ _ h => h) ?_
     have c0 : wr.drew.cell? ⟨gr, orr + m * 2, none⟩ = _ := c0
     have c1 : wr.drew.cell? ⟨gr, orr + m * 2 + 1, none⟩ = _ := c1
     have p0 : wr.drew.cell? ⟨w.heap.size + 1, 0, none⟩ = _ := p0
     have p1 : wr.drew.cell? ⟨w.heap.size + 1, 1, none⟩ = _ := p1
     iterate 6 (refine SeqC.take (v := ?_) rfl (by rfl) (fun W hW => ?_) ?_; rotate_left; (focus (have zc0 := hW.get (by simp) c0; have zc1 := hW.get (by simp) c1; have zp0 := hW.get (by simp) p0; have zp1 := hW.get (by simp) p1; go_simp; with_reducible rfl)); simp only [Act.put, List.setIfInBounds_toArray, List.set_cons_zero, List.set_cons_succ])
     refine SeqC.done ?_
     go_wp2_with fail
     go_ret
     exact ⟨by rw [HRR.out]; rfl, (HB.out.trans (HBL.out.mono HB.out.size)).drew⟩
    ·have hmN := hNe (fun h => hdy h.2)
     have hb1 : ((d : Int) == y) = false := by simpa using hdy
     clear hNe
     subst hax
     refine dI [⟨gr, orr + m * 2, none⟩, ⟨gr, orr + m * 2 + 1, none⟩, ⟨w.heap.size + 1, 0, none⟩, ⟨w.heap.size + 1, 1, none⟩] [(0, true), (1, true), (2, true), (3, true), (4, true), (5, true)] (by kernel_rfl) (by kernel_rfl) (by decide) (by kernel_rfl) (fun _ _ _ _ _ h => h) ?_
     have c0 : wr.drew.cell? ⟨gr, orr + m * 2, none⟩ = _ := c0
     have c1 : wr.drew.cell? ⟨gr, orr + m * 2 + 1, none⟩ = _ := c1
     have p0 : wr.drew.cell? ⟨w.heap.size + 1, 0, none⟩ = _ := p0
     have p1 : wr.drew.cell? ⟨w.heap.size + 1, 1, none⟩ = _ := p1
     iterate 6 (refine SeqC.take (v := ?_) rfl (by rfl) (fun W hW => ?_) ?_; rotate_left; (focus (have zc0 := hW.get (by simp) c0; have zc1 := hW.get (by simp) c1; have zp0 := hW.get (by simp) p0; have zp1 := hW.get (by simp) p1; go_simp; with_reducible rfl)); simp only [Act.put, List.setIfInBounds_toArray, List.set_cons_zero, List.set_cons_succ])
     refine SeqC.done ?_
     go_wp2_with fail
     go_roundg (N - (m + 1))
     case measure => omega
     case rel => exact ⟨m + 1, by simp, by omega, rfl, HBL.out.drew⟩
   ·have hmN := hNe (fun h => hax h.1)
    have hb1 : ((a : Int) == x) = false := by simpa using hax
    clear hNe
    refine dI [⟨gr, orr + m * 2, none⟩, ⟨gr, orr + m * 2 + 1, none⟩, ⟨w.heap.size + 1, 0, none⟩, ⟨w.heap.size + 1, 1, none⟩] [(0, true), (1, true), (2, true), (3, true), (4, true), (5, true)] (by kernel_rfl) (by kernel_rfl) (by decide) (by kernel_rfl) (fun _ _ _ _ _ h => h) ?_
    have c0 : wr.drew.cell? ⟨gr, orr + m * 2, none⟩ = _ := c0
    have c1 : wr.drew.cell? ⟨gr, orr + m * 2 + 1, none⟩ = _ := c1
    have p0 : wr.drew.cell? ⟨w.heap.size + 1, 0, none⟩ = _ := p0
    have p1 : wr.drew.cell? ⟨w.heap.size + 1, 1, none⟩ = _ := p1
    iterate 6 (refine SeqC.take (v := ?_) rfl (by rfl) (fun W hW => ?_) ?_; rotate_left; (focus (have zc0 := hW.get (by simp) c0; have zc1 := hW.get (by simp) c1; have zp0 := hW.get (by simp) p0; have zp1 := hW.get (by simp) p1; go_simp; with_reducible rfl)); simp only [Act.put, List.setIfInBounds_toArray, List.set_cons_zero, List.set_cons_succ])
    refine SeqC.done ?_
    go_wp2_with fail
    go_roundg (N - (m + 1))
    case measure => omega
    case rel => exact ⟨m + 1, by simp, by omega, rfl, HBL.out.drew⟩
  ·have hmL : m = L.length := by omega
   have hr : r = -1 := by
    rcases HR.out with ⟨p, hp, _⟩ | ⟨_, h⟩
    ·have := (List.getElem?_eq_some_iff.1 hp).1
     omega
    ·exact h
   subst hmL hr
   go_wp2_with fail
   go_ret
   exact ⟨rfl, HB.out.trans (HBL.out.mono HB.out.size)⟩
end Go.Proofs.YtglmonlofejcgaaGreatDoor.txt
