/- pawnshopref15.Great and the law's own fit. -/
import Derived.Test.YthdcahkedlijpaaGreatLoanD
import Derived.Test.YthdcahkedlijpaaGreatGreat14
namespace Go.Proofs.YthdcahkedlijpaaGreat.loan
open Go.RowKit Go.Proofs.YthdcahkedlijpaaGreat Go.Proofs.YthdcahkedlijpaaGreat.Am
set_option linter.unusedVariables false
def nW (bs : List BlkD) : Nat → Int
  | 0 => 0
  | i + 1 => wrap64 (nW bs i + wrap64 ((lenB bs i : Int) + 1))
def great15 (D : FnD) : Bool := decide (120 < nW D.bs (min D.bs.length 31)) || (decide (30 < D.ls.length) || decide (30 < D.bs.length))
set_option maxRecDepth 100000 in
set_option maxHeartbeats 4000000 in
theorem great15_c {w : World} {v : Value} {D : FnD} (h : FnOk' w v D) : Calls Tryz.prog 9 #[v] w (Ans1 w (.bool (great15 D))) := by
  have HF := Lib.hid h
  obtain ⟨A, c, e, hm, hr⟩ := FnOk'.blks h
  obtain ⟨Al, cl, el, hml, _⟩ := ListAt.rows h.locals (by decide)
  rw [h.eq, e, el]
  have HR := Lib.hid hr
  clear h hr e el
  obtain ⟨w1, hw1⟩ : ∃ w1, w1 = w.alloc (.cells #[.int .i64 D.p, .bool D.u, .slice Al D.ls.length cl, .slice A D.bs.length c] tF) := ⟨_, rfl⟩
  have B0 : Box w1 w.heap.size tF (.int .i64 D.p) (.bool D.u) (.slice Al D.ls.length cl) (.slice A D.bs.length c) := by rw [hw1]; exact Box.mk rfl
  have b0 : Below w.heap.size w w1 := by rw [hw1]; exact (Below.refl _ _).alloc (Nat.le_refl _) _
  obtain ⟨t0, t1, t2, t3⟩ := B0.cells
  go_enter Tryz.func9, Tryz.ntmps9
  go_wp2
  rw [← hw1]
  clear hw1
  go_loopg [3, 4] 31 (fun g s3 s4 wr => ∃ i : Nat, s4 = .int .i64 i ∧ i ≤ D.bs.length ∧ i ≤ 31 ∧ g = 31 - i ∧ s3 = .int .i64 (nW D.bs i) ∧ wr = w1)
  case atStart => exact ⟨0, rfl, Nat.zero_le _, Nat.zero_le _, rfl, rfl, rfl⟩
  case round =>
    obtain ⟨i, rfl, hi, hi31, rfl, rfl, rfl⟩ := hrel
    have h0I : (0 : Int) ≤ (i : Int) := Int.natCast_nonneg _
    by_cases hc : i < D.bs.length ∧ i ≤ 30
    · obtain ⟨hlt, h30⟩ := hc
      have hltI : (i : Int) < (D.bs.length : Int) := by omega
      have h30I : (i : Int) ≤ 30 := by omega
      obtain ⟨b, hb⟩ : ∃ b, D.bs[i]? = some b := ⟨_, List.getElem?_eq_getElem hlt⟩
      obtain ⟨As, cs, es, hms, _⟩ := BlkOk.stms (HF.out.blk b (List.mem_of_getElem? hb))
      obtain ⟨gb, ob, eA, hgb, hcb⟩ := RowsAt.get HR.out b0 (i := i) (el := b.cells) (by rw [List.getElem?_map, hb]; rfl)
      subst eA
      have cg := hcb 0 b.s rfl
      rw [es] at cg
      simp only [Nat.add_zero] at cg
      have hnx : nW D.bs (i + 1) = wrap64 (nW D.bs i + wrap64 ((b.st.length : Int) + 1)) := by show wrap64 (nW D.bs i + wrap64 ((lenB D.bs i : Int) + 1)) = _; rw [lenB_of hb]
      have HX := Lib.hid hnx
      clear hcb hb es hnx
      go_wp2
      go_roundg (31 - (i + 1))
      case measure => omega
      case rel => exact ⟨i + 1, by simp, by omega, by omega, rfl, by rw [HX.out], rfl⟩
    · have hmin : min D.bs.length 31 = i := by omega
      have hv : great15 D = (decide (120 < nW D.bs i) || (decide (30 < D.ls.length) || decide (30 < D.bs.length))) := by unfold great15; rw [hmin]
      have HV := Lib.hid hv
      clear hmin hv
      have fin : ∀ b : Bool, great15 D = b → ∀ e w', (e = .returned (.bool b) ∧ Below w.heap.size w w') → Ans1 w (.bool (great15 D)) e w' := fun b hb e w' h => by rw [hb]; exact h
      have HFIN := Lib.hid fin
      clear fin
      have hex : ((D.bs.length : Int) ≤ (i : Int)) ∨ ((i : Int) < (D.bs.length : Int) ∧ (30 : Int) < (i : Int)) := by omega
      rcases hex with hex | ⟨hex, hex2⟩
      · by_cases h1 : 120 < nW D.bs i
        · have h1I : (120 : Int) < nW D.bs i := h1
          have HE := Lib.hid (show great15 D = true by rw [HV.out, decide_eq_true h1]; rfl)
          go_wp2
          go_ret
          exact HFIN.out true HE.out _ _ ⟨rfl, b0⟩
        · have h1I : nW D.bs i ≤ 120 := by omega
          by_cases h2 : 30 < D.bs.length
          · have h2I : (30 : Int) < (D.bs.length : Int) := by omega
            have HE := Lib.hid (show great15 D = true by rw [HV.out, decide_eq_true h2, decide_eq_false h1]; simp)
            go_wp2
            go_ret
            exact HFIN.out true HE.out _ _ ⟨rfl, b0⟩
          · have h2I : (D.bs.length : Int) ≤ 30 := by omega
            by_cases h3 : 30 < D.ls.length
            · have h3I : (30 : Int) < (D.ls.length : Int) := by omega
              have HE := Lib.hid (show great15 D = true by rw [HV.out, decide_eq_true h3, decide_eq_false h1]; rfl)
              go_wp2
              go_ret
              exact HFIN.out true HE.out _ _ ⟨rfl, b0⟩
            · have h3I : (D.ls.length : Int) ≤ 30 := by omega
              have h2d : decide ((30 : Int) < (D.bs.length : Int)) = false := decide_eq_false (by omega)
              have h3d : decide ((30 : Int) < (D.ls.length : Int)) = false := decide_eq_false (by omega)
              have HE := Lib.hid (show great15 D = false by rw [HV.out, decide_eq_false h3, decide_eq_false h1, decide_eq_false h2]; rfl)
              go_wp2
              go_ret
              exact HFIN.out false HE.out _ _ ⟨rfl, b0⟩
      · by_cases h1 : 120 < nW D.bs i
        · have h1I : (120 : Int) < nW D.bs i := h1
          have HE := Lib.hid (show great15 D = true by rw [HV.out, decide_eq_true h1]; rfl)
          go_wp2
          go_ret
          exact HFIN.out true HE.out _ _ ⟨rfl, b0⟩
        · have h1I : nW D.bs i ≤ 120 := by omega
          have h2 : 30 < D.bs.length := by omega
          have h2I : (30 : Int) < (D.bs.length : Int) := by omega
          have HE := Lib.hid (show great15 D = true by rw [HV.out, decide_eq_true h2, decide_eq_false h1]; simp)
          go_wp2
          go_ret
          exact HFIN.out true HE.out _ _ ⟨rfl, b0⟩
theorem chk_is {w : World} {v : Value} {D : FnD} (h : FnOk' w v D) : ChkIs w v (check.chkF D) := fun w1 hb => check.check_ans (h.frz hb.block)
theorem small_of {D : FnD} (h : check.chkF D = 0) : Small D := by
  obtain ⟨_, h2, h3⟩ := check.small_of (size.of_chk h).1
  exact ⟨h2, h3⟩
def fitF (D : FnD) : Bool := !great15 D && (!great.greatF D && decide (check.chkF D = 0))
theorem fit_chk {D : FnD} (h : fitF D = true) : check.chkF D = 0 := by
  unfold fitF at h
  simp only [Bool.and_eq_true, decide_eq_true_eq] at h
  exact h.2.2
set_option maxRecDepth 100000 in
set_option maxHeartbeats 4000000 in
theorem fit_c {w : World} {v : Value} {D : FnD} (h : FnOk' w v D) : Calls Tryz.prog 23 #[v] w (Ans1 w (.bool (fitF D))) := by
  have hG : ∀ w1, Below w.heap.size w w1 → Calls Tryz.prog 9 #[v] w1 (Ans1 w1 (.bool (great15 D))) := fun w1 hb => great15_c (h.frz hb.block)
  have hH : ∀ w1, Below w.heap.size w w1 → Calls Tryz.prog 10 #[v] w1 (Ans1 w1 (.bool (great.greatF D))) := fun w1 hb => great14.great_ans (h.frz hb.block)
  have hC : ∀ w1, Below w.heap.size w w1 → Calls Tryz.prog 21 #[v] w1 (Ans1 w1 (.int .i64 (check.chkF D))) := fun w1 hb => refC.check_same (h.frz hb.block)
  unfold fitF
  rw [h.eq] at hG hH hC ⊢
  clear h
  generalize great15 D = a at *
  generalize great.greatF D = b at *
  generalize check.chkF D = x at *
  have HG := Lib.hid hG
  have HH := Lib.hid hH
  have HC := Lib.hid hC
  clear hG hH hC
  have B0 : Box (w.alloc (.cells #[.int .i64 D.p, .bool D.u, D.lv, D.bv] tF)) w.heap.size tF (.int .i64 D.p) (.bool D.u) D.lv D.bv := Box.mk rfl
  have b0 : Below w.heap.size w (w.alloc (.cells #[.int .i64 D.p, .bool D.u, D.lv, D.bv] tF)) := (Below.refl _ _).alloc (Nat.le_refl _) _
  cases a
  · cases b
    · by_cases hx : x = 0
      · subst hx
        go_enter Tryz.func23, Tryz.ntmps23
        go_wp2_with (first | (go_at_call 9; refine (HG.out _ b0).mono ?_; rintro e w1 ⟨rfl, b1⟩; obtain ⟨y0, y1, y2, y3⟩ := (B0.below b1).cells) | (go_at_call 10; refine (HH.out _ (b0.trans (b1.mono b0.size))).mono ?_; rintro e w2 ⟨rfl, b2⟩; obtain ⟨z0, z1, z2, z3⟩ := ((B0.below b1).below b2).cells) | (go_at_call 21; refine (HC.out _ ((b0.trans (b1.mono b0.size)).trans (b2.mono (b0.trans (b1.mono b0.size)).size))).mono ?_; rintro e w3 ⟨rfl, b3⟩))
        go_ret
        have b02 := (b0.trans (b1.mono b0.size)).trans (b2.mono (b0.trans (b1.mono b0.size)).size)
        exact ⟨rfl, b02.trans (b3.mono b02.size)⟩
      · have hx' : (x == 0) = false := by simpa using hx
        have hd : decide (x = 0) = false := decide_eq_false hx
        rw [hd]
        clear hd
        go_enter Tryz.func23, Tryz.ntmps23
        go_wp2_with (first | (go_at_call 9; refine (HG.out _ b0).mono ?_; rintro e w1 ⟨rfl, b1⟩; obtain ⟨y0, y1, y2, y3⟩ := (B0.below b1).cells) | (go_at_call 10; refine (HH.out _ (b0.trans (b1.mono b0.size))).mono ?_; rintro e w2 ⟨rfl, b2⟩; obtain ⟨z0, z1, z2, z3⟩ := ((B0.below b1).below b2).cells) | (go_at_call 21; refine (HC.out _ ((b0.trans (b1.mono b0.size)).trans (b2.mono (b0.trans (b1.mono b0.size)).size))).mono ?_; rintro e w3 ⟨rfl, b3⟩))
        go_ret
        have b02 := (b0.trans (b1.mono b0.size)).trans (b2.mono (b0.trans (b1.mono b0.size)).size)
        exact ⟨rfl, b02.trans (b3.mono b02.size)⟩
    · go_enter Tryz.func23, Tryz.ntmps23
      go_wp2_with (first | (go_at_call 9; refine (HG.out _ b0).mono ?_; rintro e w1 ⟨rfl, b1⟩; obtain ⟨y0, y1, y2, y3⟩ := (B0.below b1).cells) | (go_at_call 10; refine (HH.out _ (b0.trans (b1.mono b0.size))).mono ?_; rintro e w2 ⟨rfl, b2⟩))
      go_ret
      have b01 := b0.trans (b1.mono b0.size)
      exact ⟨rfl, b01.trans (b2.mono b01.size)⟩
  · go_enter Tryz.func23, Tryz.ntmps23
    go_wp2_with (go_at_call 9; refine (HG.out _ b0).mono ?_; rintro e w1 ⟨rfl, b1⟩)
    go_ret
    exact ⟨rfl, b0.trans (b1.mono b0.size)⟩
end Go.Proofs.YthdcahkedlijpaaGreat.loan
