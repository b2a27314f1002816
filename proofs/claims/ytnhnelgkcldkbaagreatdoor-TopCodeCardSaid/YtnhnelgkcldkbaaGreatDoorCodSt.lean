/- stmt.Sets, and that the call jump sets the same: the local of the place. -/
import Derived.Test.YtnhnelgkcldkbaaGreatDoorCodE
import Derived.Test.YtnhnelgkcldkbaaGreatDoorTargJ
namespace Go.Proofs.YtnhnelgkcldkbaaGreatDoor.enc
open Go.RowKit Go.Proofs.YtnhnelgkcldkbaaGreatDoor Go.Proofs.YtnhnelgkcldkbaaGreatDoor.Am Go.Proofs.YtnhnelgkcldkbaaGreatDoor.loan Go.Proofs.YtnhnelgkcldkbaaGreatDoor.bld
set_option linter.unusedVariables false
def whole (el : List Value) : Bool := decide (cellI el 2 = 0) && decide (cellI el 3 = 0)
/-- the local that a statement sets; -1: none -/
def setI (el : List Value) : Int := if cellI el 0 = 3 then cellI el 25 else if cellI el 0 = 1 ∧ whole el = true then cellI el 1 else -1
theorem part_c (W : World) (x : Int) (d : Bool) (y : Int) (hy0 : 0 ≤ y) : Calls Tryz.prog 78 #[.agg #[.int .i64 x, .bool d, .int .u8 y]] W (bld.Ans W (.bool (d || !decide (y = 0)))) := by
  cases d with
  | true =>
    go_enter Tryz.func78, Tryz.ntmps78
    go_wp2
    go_ret
    exact ⟨rfl, (Below.refl _ _).alloc (Nat.le_refl _) _⟩
  | false =>
    by_cases hy : y = 0
    · subst hy
      go_enter Tryz.func78, Tryz.ntmps78
      go_wp2
      go_ret
      exact ⟨rfl, (Below.refl _ _).alloc (Nat.le_refl _) _⟩
    · have hy' : 0 < y := by omega
      rw [decide_eq_false hy]
      go_enter Tryz.func78, Tryz.ntmps78
      go_wp2
      go_ret
      exact ⟨by simp, (Below.refl _ _).alloc (Nat.le_refl _) _⟩
set_option maxRecDepth 100000 in
set_option maxHeartbeats 4000000 in
theorem sets_c {W : World} {el : List Value} (h : All2 Kd.ok kS26 el) (hv : okStE.val el = true) : Calls Tryz.prog 33 #[.agg el.toArray] W (bld.Ans W (.tuple #[.int .i64 (setI el), .int .i64 0])) := by
  have hC : ∀ W1, Calls Tryz.prog 75 #[.agg el.toArray] W1 (bld.Ans W1 (.int .i64 0)) := fun W1 => by
    have := stA_tests el h W1 trivial
    rw [hv] at this
    exact this
  obtain ⟨u25, hu, hk25⟩ := All2.nth h (n := 25) (x := .i .i64) rfl
  obtain ⟨x25, rfl, _⟩ := hk25
  obtain ⟨x0, x1, x3, x4, x6, x17, x19, d2, d18, v5, v7, v8, v9, v10, v11, v12, v13, v14, v15, v16, v20, v21, v22, v23, v24, v25, hel, hone⟩ := stm_open h
  have hx3 : 0 ≤ x3 := by
    obtain ⟨u3, hu3, hk3⟩ := All2.nth h (n := 3) (x := .i .u8) rfl
    obtain ⟨y3, rfl, hy3, _⟩ := hk3
    rw [hel] at hu3
    have hu3 : some (Value.int .u8 x3) = some (Value.int .u8 y3) := hu3
    cases hu3
    exact hy3
  have h26 : el.length = 26 := h.len.symm
  have hs : setI el = if x0 = 3 then x25 else if x0 = 1 ∧ (decide (codeI (.bool d2) = 0) && decide (x3 = 0)) = true then x1 else -1 := by
    have e25 : cellI el 25 = x25 := by unfold cellI; rw [hu]; rfl
    unfold setI
    rw [e25, hel]
    rfl
  generalize setI el = R at hs ⊢
  have HC := Lib.hid hC
  have HP := Lib.hid part_c
  obtain ⟨wa, hwa⟩ : ∃ wa, wa = W.alloc (.cells el.toArray 63) := ⟨_, rfl⟩
  have b0 : Below W.heap.size W wa := by rw [hwa]; exact (Below.refl _ _).alloc (Nat.le_refl _) _
  have hlt : W.heap.size < wa.heap.size := by rw [hwa]; simp
  have hce : ∀ f u, el[f]? = some u → wa.cell? ⟨W.heap.size, f, none⟩ = some u := fun f u hu => by
    rw [hwa, cell_of_row _ W.heap.size f _ tSt (0, 0) (at_alloc rfl)]
    simpa using hu
  have hrg : wa.rangeAt W.heap.size 0 el := fun j u hj => by rw [Nat.zero_add]; exact hce j u hj
  have e0 := hce 0 (.int .u8 x0) (by rw [hel]; rfl)
  have e1 := hce 1 (.int .i64 x1) (by rw [hel]; rfl)
  have e2 := hce 2 (.bool d2) (by rw [hel]; rfl)
  have e3 := hce 3 (.int .u8 x3) (by rw [hel]; rfl)
  have e25 := hce 25 (.int .i64 x25) hu
  have HR := Lib.hid hrg
  clear hC hce hrg hel hone hu h hv
  have fin : ∀ (r : Int) (w' : World), Below wa.heap.size wa w' → R = r → bld.Ans W (.tuple #[.int .i64 R, .int .i64 0]) (.returned (.tuple #[.int .i64 r, .int .i64 0])) w' := fun r w' hb hr => ⟨by rw [hr], b0.trans (hb.mono b0.size)⟩
  have HRS := Lib.hid hs
  clear hs
  have HFIN := Lib.hid fin
  clear fin
  go_enter Tryz.func33, Tryz.ntmps33
  go_upto_region 1 with fail
  rw [← hwa]
  clear hwa
  go_upto_region 2 with (first | (refine wpList_load_mid rfl 63 _ rfl W.heap.size 0 rfl el _ HR.out Tryz.underlying63 rfl (by rw [h26]; exact stR) ?_) | (go_at_call 75; refine (HC.out _).mono ?_; rintro e w1 ⟨rfl, b1⟩))
  have f0 := (b1.cell (p := ⟨W.heap.size, 0, none⟩) hlt).trans e0
  have f1 := (b1.cell (p := ⟨W.heap.size, 1, none⟩) hlt).trans e1
  have f2 := (b1.cell (p := ⟨W.heap.size, 2, none⟩) hlt).trans e2
  have f3 := (b1.cell (p := ⟨W.heap.size, 3, none⟩) hlt).trans e3
  have f25 := (b1.cell (p := ⟨W.heap.size, 25, none⟩) hlt).trans e25
  have hlt1 : W.heap.size < w1.heap.size := Nat.lt_of_lt_of_le hlt b1.size
  have HB1 := Lib.hid b1
  clear e0 e1 e2 e3 e25 b1 hlt
  by_cases h3 : x0 = 3
  · subst h3
    go_wp2
    go_ret2
    exact HFIN.out _ _ HB1.out (by rw [HRS.out]; rfl)
  · have n3 : (x0 == 3) = false := by simpa using h3
    by_cases h1 : x0 = 1
    · subst h1
      cases d2 with
      | true =>
        go_wp2_with (go_at_call 78; refine (HP.out _ _ _ _ (by first | exact hx3 | exact Int.le_refl _)).mono ?_; rintro e w2 ⟨rfl, b2⟩)
        go_ret2
        exact HFIN.out _ _ (HB1.out.trans (b2.mono HB1.out.size)) (by rw [HRS.out]; rfl)
      | false =>
        by_cases hz : x3 = 0
        · subst hz
          go_wp2_with (go_at_call 78; refine (HP.out _ _ _ _ (by first | exact hx3 | exact Int.le_refl _)).mono ?_; rintro e w2 ⟨rfl, b2⟩; have g1 := (b2.cell (p := ⟨W.heap.size, 1, none⟩) hlt1).trans f1)
          go_ret2
          exact HFIN.out _ _ (HB1.out.trans (b2.mono HB1.out.size)) (by rw [HRS.out]; rfl)
        · have nz : decide (x3 = 0) = false := decide_eq_false hz
          have nz2 : (x3 == 0) = false := by simpa using hz
          have nz3 : ¬ x3 = 0 := hz
          go_wp2_with (go_at_call 78; refine (HP.out _ _ _ _ (by first | exact hx3 | exact Int.le_refl _)).mono ?_; rintro e w2 ⟨rfl, b2⟩)
          go_ret2
          exact HFIN.out _ _ (HB1.out.trans (b2.mono HB1.out.size)) (by rw [HRS.out, if_neg (by decide), if_neg (by rw [nz]; simp)])
    · have n1 : (x0 == 1) = false := by simpa using h1
      go_wp2
      go_ret2
      exact HFIN.out _ _ HB1.out (by rw [HRS.out, if_neg h3, if_neg (fun q => h1 q.1)])
theorem sets_eq (q : PlV) (hq : q.ok) (r : RvV) : setI (StV.asg q r).c = setJ pre4 q.c := by
  have h1 : setI (StV.asg q r).c = if whole (StV.asg q r).c = true then q.l else -1 := by
    have a : ¬ cellI (StV.asg q r).c 0 = 3 := show ¬ (1 : Int) = 3 by decide
    unfold setI
    rw [if_neg a]
    by_cases hw : whole (StV.asg q r).c = true
    · rw [if_pos ⟨rfl, hw⟩, if_pos hw]; rfl
    · rw [if_neg (fun e => hw e.2), if_neg hw]
  have h2 : whole (StV.asg q r).c = true ↔ ¬ partJ q.c := by
    rw [part_q]
    obtain ⟨l, d, f⟩ := q
    have hf := hq.f0
    have e : whole (StV.asg ⟨l, d, f⟩ r).c = (!d && decide (f = 0)) := by cases d <;> rfl
    rw [e]
    cases d <;> simp
    simp only at hf
    omega
  rw [h1]
  unfold setJ
  by_cases hw : whole (StV.asg q r).c = true
  · rw [if_pos hw, if_pos ⟨rfl, h2.1 hw⟩]; rfl
  · rw [if_neg hw, if_neg (fun e => hw (h2.2 e.2))]
end Go.Proofs.YtnhnelgkcldkbaaGreatDoor.enc
