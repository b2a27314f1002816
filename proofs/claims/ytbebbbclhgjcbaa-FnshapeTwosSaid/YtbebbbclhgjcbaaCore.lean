/- What fnshape.Calls answers. What a function's checks answer hangs on its core: its data without where its lists lie; and what a change of the core does to the answers. (Plain.) -/
import Derived.Test.YtbebbbclhgjcbaaFn28
namespace Go.Proofs.Ytbebbbclhgjcbaa.callsF
open Go.RowKit Go.Proofs.Ytbebbbclhgjcbaa.Am
set_option maxRecDepth 100000
set_option linter.unusedVariables false
set_option linter.unusedSectionVars false
theorem jm_g : (jmRun ((Lf.of (ivU 16)).lo 6 8) && jmRun ((Lf.of (ivU 16)).hi 6 (-1))) = true := by kernel_rfl
theorem jm_func {w : World} {v : Value} {pre : List Value} {sv : Value} {post : List Value} {els : List (List Value)} (hj : JumpIs w v pre sv post els) (h : okJ pre els post = true) : 0 ≤ cellI pre 6 ∧ cellI pre 6 ≤ 7 := by
  have hl := len_flat hj
  have lp := len_pre hj
  let us : List Value := flatJ pre els post ++ (bitsJ pre els post).map (Value.int .i64)
  have hk : All2 Kd.ok (kJ ++ [.i .i64, .i .i64, .i .i64]) us := (ok_flat hj).app ⟨⟨_, rfl, by have := b2i_le (els.all fun el => (okOpE 0).val el); show (-9223372036854775808 : Int) ≤ _; omega, by have := b2i_le (els.all fun el => (okOpE 0).val el); show _ ≤ (9223372036854775807 : Int); omega⟩, ⟨_, rfl, by have := b2i_le ((okOpE 1).val (flatJ pre els post)); show (-9223372036854775808 : Int) ≤ _; omega, by have := b2i_le ((okOpE 1).val (flatJ pre els post)); show _ ≤ (9223372036854775807 : Int); omega⟩, ⟨_, rfl, by have := b2i_le ((okPlE 10).val (flatJ pre els post)); show (-9223372036854775808 : Int) ≤ _; omega, by have := b2i_le ((okPlE 10).val (flatJ pre els post)); show _ ≤ (9223372036854775807 : Int); omega⟩, trivial⟩
  have h0 : (Lf.of (ivU 16)).Holds (cellI us) (fun _ => []) := ivU_ok hk rfl
  have ea : ∀ i, i < 13 → cellI us i = cellI (flatJ pre els post) i := fun i hi => cellI_lt (by omega)
  have ep : ∀ i, i < 9 → cellI us i = cellI pre i := fun i hi => (ea i (by omega)).trans (by unfold flatJ; exact cellI_lt (by omega))
  have eb : ∀ j m, (bitsJ pre els post)[j]? = some m → cellI us (13 + j) = m := fun j m hm => by
    show cellI (flatJ pre els post ++ _) _ = _
    rw [cellI_ge hl]
    unfold cellI
    rw [List.getElem?_map, hm]
    rfl
  have e14 : cellI us 14 = b2i ((okOpE 1).val (flatJ pre els post)) := eb 1 _ rfl
  have e15 : cellI us 15 = b2i ((okPlE 10).val (flatJ pre els post)) := eb 2 _ rfl
  have idr : ∀ e : E, e.ren (fun i => i) = e := fun e => by
    induction e with
    | lt i c => rfl
    | zero l => simp [E.ren]
    | and a b ha hb => rw [E.ren, ha, hb]
    | or a b ha hb => rw [E.ren, ha, hb]
    | not a ha => rw [E.ren, ha]
  have sm : ∀ e : E, e.bd 13 = true → e.num (cellI us) = e.val (flatJ pre els post) := fun e he => by
    rw [E.val_num]
    have := E.num_ren (f := fun i => i) he ea
    rwa [idr] at this
  have sp : ∀ e : E, e.bd 9 = true → e.num (cellI us) = e.num (cellI pre) := fun e he => by
    have := E.num_ren (f := fun i => i) he ep
    rwa [idr] at this
  have one : ∀ i c, (isE i c).num (cellI us) = decide (cellI us i = c) := fun i c => by show (decide _ && true) = _; rw [Bool.and_true]
  have hg : ∀ p ∈ jmG, p.1.num (cellI us) = p.2 := fun p hp => by
    simp only [jmG, List.mem_cons, List.not_mem_nil, or_false] at hp
    rcases hp with rfl | rfl | rfl
    · unfold okJ at h
      rw [E.val_num] at h
      exact h
    · refine iffE_num ?_
      rw [one, e14, made.dec_b2i, sm _ rfl]
    · refine iffE_num ?_
      rw [one, e15, made.dec_b2i, sm _ rfl]
  have c6 := ep 6 (by decide)
  have r := jm_g
  rw [Bool.and_eq_true] at r
  constructor
  · apply Decidable.byContradiction; intro hc; exact cannot r.2 (h0.hi (i := 6) (c := -1) (by omega)) hg
  · apply Decidable.byContradiction; intro hc; exact cannot r.1 (h0.lo (i := 6) (c := 8) (by omega)) hg
/-! what it comes to -/
def callB (b : BlkD) (j : Nat) : Bool := decide (cellI b.pre 0 = 4) && decide (cellI b.pre 6 = (j : Int))
def calledK (D : FnD) (i j : Nat) : Bool := (D.bs.take i).any fun b => callB b j
def called (D : FnD) (j : Nat) : Bool := D.bs.any fun b => callB b j
def mk (D : FnD) (i : Nat) : List Int := rows16 [fun j => b2i (calledK D i j)] ++ []
def mF (D : FnD) : List Int := rows16 [fun j => b2i (called D j)] ++ []
section
variable {w : World} {v : Value} {D : FnD} (h : FnOk' w v D)
include h
theorem loop (hs : twos.Sm D) (hok : ∀ b ∈ D.bs, made.okB b = true) (K : Know) (ok : KnowOk K (fnB w D (atB 0) (mF D)).rho (fnB w D (atB 0) (mF D)).sig) : @LoopOk ((fnB w D (atB 0) (mF D)).withK K ok) Try.prog (row K) codeB := by
  have hn := hs.b
  have okb : ∀ i, i < D.bs.length → okJF (D.blk i) = true := fun i hi => by
    have := hok _ (twos.blk_mem hi)
    unfold made.okB at this
    rw [Bool.and_eq_true] at this
    exact this.2
  have r0 : ∀ i j, j < 16 → (fnB w D (atB i) (mk D i)).rho (nm 0 j) = b2i (calledK D i j) := fun i j hj => fn_row (D := D) (q := atB i) (fs := [fun j => b2i (calledK D i j)]) (tail := []) (b := 0) (f := fun j => b2i (calledK D i j)) rfl hj
  have rF : ∀ j, j < 16 → (fnB w D (atB 0) (mF D)).rho (nm 0 j) = b2i (called D j) := fun j hj => fn_row (D := D) (q := atB 0) (fs := [fun j => b2i (called D j)]) (tail := []) (b := 0) (f := fun j => b2i (called D j)) rfl hj
  refine @roundsU_ok _ _ (fun i => fnB w D (atB i) (mk D i)) codeB _ _ hd _ _ (fun e => by cases e) D.bs.length (agree_fn _ _ _ _) (fun u hu => ?_) (fun i hi => ?_) ?_ 7 K ok
  · rcases List.mem_cons.1 hu with rfl | hu
    · exact isU_ok fun r v hv => hv
    exact falseU16_ok (fun j hj => r0 0 j hj) u hu
  · have fu := jm_func (jump_is h hi) (okb i hi)
    refine turn_fn step (rig_plain (@tabs_app (fnB w D (atB i) (mk D i)) tabF tabB (tabF_ok h _ _) (tabB_ok h (q := atB i) hi _))) (agree_fn _ _ _ _) (L := L1) ?_ (fnFx_ok D _ _) (fun p hp => by cases hp) (fun u hu => ?_) rfl (no_loopN f codeB)
    · have hb := (twos.start0 h (atB i) (fits_B (by omega)) (mk D i)).pin (i := 6) (c := 1) (show b2i (decide ((i : Int) < D.bs.length)) = 1 from (one_iff _).2 (by omega))
      exact (hb.lo (i := 14) (c := 0) (show 0 ≤ cellI (D.blk i).pre 6 from fu.1)).hi (i := 14) (c := 7) (show cellI (D.blk i).pre 6 ≤ 7 from fu.2)
    · rcases List.mem_cons.1 hu with rfl | hu
      · exact isU_ok fun r v hv => hv
      refine bitU16_ok (fun j hj => ?_) u hu
      have e8 : (fnB w D (atB i) (mk D i)).rho 8 = cellI (D.blk i).pre 0 := rfl
      have e14 : (fnB w D (atB i) (mk D i)).rho 14 = cellI (D.blk i).pre 6 := rfl
      have eN : (isE 8 4).num (fnB w D (atB i) (mk D i)).rho = decide (cellI (D.blk i).pre 0 = 4) := by
        show (decide (_ = (4 : Int)) && true) = _
        rw [e8, Bool.and_true]
      rw [eN, e14, r0 (i + 1) j hj, r0 i j hj]
      unfold calledK
      rw [twos.any_take _ b0 _ hi, made.b2i_one, made.b2i_one, Bool.or_eq_true]
      show (_ ∨ (decide (cellI (D.blk i).pre 0 = 4) && decide (cellI (D.blk i).pre 6 = (j : Int))) = true) ↔ _
      rw [Bool.and_eq_true, decide_eq_true_iff, decide_eq_true_iff]
      exact Or.comm
  · refine turn_fn stop (rig_plain (tabF_ok h _ _)) (agree_fn _ _ _ _) (L := L0) ((twos.start0 h (atB D.bs.length) (fits_B (by omega)) _).pin (i := 6) (c := 0) (show b2i (decide ((D.bs.length : Int) < D.bs.length)) = 0 by rw [decide_eq_false (by omega)]; rfl)) (fnFx_ok D _ _) (fun p hp => by cases hp) (fun u hu => ?_) rfl (no_loopN f codeB)
    refine sameB16_ok (fun j hj => (r0 _ j hj).trans (Eq.trans ?_ (rF j hj).symm)) u hu
    unfold calledK called
    rw [List.take_length]
theorem start_T : LT.Holds (xsAt (fnXs D (atB 0) (mF D))) (fun _ => []) := by
  have : All2 InI (List.replicate 16 ivB) (mF D) := all2_cat (a := List.replicate 16 ivB) (c := []) (all2_cat (a := List.replicate 16 ivB) (c := []) (twos.in_row16 fun j => in_b _) trivial) trivial
  have := fn_start h (q := atB 0) (fits_B (by omega)) this (m2 := []) (fun _ => [])
  rwa [List.append_nil] at this
end
end Go.Proofs.Ytbebbbclhgjcbaa.callsF
namespace Go.Proofs.Ytbebbbclhgjcbaa.Am
open Go.RowKit
set_option linter.unusedVariables false
set_option linter.unusedSectionVars false
set_option maxRecDepth 100000
def nilV : Value := .slice none 0 0
def BlkD.core (b : BlkD) : BlkD := ⟨nilV, b.pre, nilV, b.post, b.st, b.ops⟩
def FnD.core (D : FnD) : FnD := ⟨D.p, D.u, nilV, nilV, D.ls, D.bs.map BlkD.core, ⟨nilV, []⟩⟩
section
variable (D : FnD)
theorem many_core : many.manyF D.core = many.manyF D := by
  unfold many.manyF FnD.core
  rw [List.length_map, List.all_map]
  rfl
theorem made_core : made.madeF D.core = made.madeF D := by
  unfold made.madeF
  have h1 : head.headF D.core = head.headF D := rfl
  have h2 : D.core.bs.length = D.bs.length := by unfold FnD.core; rw [List.length_map]
  have h3 : D.core.ls = D.ls := rfl
  have h4 : ∀ p : BlkD → Bool, D.core.bs.all p = D.bs.all fun b => p b.core := fun p => by unfold FnD.core; rw [List.all_map]; rfl
  rw [h1, h2, h3, h4, h4]
  rfl
theorem ct_core : twos.Ct.fn D.core = twos.Ct.fn D := by
  unfold twos.Ct.fn FnD.core
  rw [List.foldl_map]
  rfl
theorem twos_core : twos.twosF D.core = twos.twosF D := by
  unfold twos.twosF
  congr 1
  funext t
  unfold twos.goodB
  rw [ct_core]
  rfl
theorem chk_core : check.chkF D.core = check.chkF D := by
  unfold check.chkF
  rw [many_core, made_core, twos_core]
end
/-! one element changed -/
section
variable {α : Type} {p : α → Bool} {f : α → α} {l : List α} {b : Nat}
end
/-- a block that is changed -/
def FnD.setB (C : FnD) (b : Nat) (f : BlkD → BlkD) : FnD := { C with bs := C.bs.modify b f }
def FnD.setT (C : FnD) (t : Nat) (f : List Value → List Value) : FnD := { C with ls := C.ls.modify t f }
def BlkD.push (x : List Value) (b : BlkD) : BlkD := { b with st := b.st ++ [x] }
section
variable {C : FnD} {b : Nat} {f : BlkD → BlkD}
theorem many_not (h : many.manyF C = false) : C.ls.length ≤ 16 ∧ C.bs.length ≤ 24 ∧ (C.bs.all fun b => decide (b.st.length ≤ 24)) = true := by
  unfold many.manyF at h
  simp only [Bool.or_eq_false_iff, decide_eq_false_iff_not, Bool.not_eq_false'] at h
  exact ⟨by omega, by omega, h.2.2⟩
theorem many_mk (h1 : C.ls.length ≤ 16) (h2 : C.bs.length ≤ 24) (h3 : (C.bs.all fun b => decide (b.st.length ≤ 24)) = true) : many.manyF C = false := by
  unfold many.manyF
  rw [decide_eq_false (by omega), decide_eq_false (by omega), h3]
  rfl
theorem chk_0 (h : many.manyF C = false) (h2 : made.madeF C = true) (h3 : twos.twosF C = true) : check.chkF C = 0 := by
  unfold check.chkF
  rw [h, h2, h3]
  rfl
end
/-! a statement that prints a number -/
def u8 (n : Int) : Value := .int .u8 n
def bo (b : Bool) : Value := .bool b
section
variable {C : FnD} {b : Nat} (n : Int)
end
/-! each reason alone -/
end Go.Proofs.Ytbebbbclhgjcbaa.Am
