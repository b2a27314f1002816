/- What fnshape.Calls answers. -/
import Derived.Test.YtbebbbclhgjcbaaFn28
namespace Go.Proofs.Ytbebbbclhgjcbaa.callsF
open Go.RowKit Go.Proofs.Ytbebbbclhgjcbaa.Am
set_option maxRecDepth 100000
set_option linter.unusedVariables false
set_option linter.unusedSectionVars false
theorem jm_g : (jmRun ((Lf.of (ivU 16)).lo 6 8) && jmRun ((Lf.of (ivU 16)).hi 6 (-1))) = true := by kernel_rfl
theorem jm_func {w : World} {v : Value} {pre : List Value} {sv : Value} {post : List Value} {els : List (List Value)} (hj : JumpIs w v pre sv post els) (h : okJ pre els post = true) : 0 ≤ cellI pre 6 ∧ cellI pre 6 ≤ 7 := by
  have hl := len_flat hj
  have lp := len_pre hj
  let us : List Value := flatJ pre els post ++ (bitsJ pre els post).map (Value.int .i64)
  have hk : All2 Kd.ok (kJ ++ [.i .i64, .i .i64, .i .i64]) us := (ok_flat hj).app ⟨⟨_, rfl, by have := b2i_le (els.all fun el => (okOpE 0).val el); show (-9223372036854775808 : Int) ≤ _; omega, by have := b2i_le (els.all fun el => (okOpE 0).val el); show _ ≤ (9223372036854775807 : Int); omega⟩, ⟨_, rfl, by have := b2i_le ((okOpE 1).val (flatJ pre els post)); show (-9223372036854775808 : Int) ≤ _; omega, by have := b2i_le ((okOpE 1).val (flatJ pre els post)); show _ ≤ (9223372036854775807 : Int); omega⟩, ⟨_, rfl, by have := b2i_le ((okPlE 10).val (flatJ pre els post)); show (-9223372036854775808 : Int) ≤ _; omega, by have := b2i_le ((okPlE 10).val (flatJ pre els post)); show _ ≤ (9223372036854775807 : Int); omega⟩, trivial⟩
  have h0 : (Lf.of (ivU 16)).Holds (cellI us) (fun _ => []) := ivU_ok hk rfl
  have ea : ∀ i, i < 13 → cellI us i = cellI (flatJ pre els post) i := fun i hi => cellI_lt (by omega)
  have ep : ∀ i, i < 9 → cellI us i = cellI pre i := fun i hi => (ea i (by omega)).trans (by unfold flatJ; exact cellI_lt (by omega))
  have eb : ∀ j m, (bitsJ pre els post)[j]? = some m → cellI us (13 + j) = m := fun j m hm => by
    show cellI (flatJ pre els post ++ _) _ = _
    rw [cellI_ge hl]
    unfold cellI
    rw [List.getElem?_map, hm]
    rfl
  have e14 : cellI us 14 = b2i ((okOpE 1).val (flatJ pre els post)) := eb 1 _ rfl
  have e15 : cellI us 15 = b2i ((okPlE 10).val (flatJ pre els post)) := eb 2 _ rfl
  have idr : ∀ e : E, e.ren (fun i => i) = e := fun e => by
    induction e with
    | lt i c => rfl
    | zero l => simp [E.ren]
    | and a b ha hb => rw [E.ren, ha, hb]
    | or a b ha hb => rw [E.ren, ha, hb]
    | not a ha => rw [E.ren, ha]
  have sm : ∀ e : E, e.bd 13 = true → e.num (cellI us) = e.val (flatJ pre els post) := fun e he => by
    rw [E.val_num]
    have := E.num_ren (f := fun i => i) he ea
    rwa [idr] at this
  have sp : ∀ e : E, e.bd 9 = true → e.num (cellI us) = e.num (cellI pre) := fun e he => by
    have := E.num_ren (f := fun i => i) he ep
    rwa [idr] at this
  have one : ∀ i c, (isE i c).num (cellI us) = decide (cellI us i = c) := fun i c => by show (decide _ && true) = _; rw [Bool.and_true]
  have hg : ∀ p ∈ jmG, p.1.num (cellI us) = p.2 := fun p hp => by
    simp only [jmG, List.mem_cons, List.not_mem_nil, or_false] at hp
    rcases hp with rfl | rfl | rfl
    · unfold okJ at h
      rw [E.val_num] at h
      exact h
    · refine iffE_num ?_
      rw [one, e14, made.dec_b2i, sm _ rfl]
    · refine iffE_num ?_
      rw [one, e15, made.dec_b2i, sm _ rfl]
  have c6 := ep 6 (by decide)
  have r := jm_g
  rw [Bool.and_eq_true] at r
  constructor
  · apply Decidable.byContradiction; intro hc; exact cannot r.2 (h0.hi (i := 6) (c := -1) (by omega)) hg
  · apply Decidable.byContradiction; intro hc; exact cannot r.1 (h0.lo (i := 6) (c := 8) (by omega)) hg
/-! what it comes to -/
def callB (b : BlkD) (j : Nat) : Bool := decide (cellI b.pre 0 = 4) && decide (cellI b.pre 6 = (j : Int))
def calledK (D : FnD) (i j : Nat) : Bool := (D.bs.take i).any fun b => callB b j
def called (D : FnD) (j : Nat) : Bool := D.bs.any fun b => callB b j
def mk (D : FnD) (i : Nat) : List Int := rows16 [fun j => b2i (calledK D i j)] ++ []
def mF (D : FnD) : List Int := rows16 [fun j => b2i (called D j)] ++ []
def vec (D : FnD) : List Bool := [called D 0, called D 1, called D 2, called D 3, called D 4, called D 5, called D 6, called D 7]
theorem pins {rho : Nat → Int} {sig : Nat → List UInt8} : ∀ {L : Lf} (h : L.Holds rho sig) (g : Nat → Int) (l : List Nat) (hl : ∀ j ∈ l, rho (nm 0 j) = g j), (l.foldl (fun L j => L.pin (nm 0 j) (g j)) L).Holds rho sig
  | _, h, _, [], _ => h
  | _, h, g, j :: l, hl => pins (h.pin (hl j (List.mem_cons_self ..))) g l fun i hi => hl i (List.mem_cons_of_mem _ hi)
section
variable {w : World} {v : Value} {D : FnD} (h : FnOk' w v D)
include h
theorem loop (hs : twos.Sm D) (hok : ∀ b ∈ D.bs, made.okB b = true) (K : Know) (ok : KnowOk K (fnB w D (atB 0) (mF D)).rho (fnB w D (atB 0) (mF D)).sig) : @LoopOk ((fnB w D (atB 0) (mF D)).withK K ok) Try.prog (row K) codeB := by
  have hn := hs.b
  have okb : ∀ i, i < D.bs.length → okJF (D.blk i) = true := fun i hi => by
    have := hok _ (twos.blk_mem hi)
    unfold made.okB at this
    rw [Bool.and_eq_true] at this
    exact this.2
  have r0 : ∀ i j, j < 16 → (fnB w D (atB i) (mk D i)).rho (nm 0 j) = b2i (calledK D i j) := fun i j hj => fn_row (D := D) (q := atB i) (fs := [fun j => b2i (calledK D i j)]) (tail := []) (b := 0) (f := fun j => b2i (calledK D i j)) rfl hj
  have rF : ∀ j, j < 16 → (fnB w D (atB 0) (mF D)).rho (nm 0 j) = b2i (called D j) := fun j hj => fn_row (D := D) (q := atB 0) (fs := [fun j => b2i (called D j)]) (tail := []) (b := 0) (f := fun j => b2i (called D j)) rfl hj
  refine @roundsU_ok _ _ (fun i => fnB w D (atB i) (mk D i)) codeB _ _ hd _ _ (fun e => by cases e) D.bs.length (agree_fn _ _ _ _) (fun u hu => ?_) (fun i hi => ?_) ?_ 7 K ok
  · rcases List.mem_cons.1 hu with rfl | hu
    · exact isU_ok fun r v hv => hv
    exact falseU16_ok (fun j hj => r0 0 j hj) u hu
  · have fu := jm_func (jump_is h hi) (okb i hi)
    refine turn_fn step (rig_plain (@tabs_app (fnB w D (atB i) (mk D i)) tabF tabB (tabF_ok h _ _) (tabB_ok h (q := atB i) hi _))) (agree_fn _ _ _ _) (L := L1) ?_ (fnFx_ok D _ _) (fun p hp => by cases hp) (fun u hu => ?_) rfl (no_loopN f codeB)
    · have hb := (twos.start0 h (atB i) (fits_B (by omega)) (mk D i)).pin (i := 6) (c := 1) (show b2i (decide ((i : Int) < D.bs.length)) = 1 from (one_iff _).2 (by omega))
      exact (hb.lo (i := 14) (c := 0) (show 0 ≤ cellI (D.blk i).pre 6 from fu.1)).hi (i := 14) (c := 7) (show cellI (D.blk i).pre 6 ≤ 7 from fu.2)
    · rcases List.mem_cons.1 hu with rfl | hu
      · exact isU_ok fun r v hv => hv
      refine bitU16_ok (fun j hj => ?_) u hu
      have e8 : (fnB w D (atB i) (mk D i)).rho 8 = cellI (D.blk i).pre 0 := rfl
      have e14 : (fnB w D (atB i) (mk D i)).rho 14 = cellI (D.blk i).pre 6 := rfl
      have eN : (isE 8 4).num (fnB w D (atB i) (mk D i)).rho = decide (cellI (D.blk i).pre 0 = 4) := by
        show (decide (_ = (4 : Int)) && true) = _
        rw [e8, Bool.and_true]
      rw [eN, e14, r0 (i + 1) j hj, r0 i j hj]
      unfold calledK
      rw [twos.any_take _ b0 _ hi, made.b2i_one, made.b2i_one, Bool.or_eq_true]
      show (_ ∨ (decide (cellI (D.blk i).pre 0 = 4) && decide (cellI (D.blk i).pre 6 = (j : Int))) = true) ↔ _
      rw [Bool.and_eq_true, decide_eq_true_iff, decide_eq_true_iff]
      exact Or.comm
  · refine turn_fn stop (rig_plain (tabF_ok h _ _)) (agree_fn _ _ _ _) (L := L0) ((twos.start0 h (atB D.bs.length) (fits_B (by omega)) _).pin (i := 6) (c := 0) (show b2i (decide ((D.bs.length : Int) < D.bs.length)) = 0 by rw [decide_eq_false (by omega)]; rfl)) (fnFx_ok D _ _) (fun p hp => by cases hp) (fun u hu => ?_) rfl (no_loopN f codeB)
    refine sameB16_ok (fun j hj => (r0 _ j hj).trans (Eq.trans ?_ (rF j hj).symm)) u hu
    unfold calledK called
    rw [List.take_length]
theorem start_T : LT.Holds (xsAt (fnXs D (atB 0) (mF D))) (fun _ => []) := by
  have : All2 InI (List.replicate 16 ivB) (mF D) := all2_cat (a := List.replicate 16 ivB) (c := []) (all2_cat (a := List.replicate 16 ivB) (c := []) (twos.in_row16 fun j => in_b _) trivial) trivial
  have := fn_start h (q := atB 0) (fits_B (by omega)) this (m2 := []) (fun _ => [])
  rwa [List.append_nil] at this
theorem calls_ans (hc : check.chkF D = 0) : Calls Try.prog f #[v] w fun e w' => ∃ s, e = .returned (.tuple #[s, .int .i64 0]) ∧ NewRow w w' s ((lits (vec D)).map (Value.int .i64)) ∧ Below w.heap.size w w' := by
  have hs := size.sm h hc
  have hok := check.okB_of (size.of_chk hc).2.1
  have hl : ∀ K (ok : KnowOk K (fnB w D (atB 0) (mF D)).rho (fnB w D (atB 0) (mF D)).sig), @Sound ((fnB w D (atB 0) (mF D)).withK K ok) Try.prog (size.lib K) := row_fnD h ⟨_, Try.func11, by kernel_rfl, by kernel_rfl⟩ (mv := V.s (.int .i64 0)) (u := .int .i64 0) (fun b0 r => rfl) (atB 0) (mF D) fun w' hw => hc ▸ check.check_ans hw
  have hR : RigOk Try.prog (rigP size.lib tabF fun K => rowsL [(f, row K)]) (fnB w D (atB 0) (mF D)) := rig_ok hl (tabF_ok h _ _) (rows_ok (T := fun K => [(f, row K)]) fun K ok p hp => by
    obtain rfl := List.mem_singleton.1 hp
    exact ⟨F, Try.func9, fun c hc => row_fn tag (loop h hs hok K ok) hc⟩)
  have rF : ∀ j, j < 16 → xsAt (fnXs D (atB 0) (mF D)) (nm 0 j) = b2i (called D j) := fun j hj => fn_row (D := D) (q := atB 0) (fs := [fun j => b2i (called D j)]) (tail := []) (b := 0) (f := fun j => b2i (called D j)) rfl hj
  have hv8 : ∀ j, j < 8 → (vec D).getD j false = called D j := fun j hj => by
    have h8 : j = 0 ∨ j = 1 ∨ j = 2 ∨ j = 3 ∨ j = 4 ∨ j = 5 ∨ j = 6 ∨ j = 7 := by omega
    rcases h8 with rfl | rfl | rfl | rfl | rfl | rfl | rfl | rfl <;> rfl
  have hL : (LP (vec D)).Holds (xsAt (fnXs D (atB 0) (mF D))) (fun _ => []) := pins (start_T h) (fun j => b2i ((vec D).getD j false)) (List.range 8) fun j hj => by
    have hj := List.mem_range.1 hj
    rw [rF j (by omega), hv8 j hj]
  have hR' : RigOk Try.prog R (fnB w D (atB 0) (mF D)) := hR
  have hk : okP (vec D) = true := okP_ok _ _ _ _ _ _ _ _
  unfold okP at hk
  have hva : All2 (@VA (fnB w D (atB 0) (mF D)) r0) [.g fnCells] [v] := ⟨fn_val h (atB 0) _ r0, trivial⟩
  exact calls_newP (b := fnB w D (atB 0) (mF D)) (w := w) (Nat.le_refl _) (fun _ _ => rfl) hR' hL (fnFx_ok D _ _) hva hk
end
end Go.Proofs.Ytbebbbclhgjcbaa.callsF
