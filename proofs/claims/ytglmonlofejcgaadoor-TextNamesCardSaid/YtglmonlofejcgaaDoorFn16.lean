/- The reference's Occurs and OccursJump answer with what has been counted. -/
import Derived.Test.YtglmonlofejcgaaDoorFn15
namespace Go.Proofs.YtglmonlofejcgaaDoor.Am
open Go.RowKit
set_option maxRecDepth 100000
set_option linter.unusedVariables false
set_option linter.unusedSectionVars false
def ints16 (F : Nat → Int) : Value := .agg ((List.range 16).map fun j => Value.int .i64 (F j)).toArray
theorem ints16_is {b : Base} {cs : List S} {F : Nat → Int} (h : ∀ j, j < 16 → ∃ c, cs[j]? = some c ∧ c.i64 b.rho = some (F j)) {us : List Value} {r : Ren} (hus : All2 (@VS b r) cs us) (hl : cs.length = 16) : Value.agg us.toArray = ints16 F := by
 unfold ints16
 congr 2
 refine List.ext_getElem? fun j => ?_
 have hlu := hus.len
 by_cases hj : j < 16
 ·obtain ⟨c, hc, e⟩ := h j hj
  obtain ⟨u, hu, hv⟩ := All2.nth hus (n := j) (x := c) (by rw [nth_eq]; exact hc)
  rw [hu, List.getElem?_map, List.getElem?_range hj]
  exact congrArg some ((@i64_is b r c _ e u).1 hv)
 ·rw [List.getElem?_eq_none (by omega), List.getElem?_eq_none (by simp; omega)]
theorem cells16_ints {b : Base} {n : Nat} {F : Nat → Int} (h : ∀ j, j < 16 → b.rho (nm n j) = F j) (r : Ren) : @VA b r (.g (cells16 n)) (ints16 F) := by
 refine ⟨_, rfl, all2_by_nth (by simp [cells16]) fun j x u hx hu => ?_⟩
 obtain ⟨hj, rfl⟩ := cells16_at hx
 rw [List.getElem?_map, List.getElem?_range hj] at hu
 cases hu
 show Value.int .i64 _ = .int .i64 (b.rho (nm n j))
 rw [h j hj]
theorem ints_cells {b : Base} {n : Nat} {F : Nat → Int} (h : ∀ j, j < 16 → b.rho (nm n j) = F j) {r : Ren} {u : Value} (hu : @VA b r (.g (cells16 n)) u) : u = ints16 F := by
 obtain ⟨us, rfl, hus⟩ := hu
 refine ints16_is (fun j hj => ⟨.xi .i64 (nm n j), ?_, ?_⟩) hus (by simp [cells16])
 ·unfold cells16; rw [List.getElem?_map, List.getElem?_range hj]; rfl
 ·show some (b.rho (nm n j)) = _; rw [h j hj]
theorem ints_zeros {b : Base} {F : Nat → Int} (h : ∀ j, j < 16 → F j = 0) {r : Ren} {u : Value} (hu : @VA b r (.g zeros16) u) : u = ints16 F := by
 obtain ⟨us, rfl, hus⟩ := hu
 refine ints16_is (fun j hj => ⟨.int .i64 0, ?_, ?_⟩) hus (by simp [zeros16])
 ·unfold zeros16; rw [List.getElem?_replicate, if_pos hj]
 ·show some (0 : Int) = _; rw [h j hj]
theorem pre_num {D : FnD} (q : At) (more : List Int) {e : E} (h : e.bd 9 = true) : (e.ren (8 + ·)).num (xsAt (fnXs D q more)) = e.num (cellI (D.blk q.i).pre) := by
 refine E.num_ren h fun j hj => ?_
 have e : fnXs D q more = (xsHd D ++ [(q.i : Int), (q.i : Int) + 1, ltI' q.i D.bs.length, (D.blk q.i).st.length]) ++ (cods 9 (D.blk q.i).pre ++ ((((D.blk q.i).ops.length : Int) :: cods 3 (D.blk q.i).post) ++ (xsS D q ++ (xsO D q ++ (xsT D q ++ (xsC D q ++ more)))))) := by simp [fnXs, xsB, xsBlk]
 rw [e]
 exact (xsAt_ge (n := 8) rfl).trans (cods_any hj _)
theorem jm_3 : autoB (noT jmG) jmT (((Lf.of (ivU 16)).pin 0 2).pin 14 0) = true := by kernel_rfl
theorem jm_4 : (autoB (noT jmG) jmT ((Lf.of (ivU 16)).hi 0 0) && autoB (noT jmG) jmT ((Lf.of (ivU 16)).lo 0 6)) = true := by kernel_rfl
theorem jm_5 : (autoB (noT jmG) jmT (((Lf.of (ivU 16)).lo 9 1).hi 0 3) && autoB (noT jmG) jmT (((Lf.of (ivU 16)).lo 9 1).lo 0 5)) = true := by kernel_rfl
theorem jm_more {w : World} {v : Value} {pre : List Value} {sv : Value} {post : List Value} {els : List (List Value)} (hj : JumpIs w v pre sv post els) (h : okJ pre els post = true) :
  (cellI pre 0 = 2 → (okOpE 1).num (cellI pre) = true) ∧ (1 ≤ cellI pre 0 ∧ cellI pre 0 ≤ 5) ∧ (cellI pre 0 ≠ 4 → els = []) := by
 have hl := len_flat hj
 have lp := len_pre hj
 let us : List Value := flatJ pre els post ++ (bitsJ pre els post).map (Value.int .i64)
 have hk : All2 Kd.ok (kJ ++ [.i .i64, .i .i64, .i .i64]) us := (ok_flat hj).app ⟨⟨_, rfl, by have := b2i_le (els.all fun el => (okOpE 0).val el); show (-9223372036854775808 : Int) ≤ _; omega, by have := b2i_le (els.all fun el => (okOpE 0).val el); show _ ≤ (9223372036854775807 : Int); omega⟩, ⟨_, rfl, by have := b2i_le ((okOpE 1).val (flatJ pre els post)); show (-9223372036854775808 : Int) ≤ _; omega, by have := b2i_le ((okOpE 1).val (flatJ pre els post)); show _ ≤ (9223372036854775807 : Int); omega⟩, ⟨_, rfl, by have := b2i_le ((okPlE 10).val (flatJ pre els post)); show (-9223372036854775808 : Int) ≤ _; omega, by have := b2i_le ((okPlE 10).val (flatJ pre els post)); show _ ≤ (9223372036854775807 : Int); omega⟩, trivial⟩
 have h0 : (Lf.of (ivU 16)).Holds (cellI us) (fun _ => []) := ivU_ok hk rfl
 have ea : ∀ i, i < 13 → cellI us i = cellI (flatJ pre els post) i := fun i hi => cellI_lt (by omega)
 have ep : ∀ i, i < 9 → cellI us i = cellI pre i := fun i hi => (ea i (by omega)).trans (by unfold flatJ; exact cellI_lt (by omega))
 have eb : ∀ j m, (bitsJ pre els post)[j]? = some m → cellI us (13 + j) = m := fun j m hm => by
  show cellI (flatJ pre els post ++ _) _ = _
  rw [cellI_ge hl]
  unfold cellI
  rw [List.getElem?_map, hm]
  rfl
 have e14 : cellI us 14 = b2i ((okOpE 1).val (flatJ pre els post)) := eb 1 _ rfl
 have e15 : cellI us 15 = b2i ((okPlE 10).val (flatJ pre els post)) := eb 2 _ rfl
 have idr : ∀ e : E, e.ren (fun i => i) = e := fun e => by
  induction e with
  | lt i c => rfl
  | zero l => simp [E.ren]
  | and a b ha hb => rw [E.ren, ha, hb]
  | or a b ha hb => rw [E.ren, ha, hb]
  | not a ha => rw [E.ren, ha]
 have sm : ∀ e : E, e.bd 13 = true → e.num (cellI us) = e.val (flatJ pre els post) := fun e he => by
  rw [E.val_num]
  have := E.num_ren (f := fun i => i) he ea
  rwa [idr] at this
 have sp : ∀ e : E, e.bd 9 = true → e.num (cellI us) = e.num (cellI pre) := fun e he => by
  have := E.num_ren (f := fun i => i) he ep
  rwa [idr] at this
 have one : ∀ i c, (isE i c).num (cellI us) = decide (cellI us i = c) := fun i c => by show (decide _ && true) = _; rw [Bool.and_true]
 have hg : ∀ p ∈ jmG, p.1.num (cellI us) = p.2 := fun p hp => by
  simp only [jmG, List.mem_cons, List.not_mem_nil, or_false] at hp
  rcases hp with rfl | rfl | rfl
  ·unfold okJ at h
   rw [E.val_num] at h
   exact h
  ·refine iffE_num ?_
   rw [one, e14, made.dec_b2i, sm _ rfl]
  ·refine iffE_num ?_
   rw [one, e15, made.dec_b2i, sm _ rfl]
 have c9 : cellI us 9 = els.length := (ea 9 (by decide)).trans (cell_len hj)
 have c0 := ep 0 (by decide)
 have r4 := jm_4
 have r5 := jm_5
 rw [Bool.and_eq_true] at r4 r5
 refine ⟨fun h2 => ?_, ⟨?_, ?_⟩, fun h4 => ?_⟩
 ·rw [← sp _ rfl, sm _ rfl]
  cases hb : (okOpE 1).val (flatJ pre els post) with
  | true => rfl
  | false =>
   rw [hb] at e14
   exact (cannot jm_3 ((h0.pin (i := 0) (c := 2) (c0.trans h2)).pin (i := 14) (c := 0) e14) hg).elim
 ·apply Decidable.byContradiction; intro hc; exact cannot r4.1 (h0.hi (i := 0) (c := 0) (by omega)) hg
 ·apply Decidable.byContradiction; intro hc; exact cannot r4.2 (h0.lo (i := 0) (c := 6) (by omega)) hg
 ·apply Decidable.byContradiction
  intro hc
  have hlen : 1 ≤ els.length := by
   cases els with
   | nil => exact absurd rfl hc
   | cons x r => simp
  have h9 := h0.lo (i := 9) (c := 1) (by rw [c9]; omega)
  by_cases h3 : cellI pre 0 ≤ 3
  ·exact cannot r5.1 (h9.hi (i := 0) (c := 3) (by omega)) hg
  ·exact cannot r5.2 (h9.lo (i := 0) (c := 5) (by omega)) hg
end Go.Proofs.YtglmonlofejcgaaDoor.Am
namespace Go.Proofs.YtglmonlofejcgaaDoor.occurs
open Go.RowKit Go.Proofs.YtglmonlofejcgaaDoor.Am
set_option maxRecDepth 100000
set_option linter.unusedVariables false
set_option linter.unusedSectionVars false
theorem fx {D : FnD} {q : At} : FxOk (trZFx Z T) (xsAt (fnXs D q (more (D.stm q.i q.k)))) := by
 have l49 : xsAt (fnXs D q (more (D.stm q.i q.k))) 49 = cellI (D.stm q.i q.k) 25 := rfl
 have l46 : xsAt (fnXs D q (more (D.stm q.i q.k))) 46 = cellI (D.stm q.i q.k) 22 := rfl
 have l25 : xsAt (fnXs D q (more (D.stm q.i q.k))) 25 = cellI (D.stm q.i q.k) 1 := rfl
 have l41 : xsAt (fnXs D q (more (D.stm q.i q.k))) 41 = cellI (D.stm q.i q.k) 17 := rfl
 have l33 : xsAt (fnXs D q (more (D.stm q.i q.k))) 33 = cellI (D.stm q.i q.k) 9 := rfl
 have l38 : xsAt (fnXs D q (more (D.stm q.i q.k))) 38 = cellI (D.stm q.i q.k) 14 := rfl
 have b0 : ∀ j, 0 ≤ o0 j ∧ o0 j ≤ 0 := fun j => ⟨Int.le_refl _, Int.le_refl _⟩
 have b1 := bump_b (l := cellI (D.stm q.i q.k) 1) b0
 have b2 := bump_b (l := cellI (D.stm q.i q.k) 9) b1
 refine trZFx_ok (fnFx_ok D q _) (fun t ht => ?_) (fun t ht => ?_)
 ·unfold more at l49 l46 l25 ⊢
  simp only [Z, List.mem_cons, List.not_mem_nil, or_false] at ht
  rcases ht with rfl | rfl | rfl
  ·exact cntZ_ok (N := 7) (n := 0) rfl (by rw [l49]; rfl) rfl rfl rfl
  ·exact cntZ_ok (N := 7) (n := 2) rfl (by rw [l46]; rfl) rfl rfl rfl
  ·exact cntZ_ok (N := 7) (n := 4) rfl (by rw [l25]; rfl) rfl rfl rfl
 ·unfold more at l41 l33 l38 ⊢
  simp only [T, List.mem_cons, List.not_mem_nil, or_false] at ht
  rcases ht with rfl | rfl | rfl | rfl
  ·exact cnt_ok (N := 7) (n := 6) rfl rfl (by rw [l41]; rfl) rfl (by rw [l41]; rfl) (by rw [l41]; rfl) b1 (by decide)
  ·exact cnt_ok (N := 7) (n := 8) rfl rfl (by rw [l33]; rfl) rfl (by rw [l33]; rfl) (by rw [l33]; rfl) b1 (by decide)
  ·exact cnt_ok (N := 7) (n := 10) rfl rfl (by rw [l38]; rfl) rfl (by rw [l38]; rfl) (by rw [l38]; rfl) b2 (by decide)
  ·exact cnt_ok (N := 7) (n := 12) rfl rfl (by rw [l38]; rfl) rfl (by rw [l38]; rfl) (by rw [l38]; rfl) b1 (by decide)
theorem row_state (st : List Value) (s : Nat) (h0 : 1 ≤ s) (hs : s ≤ 7) : ∃ G, (rows st)[s - 1]? = some G ∧ ∀ j, G j = cnt ((twos.locsOf s).map (cellI st)) j := by
 have h8 : s = 1 ∨ s = 2 ∨ s = 3 ∨ s = 4 ∨ s = 5 ∨ s = 6 ∨ s = 7 := by omega
 rcases h8 with rfl | rfl | rfl | rfl | rfl | rfl | rfl
 ·exact ⟨_, rfl, fun j => by simp [twos.locsOf, cnt, acc, bump, o0]⟩
 ·exact ⟨_, rfl, fun j => by simp [twos.locsOf, cnt, acc, bump, o0]⟩
 ·exact ⟨_, rfl, fun j => by simp [twos.locsOf, cnt, acc, bump, o0]⟩
 ·exact ⟨_, rfl, fun j => by simp [twos.locsOf, cnt, acc, bump, o0]⟩
 ·exact ⟨_, rfl, fun j => by simp [twos.locsOf, cnt, acc, bump, o0]⟩
 ·exact ⟨_, rfl, fun j => by simp [twos.locsOf, cnt, acc, bump, o0]; omega⟩
 ·exact ⟨_, rfl, fun j => by simp [twos.locsOf, cnt, acc, bump, o0]⟩
section
variable {w : World} {v : Value} {D : FnD} (h : FnOk' w v D)
include h
theorem stm_VA (q : At) (m : List Int) (hi : q.i < D.bs.length) (hk : q.k < (D.blk q.i).st.length) : All2 (@VA (fnB w D q m) r0) [.g stmCells] [.agg (D.stm q.i q.k).toArray] := by
 have hc := stm_cells h hi hk m
 refine ⟨⟨_, rfl, all2_by_nth hc.len fun i x u hx hu => ?_⟩, trivial⟩
 obtain ⟨u', hu', e⟩ := All2.nth hc (n := i) (x := x) (by rw [nth_eq]; exact hx)
 rw [hu] at hu'
 cases hu'
 exact e r0
theorem occ_ans {i k : Nat} (hB : D.bs.length ≤ 1000) (hS : (D.blk i).st.length ≤ 1000) (hi : i < D.bs.length) (hk : k < (D.blk i).st.length) (hok : okStE.val (D.stm i k) = true) : Answers f [.agg (D.stm i k).toArray] w (ints16 (twos.occS (D.stm i k))) := by
 let q : At := made.atS i k
 have rg := fun c hc => st_range (stm_is h hi hk).1 hok (c := c) hc
 have hb : (Lf.of (fnIv ++ [])).Holds (xsAt (fnXs D q (more (D.stm i k)))) (fun _ => []) := twos.start0 h q (fits_small ⟨by show i ≤ 1000; omega, by show k ≤ 1000; omega, Nat.zero_le _, Nat.zero_le _⟩) _
 have nr : ∀ {L : Lf} {n c : Nat}, c ∈ [25, 1, 9, 14, 17, 22] → xsAt (fnXs D q (more (D.stm i k))) n = cellI (D.stm i k) c → L.Holds (xsAt (fnXs D q (more (D.stm i k)))) (fun _ => []) → (twos.near16 L n).Holds (xsAt (fnXs D q (more (D.stm i k)))) (fun _ => []) := fun {L n c} hc e hL => by
  obtain ⟨q1, q2⟩ := rg c hc
  exact (hL.lo (i := n) (c := 0) (by rw [e]; exact q1)).hi (i := n) (c := 15) (by rw [e]; exact q2)
 have hL : L1.Holds (xsAt (fnXs D q (more (D.stm i k)))) (fun _ => []) := nr (n := 46) (c := 22) (by decide) rfl (nr (n := 41) (c := 17) (by decide) rfl (nr (n := 38) (c := 14) (by decide) rfl (nr (n := 33) (c := 9) (by decide) rfl (nr (n := 25) (c := 1) (by decide) rfl (nr (n := 49) (c := 25) (by decide) rfl hb)))))
 have := calls_auto (b := fnB w D q (more (D.stm i k))) (w := w) (Nat.le_refl _) (fun _ _ => rfl) (rig_plain (@TabsOk.nought (fnB w D q (more (D.stm i k))))) hL (fx (q := q)) (fun p hp => by
  obtain rfl := List.mem_singleton.1 hp
  exact (okS_num q _).trans hok) (stm_VA h q _ hi hk) run_ok
 refine this.mono fun x w' ⟨u, r, e1, e2, e3⟩ => ⟨?_, e3⟩
 rw [e1]
 congr 1
 have eS : twos.stateOf ((twos.placeE.map twos.at24).map (E.num (fnB w D q (more (D.stm i k))).rho)) = twos.stState (D.stm i k) := by
  refine congrArg twos.stateOf ?_
  rw [List.map_map]
  refine List.map_congr_left fun e he => stm_num q _ ?_
  simp only [twos.placeE, List.mem_cons, List.not_mem_nil, or_false] at he
  rcases he with rfl | rfl | rfl | rfl | rfl | rfl <;> rfl
 unfold out at e2
 rw [eS] at e2
 have e2 : @VA (fnB w D q (more (D.stm i k))) r (.g (bif Nat.beq (twos.stState (D.stm i k)) 0 then zeros16 else cells16 (twos.stState (D.stm i k) - 1))) u := e2
 cases hs : Nat.beq (twos.stState (D.stm i k)) 0 with
 | true =>
  rw [hs, cond_true] at e2
  refine ints_zeros (fun j hj => ?_) e2
  unfold twos.occS
  rw [Nat.eq_of_beq_eq_true hs]
  rfl
 | false =>
  rw [hs, cond_false] at e2
  have h1 : 1 ≤ twos.stState (D.stm i k) := by
   rcases Nat.eq_zero_or_pos (twos.stState (D.stm i k)) with e | e
   ·rw [e] at hs; cases hs
   ·exact e
  obtain ⟨G, g1, g2⟩ := row_state (D.stm i k) _ h1 (twos.state_le _)
  exact ints_cells (fun j hj => (fn_row g1 hj).trans (g2 j)) e2
end
end Go.Proofs.YtglmonlofejcgaaDoor.occurs
