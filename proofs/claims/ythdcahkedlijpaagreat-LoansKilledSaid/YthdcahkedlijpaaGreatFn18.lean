/- The reference's Occurs and OccursJump answer with what has been counted. The reference's OccursJump. The reference's block and Made, as the machine runs them. -/
import Derived.Test.YthdcahkedlijpaaGreatFn15
namespace Go.Proofs.YthdcahkedlijpaaGreat.Am
open Go.RowKit
set_option maxRecDepth 100000
set_option linter.unusedVariables false
set_option linter.unusedSectionVars false
def ints16 (F : Nat → Int) : Value := .agg ((List.range 16).map fun j => Value.int .i64 (F j)).toArray
theorem ints16_is {b : Base} {cs : List S} {F : Nat → Int} (h : ∀ j, j < 16 → ∃ c, cs[j]? = some c ∧ c.i64 b.rho = some (F j)) {us : List Value} {r : Ren} (hus : All2 (@VS b r) cs us) (hl : cs.length = 16) : Value.agg us.toArray = ints16 F := by
  unfold ints16
  congr 2
  refine List.ext_getElem? fun j => ?_
  have hlu := hus.len
  by_cases hj : j < 16
  · obtain ⟨c, hc, e⟩ := h j hj
    obtain ⟨u, hu, hv⟩ := All2.nth hus (n := j) (x := c) (by rw [nth_eq]; exact hc)
    rw [hu, List.getElem?_map, List.getElem?_range hj]
    exact congrArg some ((@i64_is b r c _ e u).1 hv)
  · rw [List.getElem?_eq_none (by omega), List.getElem?_eq_none (by simp; omega)]
theorem cells16_ints {b : Base} {n : Nat} {F : Nat → Int} (h : ∀ j, j < 16 → b.rho (nm n j) = F j) (r : Ren) : @VA b r (.g (cells16 n)) (ints16 F) := by
  refine ⟨_, rfl, all2_by_nth (by simp [cells16]) fun j x u hx hu => ?_⟩
  obtain ⟨hj, rfl⟩ := cells16_at hx
  rw [List.getElem?_map, List.getElem?_range hj] at hu
  cases hu
  show Value.int .i64 _ = .int .i64 (b.rho (nm n j))
  rw [h j hj]
theorem ints_cells {b : Base} {n : Nat} {F : Nat → Int} (h : ∀ j, j < 16 → b.rho (nm n j) = F j) {r : Ren} {u : Value} (hu : @VA b r (.g (cells16 n)) u) : u = ints16 F := by
  obtain ⟨us, rfl, hus⟩ := hu
  refine ints16_is (fun j hj => ⟨.xi .i64 (nm n j), ?_, ?_⟩) hus (by simp [cells16])
  · unfold cells16; rw [List.getElem?_map, List.getElem?_range hj]; rfl
  · show some (b.rho (nm n j)) = _; rw [h j hj]
theorem ints_zeros {b : Base} {F : Nat → Int} (h : ∀ j, j < 16 → F j = 0) {r : Ren} {u : Value} (hu : @VA b r (.g zeros16) u) : u = ints16 F := by
  obtain ⟨us, rfl, hus⟩ := hu
  refine ints16_is (fun j hj => ⟨.int .i64 0, ?_, ?_⟩) hus (by simp [zeros16])
  · unfold zeros16; rw [List.getElem?_replicate, if_pos hj]
  · show some (0 : Int) = _; rw [h j hj]
theorem pre_num {D : FnD} (q : At) (more : List Int) {e : E} (h : e.bd 9 = true) : (e.ren (8 + ·)).num (xsAt (fnXs D q more)) = e.num (cellI (D.blk q.i).pre) := by
  refine E.num_ren h fun j hj => ?_
  have e : fnXs D q more = (xsHd D ++ [(q.i : Int), (q.i : Int) + 1, ltI' q.i D.bs.length, (D.blk q.i).st.length]) ++ (cods 9 (D.blk q.i).pre ++ ((((D.blk q.i).ops.length : Int) :: cods 3 (D.blk q.i).post) ++ (xsS D q ++ (xsO D q ++ (xsT D q ++ (xsC D q ++ more)))))) := by simp [fnXs, xsB, xsBlk]
  rw [e]
  exact (xsAt_ge (n := 8) rfl).trans (cods_any hj _)
theorem jm_3 : autoB (noT jmG) jmT (((Lf.of (ivU 16)).pin 0 2).pin 14 0) = true := by kernel_rfl
theorem jm_4 : (autoB (noT jmG) jmT ((Lf.of (ivU 16)).hi 0 0) && autoB (noT jmG) jmT ((Lf.of (ivU 16)).lo 0 6)) = true := by kernel_rfl
theorem jm_5 : (autoB (noT jmG) jmT (((Lf.of (ivU 16)).lo 9 1).hi 0 3) && autoB (noT jmG) jmT (((Lf.of (ivU 16)).lo 9 1).lo 0 5)) = true := by kernel_rfl
theorem jm_more {w : World} {v : Value} {pre : List Value} {sv : Value} {post : List Value} {els : List (List Value)} (hj : JumpIs w v pre sv post els) (h : okJ pre els post = true) :
    (cellI pre 0 = 2 → (okOpE 1).num (cellI pre) = true) ∧ (1 ≤ cellI pre 0 ∧ cellI pre 0 ≤ 5) ∧ (cellI pre 0 ≠ 4 → els = []) := by
  have hl := len_flat hj
  have lp := len_pre hj
  let us : List Value := flatJ pre els post ++ (bitsJ pre els post).map (Value.int .i64)
  have hk : All2 Kd.ok (kJ ++ [.i .i64, .i .i64, .i .i64]) us := (ok_flat hj).app ⟨⟨_, rfl, by have := b2i_le (els.all fun el => (okOpE 0).val el); show (-9223372036854775808 : Int) ≤ _; omega, by have := b2i_le (els.all fun el => (okOpE 0).val el); show _ ≤ (9223372036854775807 : Int); omega⟩, ⟨_, rfl, by have := b2i_le ((okOpE 1).val (flatJ pre els post)); show (-9223372036854775808 : Int) ≤ _; omega, by have := b2i_le ((okOpE 1).val (flatJ pre els post)); show _ ≤ (9223372036854775807 : Int); omega⟩, ⟨_, rfl, by have := b2i_le ((okPlE 10).val (flatJ pre els post)); show (-9223372036854775808 : Int) ≤ _; omega, by have := b2i_le ((okPlE 10).val (flatJ pre els post)); show _ ≤ (9223372036854775807 : Int); omega⟩, trivial⟩
  have h0 : (Lf.of (ivU 16)).Holds (cellI us) (fun _ => []) := ivU_ok hk rfl
  have ea : ∀ i, i < 13 → cellI us i = cellI (flatJ pre els post) i := fun i hi => cellI_lt (by omega)
  have ep : ∀ i, i < 9 → cellI us i = cellI pre i := fun i hi => (ea i (by omega)).trans (by unfold flatJ; exact cellI_lt (by omega))
  have eb : ∀ j m, (bitsJ pre els post)[j]? = some m → cellI us (13 + j) = m := fun j m hm => by
    show cellI (flatJ pre els post ++ _) _ = _
    rw [cellI_ge hl]
    unfold cellI
    rw [List.getElem?_map, hm]
    rfl
  have e14 : cellI us 14 = b2i ((okOpE 1).val (flatJ pre els post)) := eb 1 _ rfl
  have e15 : cellI us 15 = b2i ((okPlE 10).val (flatJ pre els post)) := eb 2 _ rfl
  have idr : ∀ e : E, e.ren (fun i => i) = e := fun e => by
    induction e with
    | lt i c => rfl
    | zero l => simp [E.ren]
    | and a b ha hb => rw [E.ren, ha, hb]
    | or a b ha hb => rw [E.ren, ha, hb]
    | not a ha => rw [E.ren, ha]
  have sm : ∀ e : E, e.bd 13 = true → e.num (cellI us) = e.val (flatJ pre els post) := fun e he => by
    rw [E.val_num]
    have := E.num_ren (f := fun i => i) he ea
    rwa [idr] at this
  have sp : ∀ e : E, e.bd 9 = true → e.num (cellI us) = e.num (cellI pre) := fun e he => by
    have := E.num_ren (f := fun i => i) he ep
    rwa [idr] at this
  have one : ∀ i c, (isE i c).num (cellI us) = decide (cellI us i = c) := fun i c => by show (decide _ && true) = _; rw [Bool.and_true]
  have hg : ∀ p ∈ jmG, p.1.num (cellI us) = p.2 := fun p hp => by
    simp only [jmG, List.mem_cons, List.not_mem_nil, or_false] at hp
    rcases hp with rfl | rfl | rfl
    · unfold okJ at h
      rw [E.val_num] at h
      exact h
    · refine iffE_num ?_
      rw [one, e14, made.dec_b2i, sm _ rfl]
    · refine iffE_num ?_
      rw [one, e15, made.dec_b2i, sm _ rfl]
  have c9 : cellI us 9 = els.length := (ea 9 (by decide)).trans (cell_len hj)
  have c0 := ep 0 (by decide)
  have r4 := jm_4
  have r5 := jm_5
  rw [Bool.and_eq_true] at r4 r5
  refine ⟨fun h2 => ?_, ⟨?_, ?_⟩, fun h4 => ?_⟩
  · rw [← sp _ rfl, sm _ rfl]
    cases hb : (okOpE 1).val (flatJ pre els post) with
    | true => rfl
    | false =>
      rw [hb] at e14
      exact (cannot jm_3 ((h0.pin (i := 0) (c := 2) (c0.trans h2)).pin (i := 14) (c := 0) e14) hg).elim
  · apply Decidable.byContradiction; intro hc; exact cannot r4.1 (h0.hi (i := 0) (c := 0) (by omega)) hg
  · apply Decidable.byContradiction; intro hc; exact cannot r4.2 (h0.lo (i := 0) (c := 6) (by omega)) hg
  · apply Decidable.byContradiction
    intro hc
    have hlen : 1 ≤ els.length := by
      cases els with
      | nil => exact absurd rfl hc
      | cons x r => simp
    have h9 := h0.lo (i := 9) (c := 1) (by rw [c9]; omega)
    by_cases h3 : cellI pre 0 ≤ 3
    · exact cannot r5.1 (h9.hi (i := 0) (c := 3) (by omega)) hg
    · exact cannot r5.2 (h9.lo (i := 0) (c := 5) (by omega)) hg
end Go.Proofs.YthdcahkedlijpaaGreat.Am
namespace Go.Proofs.YthdcahkedlijpaaGreat.occurs
open Go.RowKit Go.Proofs.YthdcahkedlijpaaGreat.Am
set_option maxRecDepth 100000
set_option linter.unusedVariables false
set_option linter.unusedSectionVars false
theorem fx {D : FnD} {q : At} : FxOk (trZFx Z T) (xsAt (fnXs D q (more (D.stm q.i q.k)))) := by
  have l49 : xsAt (fnXs D q (more (D.stm q.i q.k))) 49 = cellI (D.stm q.i q.k) 25 := rfl
  have l46 : xsAt (fnXs D q (more (D.stm q.i q.k))) 46 = cellI (D.stm q.i q.k) 22 := rfl
  have l25 : xsAt (fnXs D q (more (D.stm q.i q.k))) 25 = cellI (D.stm q.i q.k) 1 := rfl
  have l41 : xsAt (fnXs D q (more (D.stm q.i q.k))) 41 = cellI (D.stm q.i q.k) 17 := rfl
  have l33 : xsAt (fnXs D q (more (D.stm q.i q.k))) 33 = cellI (D.stm q.i q.k) 9 := rfl
  have l38 : xsAt (fnXs D q (more (D.stm q.i q.k))) 38 = cellI (D.stm q.i q.k) 14 := rfl
  have b0 : ∀ j, 0 ≤ o0 j ∧ o0 j ≤ 0 := fun j => ⟨Int.le_refl _, Int.le_refl _⟩
  have b1 := bump_b (l := cellI (D.stm q.i q.k) 1) b0
  have b2 := bump_b (l := cellI (D.stm q.i q.k) 9) b1
  refine trZFx_ok (fnFx_ok D q _) (fun t ht => ?_) (fun t ht => ?_)
  · unfold more at l49 l46 l25 ⊢
    simp only [Z, List.mem_cons, List.not_mem_nil, or_false] at ht
    rcases ht with rfl | rfl | rfl
    · exact cntZ_ok (N := 7) (n := 0) rfl (by rw [l49]; rfl) rfl rfl rfl
    · exact cntZ_ok (N := 7) (n := 2) rfl (by rw [l46]; rfl) rfl rfl rfl
    · exact cntZ_ok (N := 7) (n := 4) rfl (by rw [l25]; rfl) rfl rfl rfl
  · unfold more at l41 l33 l38 ⊢
    simp only [T, List.mem_cons, List.not_mem_nil, or_false] at ht
    rcases ht with rfl | rfl | rfl | rfl
    · exact cnt_ok (N := 7) (n := 6) rfl rfl (by rw [l41]; rfl) rfl (by rw [l41]; rfl) (by rw [l41]; rfl) b1 (by decide)
    · exact cnt_ok (N := 7) (n := 8) rfl rfl (by rw [l33]; rfl) rfl (by rw [l33]; rfl) (by rw [l33]; rfl) b1 (by decide)
    · exact cnt_ok (N := 7) (n := 10) rfl rfl (by rw [l38]; rfl) rfl (by rw [l38]; rfl) (by rw [l38]; rfl) b2 (by decide)
    · exact cnt_ok (N := 7) (n := 12) rfl rfl (by rw [l38]; rfl) rfl (by rw [l38]; rfl) (by rw [l38]; rfl) b1 (by decide)
theorem row_state (st : List Value) (s : Nat) (h0 : 1 ≤ s) (hs : s ≤ 7) : ∃ G, (rows st)[s - 1]? = some G ∧ ∀ j, G j = cnt ((twos.locsOf s).map (cellI st)) j := by
  have h8 : s = 1 ∨ s = 2 ∨ s = 3 ∨ s = 4 ∨ s = 5 ∨ s = 6 ∨ s = 7 := by omega
  rcases h8 with rfl | rfl | rfl | rfl | rfl | rfl | rfl
  · exact ⟨_, rfl, fun j => by simp [twos.locsOf, cnt, acc, bump, o0]⟩
  · exact ⟨_, rfl, fun j => by simp [twos.locsOf, cnt, acc, bump, o0]⟩
  · exact ⟨_, rfl, fun j => by simp [twos.locsOf, cnt, acc, bump, o0]⟩
  · exact ⟨_, rfl, fun j => by simp [twos.locsOf, cnt, acc, bump, o0]⟩
  · exact ⟨_, rfl, fun j => by simp [twos.locsOf, cnt, acc, bump, o0]⟩
  · exact ⟨_, rfl, fun j => by simp [twos.locsOf, cnt, acc, bump, o0]; omega⟩
  · exact ⟨_, rfl, fun j => by simp [twos.locsOf, cnt, acc, bump, o0]⟩
section
variable {w : World} {v : Value} {D : FnD} (h : FnOk' w v D)
include h
theorem stm_VA (q : At) (m : List Int) (hi : q.i < D.bs.length) (hk : q.k < (D.blk q.i).st.length) : All2 (@VA (fnB w D q m) r0) [.g stmCells] [.agg (D.stm q.i q.k).toArray] := by
  have hc := stm_cells h hi hk m
  refine ⟨⟨_, rfl, all2_by_nth hc.len fun i x u hx hu => ?_⟩, trivial⟩
  obtain ⟨u', hu', e⟩ := All2.nth hc (n := i) (x := x) (by rw [nth_eq]; exact hx)
  rw [hu] at hu'
  cases hu'
  exact e r0
theorem occ_ans {i k : Nat} (hB : D.bs.length ≤ 1000) (hS : (D.blk i).st.length ≤ 1000) (hi : i < D.bs.length) (hk : k < (D.blk i).st.length) (hok : okStE.val (D.stm i k) = true) : Answers f [.agg (D.stm i k).toArray] w (ints16 (twos.occS (D.stm i k))) := by
  let q : At := made.atS i k
  have rg := fun c hc => st_range (stm_is h hi hk).1 hok (c := c) hc
  have hb : (Lf.of (fnIv ++ [])).Holds (xsAt (fnXs D q (more (D.stm i k)))) (fun _ => []) := twos.start0 h q (fits_small ⟨by show i ≤ 1000; omega, by show k ≤ 1000; omega, Nat.zero_le _, Nat.zero_le _⟩) _
  have nr : ∀ {L : Lf} {n c : Nat}, c ∈ [25, 1, 9, 14, 17, 22] → xsAt (fnXs D q (more (D.stm i k))) n = cellI (D.stm i k) c → L.Holds (xsAt (fnXs D q (more (D.stm i k)))) (fun _ => []) → (twos.near16 L n).Holds (xsAt (fnXs D q (more (D.stm i k)))) (fun _ => []) := fun {L n c} hc e hL => by
    obtain ⟨q1, q2⟩ := rg c hc
    exact (hL.lo (i := n) (c := 0) (by rw [e]; exact q1)).hi (i := n) (c := 15) (by rw [e]; exact q2)
  have hL : L1.Holds (xsAt (fnXs D q (more (D.stm i k)))) (fun _ => []) := nr (n := 46) (c := 22) (by decide) rfl (nr (n := 41) (c := 17) (by decide) rfl (nr (n := 38) (c := 14) (by decide) rfl (nr (n := 33) (c := 9) (by decide) rfl (nr (n := 25) (c := 1) (by decide) rfl (nr (n := 49) (c := 25) (by decide) rfl hb)))))
  have := calls_auto (b := fnB w D q (more (D.stm i k))) (w := w) (Nat.le_refl _) (fun _ _ => rfl) (rig_plain (@TabsOk.nought (fnB w D q (more (D.stm i k))))) hL (fx (q := q)) (fun p hp => by
    obtain rfl := List.mem_singleton.1 hp
    exact (okS_num q _).trans hok) (stm_VA h q _ hi hk) run_ok
  refine this.mono fun x w' ⟨u, r, e1, e2, e3⟩ => ⟨?_, e3⟩
  rw [e1]
  congr 1
  have eS : twos.stateOf ((twos.placeE.map twos.at24).map (E.num (fnB w D q (more (D.stm i k))).rho)) = twos.stState (D.stm i k) := by
    refine congrArg twos.stateOf ?_
    rw [List.map_map]
    refine List.map_congr_left fun e he => stm_num q _ ?_
    simp only [twos.placeE, List.mem_cons, List.not_mem_nil, or_false] at he
    rcases he with rfl | rfl | rfl | rfl | rfl | rfl <;> rfl
  unfold out at e2
  rw [eS] at e2
  have e2 : @VA (fnB w D q (more (D.stm i k))) r (.g (bif Nat.beq (twos.stState (D.stm i k)) 0 then zeros16 else cells16 (twos.stState (D.stm i k) - 1))) u := e2
  cases hs : Nat.beq (twos.stState (D.stm i k)) 0 with
  | true =>
    rw [hs, cond_true] at e2
    refine ints_zeros (fun j hj => ?_) e2
    unfold twos.occS
    rw [Nat.eq_of_beq_eq_true hs]
    rfl
  | false =>
    rw [hs, cond_false] at e2
    have h1 : 1 ≤ twos.stState (D.stm i k) := by
      rcases Nat.eq_zero_or_pos (twos.stState (D.stm i k)) with e | e
      · rw [e] at hs; cases hs
      · exact e
    obtain ⟨G, g1, g2⟩ := row_state (D.stm i k) _ h1 (twos.state_le _)
    exact ints_cells (fun j hj => (fn_row g1 hj).trans (g2 j)) e2
end
end Go.Proofs.YthdcahkedlijpaaGreat.occurs
namespace Go.Proofs.YthdcahkedlijpaaGreat.occJump
open Go.RowKit Go.Proofs.YthdcahkedlijpaaGreat.Am
set_option maxRecDepth 100000
set_option linter.unusedVariables false
set_option linter.unusedSectionVars false
noncomputable def f : FuncId := 57
noncomputable def F : Func := Tryz.f57
noncomputable def codeA : Code := loopAt F 0
noncomputable def keep : List (Nat × S) := [(1, .ptr 0 0), (2, .ptr 1 0), (3, .ptr 2 0)]
def hp (n : Nat) : Hp := [(2, ⟨cells16 n, true⟩), (1, ⟨zeros16, true⟩), (0, ⟨jmpCells, true⟩)]
noncomputable def hdA : St := ⟨frOf F.ntmps (keep ++ [(4, .rv 4), (5, .xi .i64 50)]), ⟨hp 0, 3⟩⟩
noncomputable def sNA : St := ⟨frOf F.ntmps keep, ⟨hp 0, 3⟩⟩
def T : List Cnt := [⟨0, 1, 55, 109⟩]
def placedN : E := .not (isE 53 1)
def okN : E := (okOpE 0).ren (53 + ·)
def us : List Upd := isU (.xi .i64 50) (.xi .i64 51) :: pickU16 0 [placedN] (fun bs => bif bs.headD false then 1 else 0)
noncomputable def LA : Lf := twos.near16 (((Lf.of (fnIv ++ [])).pin 6 1).pin 52 1) 55
noncomputable def LA0 : Lf := ((Lf.of (fnIv ++ [])).pin 6 1).pin 52 0
theorem stepA : autoB (turnT (rigP libN (tabF.app (tabB.app tabA)) noLoops) f (trFx T) [(okN, true)] us ⟨21, 0, 5⟩ codeA hdA .normal hdA) (occurs.op4 53 .leaf) LA = true := by kernel_rfl
theorem stopA : autoB (turnT (rigP libN (tabF.app tabB) noLoops) f fnFx [] (sameU16 0 0) ⟨21, 0, 5⟩ codeA hdA (.exit 0) sNA) .leaf LA0 = true := by kernel_rfl
def Zj : List CntZ := [⟨2, 11, 125⟩]
def Tj : List Cnt := [⟨0, 1, 18, 127⟩]
noncomputable def rowA (K : Know) : Loops := rowL 5 ⟨21, 0, 5⟩ (@thU K (isU (.xi .i64 50) (.int .i64 0) :: zeroU16 0)) hdA (.exit 0) sNA
def isB : E := isE 8 2
def brN : E := .and (isE 8 2) (.not (isE 9 1))
def caN : E := isE 8 4
def okA : E := imp (isE 8 2) ((okOpE 1).ren (8 + ·))
def out (bs : List Bool) : V := .a (.g (bif bs.headD false then cells16 2 else bif (bs.drop 1).headD false then zeros16 else bif (bs.drop 2).headD false then cells16 1 else cells16 0))
def tree : HT := .on 8 2 .leaf (.on 8 3 (occurs.op4 9 .leaf) (.on 8 4 .leaf (.on 8 5 .leaf .leaf)))
noncomputable def LJ : Lf := twos.near16 (twos.near16 ((Lf.of (fnIv ++ [])).pin 6 1) 11) 18
theorem run_ok : autoB (callT (rigP libN (tabF.app tabB) fun K => rowsL [(f, rowA K)]) f (trZFx Zj Tj) [(okA, true)] [brN, isB, caN] out [.g jmpCells]) tree LJ = true := by kernel_rfl
theorem tagA : tagsOk (F.body.getD .skip) 0 5 = true := by kernel_rfl
def accO (b : BlkD) (m : Nat) (j : Nat) : Int := acc (fun op => twos.opOcc op j) (b.ops.take m)
def accA (b : BlkD) (j : Nat) : Int := acc (fun op => twos.opOcc op j) b.ops
def occJ (b : BlkD) (j : Nat) : Int := if cellI b.pre 0 = 2 then (if cellI b.pre 1 = 1 then 0 else bump occurs.o0 (cellI b.pre 3) j) else if cellI b.pre 0 = 4 then bump (accA b) (cellI b.post 0) j else accA b j
def mA (D : FnD) (i m : Nat) : List Int := rows16 [accO (D.blk i) m, bump (accO (D.blk i) m) (cellI (D.opd i m) 2)] ++ twos.two1 (accO (D.blk i) m) (cellI (D.opd i m) 2)
def rowsJ (b : BlkD) : List (Nat → Int) := [accA b, bump (accA b) (cellI b.post 0), bump occurs.o0 (cellI b.pre 3)]
def mJ (b : BlkD) : List Int := rows16 (rowsJ b) ++ ([0, 1] ++ twos.two1 (accA b) (cellI b.post 0))
theorem acc_b (l : List (List Value)) (j : Nat) : 0 ≤ acc (fun op => twos.opOcc op j) l ∧ acc (fun op => twos.opOcc op j) l ≤ l.length := by
  have := acc_le (fun op => twos.opOcc op j) 1 l fun x _ => b2i_le _
  omega
section
variable {w : World} {v : Value} {D : FnD} (h : FnOk' w v D)
include h
theorem jmp_VA {i : Nat} (q : At) (hq : q.i = i) (m : List Int) (hi : i < D.bs.length) : All2 (@VA (fnB w D q m) r0) [.g jmpCells] [.agg ((D.blk i).pre ++ (D.blk i).a :: (D.blk i).post).toArray] := by
  have hc := jmp_cells h hi q hq m
  refine ⟨⟨_, rfl, all2_by_nth hc.len fun n x u hx hu => ?_⟩, trivial⟩
  obtain ⟨u', hu', e⟩ := All2.nth hc (n := n) (x := x) (by rw [nth_eq]; exact hx)
  rw [hu] at hu'
  cases hu'
  exact e r0
theorem args {i : Nat} (hi : i < D.bs.length) (hB : D.bs.length ≤ 1000) (hA : (D.blk i).ops.length ≤ 1000) (hok : ((D.blk i).ops.all fun el => (okOpE 0).val el) = true) : ∀ K (ok : KnowOk K (fnB w D (atB i) (mJ (D.blk i))).rho (fnB w D (atB i) (mJ (D.blk i))).sig), @LoopOk ((fnB w D (atB i) (mJ (D.blk i))).withK K ok) Tryz.prog (rowA K) codeA := by
  intro K ok
  have fit : ∀ k, k ≤ (D.blk i).ops.length → Fits D (made.atM i k) := fun k hk => fits_small ⟨by show i ≤ 1000; omega, Nat.zero_le _, by show k ≤ 1000; omega, Nat.zero_le _⟩
  have okk := (all_at (D.blk i).ops [] fun el => (okOpE 0).val el).2 hok
  have r0 : ∀ k b G, [accO (D.blk i) k, bump (accO (D.blk i) k) (cellI (D.opd i k) 2)][b]? = some G → ∀ j, j < 16 → (fnB w D (made.atM i k) (mA D i k)).rho (nm b j) = G j := fun k b G e j hj => fn_row e hj
  have ub : ∀ u ∈ isU (.xi .i64 50) (.int .i64 0) :: zeroU16 0, UpdOk (fnB w D (atB i) (mJ (D.blk i))) (fnB w D (made.atM i 0) (mA D i 0)) u := fun u hu => by
    rcases List.mem_cons.1 hu with rfl | hu
    · exact isU_ok fun r v hv => hv
    exact zeroU16_ok (fun j hj => r0 0 0 _ rfl j hj) u hu
  refine @roundsU_ok _ _ (fun k => fnB w D (made.atM i k) (mA D i k)) codeA _ _ hdA _ _ (fun e => by cases e) (D.blk i).ops.length (agree_blk (atB i) (made.atM i 0) rfl _ _) ub (fun k hk => ?_) ?_ 5 K ok
  · have rg := op_range (opd_is h hi hk).1 (okk k hk)
    have hfx : FxOk (trFx T) (xsAt (fnXs D (made.atM i k) (mA D i k))) := by
      refine trFx_ok (fnFx_ok D _ _) fun t ht => ?_
      obtain rfl := List.mem_singleton.1 ht
      have l55 : xsAt (fnXs D (made.atM i k) (mA D i k)) 55 = cellI (D.opd i k) 2 := rfl
      unfold mA at l55 ⊢
      refine cnt_ok (N := 2) (n := 0) (M := 1000) rfl rfl (by rw [l55]; rfl) rfl (by rw [l55]; rfl) (by rw [l55]; rfl) (fun j => ?_) (by decide)
      have := acc_b ((D.blk i).ops.take k) j
      have hl : ((D.blk i).ops.take k).length ≤ 1000 := by rw [List.length_take]; omega
      show 0 ≤ acc _ _ ∧ acc _ _ ≤ (1000 : Int)
      omega
    refine turn_fn stepA (rig_plain (@tabs_app (fnB w D (made.atM i k) (mA D i k)) _ _ (tabF_ok h _ _) (@tabs_app (fnB w D (made.atM i k) (mA D i k)) _ _ (tabB_ok h (q := made.atM i k) hi _) (tabA_ok h (q := made.atM i k) hi hk _)))) (agree_blk (made.atM i k) (made.atM i (k + 1)) rfl _ _) (L := LA) ?_ hfx (fun p hp => ?_) (fun u hu => ?_) rfl (no_loopN f codeA)
    · have hb := ((twos.start0 h (made.atM i k) (fit k (by omega)) (mA D i k)).pin (i := 6) (c := 1) (show b2i (decide ((i : Int) < D.bs.length)) = 1 from (one_iff _).2 (by omega))).pin (i := 52) (c := 1) (show b2i (decide ((k : Int) < (D.blk i).ops.length)) = 1 from (one_iff _).2 (by omega))
      exact (hb.lo (i := 55) (c := 0) (show 0 ≤ cellI (D.opd i k) 2 from rg.1)).hi (i := 55) (c := 15) (show cellI (D.opd i k) 2 ≤ 15 from rg.2)
    · obtain rfl := List.mem_singleton.1 hp
      exact (opd_num (made.atM i k) _ (e := okOpE 0) rfl).trans ((E.val_num _ _).symm.trans (okk k hk))
    · have e53 : (fnB w D (made.atM i k) (mA D i k)).rho 53 = cellI (D.opd i k) 0 := rfl
      have sa : ∀ j, accO (D.blk i) (k + 1) j = accO (D.blk i) k j + twos.opOcc (D.opd i k) j := fun j => by show acc _ _ = acc _ _ + _; rw [acc_take _ _ [] hk]; rfl
      rcases List.mem_cons.1 hu with rfl | hu
      · exact isU_ok fun r v hv => hv
      refine pickU_ok (fun j hj => ?_) u hu
      have eN : placedN.num (fnB w D (made.atM i k) (mA D i k)).rho = !decide (cellI (D.opd i k) 0 = 1) := by
        show (!(decide (_ = (1 : Int)) && true)) = _
        rw [e53, Bool.and_true]
      simp only [List.map_cons, List.map_nil, List.headD_cons]
      rw [eN, r0 (k + 1) 0 _ rfl j hj, sa j]
      unfold twos.opOcc
      cases hp : (!decide (cellI (D.opd i k) 0 = 1)) with
      | false => rw [cond_false, r0 k 0 _ rfl j hj, Bool.false_and]; show _ = _ + (0 : Int); omega
      | true => rw [cond_true, r0 k 1 _ rfl j hj, Bool.true_and]; rfl
  · refine turn_fn stopA (rig_plain (@tabs_app (fnB w D (made.atM i _) (mA D i _)) _ _ (tabF_ok h _ _) (tabB_ok h (q := made.atM i _) hi _))) (agree_blk (made.atM i (D.blk i).ops.length) (atB i) rfl _ _) (L := LA0) ?_ (fnFx_ok D _ _) (fun p hp => by cases hp) (fun u hu => ?_) rfl (no_loopN f codeA)
    · exact ((twos.start0 h _ (fit _ (Nat.le_refl _)) _).pin (i := 6) (c := 1) (show b2i (decide ((i : Int) < D.bs.length)) = 1 from (one_iff _).2 (by omega))).pin (i := 52) (c := 0) (show b2i (decide (((D.blk i).ops.length : Int) < (D.blk i).ops.length)) = 0 by rw [decide_eq_false (by omega)]; rfl)
    · have rr := r0 (D.blk i).ops.length
      refine pickU_ok (fun j hj => ?_) u hu
      refine (rr 0 _ rfl j hj).trans ((show accO (D.blk i) (D.blk i).ops.length j = accA (D.blk i) j by unfold accO accA; rw [List.take_length]).trans ?_)
      exact (fn_row (D := D) (q := atB i) (fs := rowsJ (D.blk i)) (b := 0) rfl hj).symm
theorem occJ_ans {i : Nat} (hi : i < D.bs.length) (hB : D.bs.length ≤ 1000) (hok : okJF (D.blk i) = true) : Answers f [.agg ((D.blk i).pre ++ (D.blk i).a :: (D.blk i).post).toArray] w (ints16 (occJ (D.blk i))) := by
  have hj := jump_is h hi
  obtain ⟨⟨j1, j2⟩, ⟨j3, j4⟩, jo⟩ := jm_facts hj hok
  obtain ⟨m1, m2, m3⟩ := jm_more hj hok
  have hl8 : (D.blk i).ops.length ≤ 8 := okJ_len (len_pre hj) hok
  have ops : ((D.blk i).ops.all fun el => (okOpE 0).val el) = true := by
    rcases jo with e | e
    · exact e
    · rw [List.eq_nil_of_length_eq_zero e]; rfl
  have hb := (twos.start0 h (atB i) (fits_B (by omega)) (mJ (D.blk i))).pin (i := 6) (c := 1) (show b2i (decide ((i : Int) < D.bs.length)) = 1 from (one_iff _).2 (by omega))
  have hL : LJ.Holds (xsAt (fnXs D (atB i) (mJ (D.blk i)))) (fun _ => []) := (((hb.lo (i := 11) (c := 0) j1).hi (i := 11) (c := 15) j2).lo (i := 18) (c := 0) j3).hi (i := 18) (c := 15) j4
  have l11 : xsAt (fnXs D (atB i) (mJ (D.blk i))) 11 = cellI (D.blk i).pre 3 := rfl
  have l18 : xsAt (fnXs D (atB i) (mJ (D.blk i))) 18 = cellI (D.blk i).post 0 := rfl
  have hfx : FxOk (trZFx Zj Tj) (xsAt (fnXs D (atB i) (mJ (D.blk i)))) := by
    unfold mJ at l11 l18 ⊢
    refine trZFx_ok (fnFx_ok D _ _) (fun t ht => ?_) (fun t ht => ?_)
    · obtain rfl := List.mem_singleton.1 ht
      exact cntZ_ok (N := 3) (n := 0) rfl (by rw [l11]; rfl) rfl rfl rfl
    · obtain rfl := List.mem_singleton.1 ht
      refine cnt_ok (N := 3) (n := 2) (M := 1000) rfl rfl (by rw [l18]; rfl) rfl (by rw [l18]; rfl) (by rw [l18]; rfl) (fun j => ?_) (by decide)
      have := acc_b (D.blk i).ops j
      show 0 ≤ acc _ _ ∧ acc _ _ ≤ (1000 : Int)
      omega
  have hR : RigOk Tryz.prog (rigP libN (tabF.app tabB) fun K => rowsL [(f, rowA K)]) (fnB w D (atB i) (mJ (D.blk i))) :=
    rig_ok lib_none (@tabs_app (fnB w D (atB i) (mJ (D.blk i))) _ _ (tabF_ok h _ _) (tabB_ok h (q := atB i) hi _)) (rows_ok (T := fun K => [(f, rowA K)]) fun K ok p hp => by
      obtain rfl := List.mem_singleton.1 hp
      exact ⟨F, Tryz.func57, fun c hc => row_fn tagA (args h hi hB (by omega) ops K ok) hc⟩)
  have e8 : (fnB w D (atB i) (mJ (D.blk i))).rho 8 = cellI (D.blk i).pre 0 := rfl
  have e9 : (fnB w D (atB i) (mJ (D.blk i))).rho 9 = cellI (D.blk i).pre 1 := rfl
  have isN : ∀ n c, (isE n c).num (fnB w D (atB i) (mJ (D.blk i))).rho = decide ((fnB w D (atB i) (mJ (D.blk i))).rho n = c) := fun n c => by show (decide _ && true) = _; rw [Bool.and_true]
  have := calls_auto (b := fnB w D (atB i) (mJ (D.blk i))) (w := w) (Nat.le_refl _) (fun _ _ => rfl) hR hL hfx (fun p hp => by
    obtain rfl := List.mem_singleton.1 hp
    show (!(isE 8 2).num _ || ((okOpE 1).ren (8 + ·)).num _) = true
    rw [isN, e8, show ((okOpE 1).ren (8 + ·)).num (fnB w D (atB i) (mJ (D.blk i))).rho = _ from pre_num (atB i) _ (e := okOpE 1) rfl]
    by_cases h2 : cellI (D.blk i).pre 0 = 2
    · rw [show (D.blk (atB i).i) = D.blk i from rfl, m1 h2, Bool.or_true]
    · rw [decide_eq_false h2]; rfl) (jmp_VA h (atB i) rfl _ hi) run_ok
  refine this.mono fun x w' ⟨u, r, e1, e2, e3⟩ => ⟨?_, e3⟩
  rw [e1]
  congr 1
  have eb : brN.num (fnB w D (atB i) (mJ (D.blk i))).rho = (decide (cellI (D.blk i).pre 0 = 2) && !decide (cellI (D.blk i).pre 1 = 1)) := by
    show ((isE 8 2).num _ && !(isE 9 1).num _) = _
    rw [isN, isN, e8, e9]
  have ei : isB.num (fnB w D (atB i) (mJ (D.blk i))).rho = decide (cellI (D.blk i).pre 0 = 2) := by unfold isB; rw [isN, e8]
  have ec : caN.num (fnB w D (atB i) (mJ (D.blk i))).rho = decide (cellI (D.blk i).pre 0 = 4) := by unfold caN; rw [isN, e8]
  have rj : ∀ b G, (rowsJ (D.blk i))[b]? = some G → ∀ j, j < 16 → (fnB w D (atB i) (mJ (D.blk i))).rho (nm b j) = G j := fun b G e j hj => fn_row e hj
  unfold out at e2
  simp only [List.map_cons, List.map_nil, List.headD_cons, List.drop_succ_cons, List.drop_zero] at e2
  rw [eb, ei, ec] at e2
  by_cases h2 : cellI (D.blk i).pre 0 = 2
  · by_cases h1 : cellI (D.blk i).pre 1 = 1
    · rw [decide_eq_true h2, decide_eq_true h1] at e2
      exact ints_zeros (fun j hj => by unfold occJ; rw [if_pos h2, if_pos h1]) (show @VA (fnB w D (atB i) (mJ (D.blk i))) r (.g zeros16) u from e2)
    · rw [decide_eq_true h2, decide_eq_false h1] at e2
      exact ints_cells (fun j hj => (rj 2 _ rfl j hj).trans (by unfold occJ; rw [if_pos h2, if_neg h1])) (show @VA (fnB w D (atB i) (mJ (D.blk i))) r (.g (cells16 2)) u from e2)
  · by_cases h4 : cellI (D.blk i).pre 0 = 4
    · rw [decide_eq_false h2, decide_eq_true h4] at e2
      exact ints_cells (fun j hj => (rj 1 _ rfl j hj).trans (by unfold occJ; rw [if_neg h2, if_pos h4])) (show @VA (fnB w D (atB i) (mJ (D.blk i))) r (.g (cells16 1)) u from e2)
    · rw [decide_eq_false h2, decide_eq_false h4] at e2
      exact ints_cells (fun j hj => (rj 0 _ rfl j hj).trans (by unfold occJ; rw [if_neg h2, if_neg h4])) (show @VA (fnB w D (atB i) (mJ (D.blk i))) r (.g (cells16 0)) u from e2)
end
end Go.Proofs.YthdcahkedlijpaaGreat.occJump
namespace Go.Proofs.YthdcahkedlijpaaGreat.block
open Go.RowKit Go.Proofs.YthdcahkedlijpaaGreat.Am
set_option maxRecDepth 100000
set_option linter.unusedVariables false
set_option linter.unusedSectionVars false
noncomputable def f : FuncId := 52
noncomputable def F : Func := Tryz.f52
noncomputable def codeS : Code := loopAt F 0
noncomputable def keep : List (Nat × S) := [(2, .ptr 0 0), (3, .ptr 1 0)]
def hp : Hp := [(1, ⟨blkCells, true⟩), (0, ⟨fnCells, true⟩)]
noncomputable def hd : St := ⟨frOf F.ntmps (keep ++ [(5, .xi .i64 21)]), ⟨hp, 2⟩⟩
noncomputable def sN : St := ⟨frOf F.ntmps keep, ⟨hp, 2⟩⟩
noncomputable def sR : St := ⟨frOf F.ntmps [(4, .bool false)], ⟨[], 2⟩⟩
noncomputable def rV (b : Bool) : Oracle := rowG 76 [.g stmCells] (mB b)
noncomputable def rO : Oracle := rowG occurs.f [.g stmCells] (.a (.g (cells16 0)))
noncomputable def rF (b : Bool) : Oracle := rowG far.f [.g (cells16 0), .s (.xi .i64 2)] (mB b)
noncomputable def libS (l : List Oracle) : Know → Oracle := fun _ => orcs l
noncomputable def L1 : Lf := ((Lf.of (fnIv ++ [])).pin 6 1).pin 23 1
noncomputable def L3 : Lf := ((Lf.of (fnIv ++ [])).pin 6 1).pin 23 0
noncomputable def turn (l : List Oracle) (tb : Tabs) (us : List Upd) (x : X) (s1 : St) : Lf → Bool := turnT (rigP (libS l) tb noLoops) f fnFx [] us ⟨21, 0, 5⟩ codeS hd x s1
noncomputable def tbI : Tabs := tabF.app (tabB.app tabS)
theorem step : autoB (turn [rV true, rO, rF false] tbI [isU (.xi .i64 21) (.xi .i64 22)] .normal hd) .leaf L1 = true := by kernel_rfl
theorem badV : autoB (turn [rV false] tbI [] .ret sR) .leaf L1 = true := by kernel_rfl
theorem badF : autoB (turn [rV true, rO, rF true] tbI [] .ret sR) .leaf L1 = true := by kernel_rfl
theorem stop : autoB (turn [] (tabF.app tabB) [] (.exit 0) sN) .leaf L3 = true := by kernel_rfl
noncomputable def rVJ (b : Bool) : Oracle := rowG 78 [.g jmpCells] (mB b)
noncomputable def rOJ : Oracle := rowG occJump.f [.g jmpCells] (.a (.g (cells16 0)))
noncomputable def row (x : X) (s1 : St) (K : Know) : Loops := rowL 3 ⟨21, 0, 5⟩ (@thU K [isU (.xi .i64 21) (.int .i64 0)]) hd x s1
def tgE : E := .or (.or (isE 8 3) (isE 8 5)) (.and (isE 72 1) (.or (.not (isE 8 2)) (.or (isE 74 1) (isE 73 1))))
def fxB : Fx := ⟨[], { fnFx.xt with eq := (16, 15, 74) :: fnFx.xt.eq }⟩
noncomputable def run (l : List Oracle) (x : X) (s1 : St) (es : List E) (g : List Bool → V) : Lf → Bool := callT (rigP (libS l) (tabF.app tabB) fun K => rowsL [(f, row x s1 K)]) f fxB [] es g [.g fnCells, .g blkCells]
noncomputable def LB : Lf := (Lf.of (fnIv ++ [])).pin 6 1
def b2 (i : Nat) (t : HT) : HT := .both i 1 t
def tgT : HT := .on 8 2 (b2 72 .leaf) (.on 8 3 (b2 72 (b2 74 (b2 73 .leaf))) (.on 8 4 .leaf (.on 8 5 (b2 72 .leaf) (.on 8 6 .leaf (b2 72 .leaf)))))
theorem run_s : autoB (run [] .ret sR [] fun _ => V.s (.bool false)) .leaf LB = true := by kernel_rfl
theorem run_v : autoB (run [rVJ false] (.exit 0) sN [] fun _ => V.s (.bool false)) .leaf LB = true := by kernel_rfl
theorem run_f : autoB (run [rVJ true, rOJ, rF true] (.exit 0) sN [] fun _ => V.s (.bool false)) .leaf LB = true := by kernel_rfl
theorem run_t : autoB (run [rVJ true, rOJ, rF false] (.exit 0) sN [tgE] fun bs => V.s (.bool (bs.headD false))) tgT LB = true := by kernel_rfl
theorem tag : tagsOk (F.body.getD .skip) 0 3 = true := by kernel_rfl
end Go.Proofs.YthdcahkedlijpaaGreat.block
namespace Go.Proofs.YthdcahkedlijpaaGreat.madeR
open Go.RowKit Go.Proofs.YthdcahkedlijpaaGreat.Am
set_option maxRecDepth 100000
set_option linter.unusedVariables false
set_option linter.unusedSectionVars false
noncomputable def f : FuncId := 36
noncomputable def F : Func := Tryz.f36
noncomputable def codeT : Code := loopAt F 0
noncomputable def codeB : Code := loopAt F 1
noncomputable def keep : List (Nat × S) := [(1, .ptr 0 0)]
def hp : Hp := [(0, ⟨fnCells, true⟩)]
noncomputable def hdT : St := ⟨frOf F.ntmps (keep ++ [(3, .xi .i64 58)]), ⟨hp, 1⟩⟩
noncomputable def hdB : St := ⟨frOf F.ntmps (keep ++ [(4, .xi .i64 4)]), ⟨hp, 1⟩⟩
noncomputable def sN : St := ⟨frOf F.ntmps keep, ⟨hp, 1⟩⟩
noncomputable def sR : St := ⟨frOf F.ntmps [(2, .bool false)], ⟨[], 1⟩⟩
noncomputable def L1 : Lf := (Lf.of (fnIv ++ [])).pin 60 1
noncomputable def L3 : Lf := (Lf.of (fnIv ++ [])).pin 60 0
noncomputable def testT (tb : Tabs) (giv : List (E × Bool)) (us : List Upd) (x : X) (s1 : St) : Lf → Bool := turnT (rigP libN tb noLoops) f fnFx giv us ⟨4, 0, 3⟩ codeT hdT x s1
theorem stepT : autoB (testT (tabF.app tabT) [(head.okN, true)] [isU (.xi .i64 58) (.xi .i64 59)] .normal hdT) head.hTy L1 = true := by kernel_rfl
theorem badT : autoB (testT (tabF.app tabT) [(head.okN, false)] [] .ret sR) head.hTy L1 = true := by kernel_rfl
theorem stopT : autoB (testT tabF [] [] (.exit 0) sN) .leaf L3 = true := by kernel_rfl
noncomputable def rB (b : Bool) : Know → Oracle := fun _ => rowG block.f [.g fnCells, .g blkCells] (mB b)
noncomputable def testB (lib : Know → Oracle) (tb : Tabs) (us : List Upd) (x : X) (s1 : St) : Lf → Bool := turnT (rigP lib tb noLoops) f fnFx [] us ⟨4, 0, 3⟩ codeB hdB x s1
noncomputable def LB1 : Lf := (Lf.of (fnIv ++ [])).pin 6 1
noncomputable def LB0 : Lf := (Lf.of (fnIv ++ [])).pin 6 0
theorem stepB : autoB (testB (rB true) (tabF.app tabB) [isU (.xi .i64 4) (.xi .i64 5)] .normal hdB) .leaf LB1 = true := by kernel_rfl
theorem badB : autoB (testB (rB false) (tabF.app tabB) [] .ret sR) .leaf LB1 = true := by kernel_rfl
theorem stopB : autoB (testB libN tabF [] (.exit 2) sN) .leaf LB0 = true := by kernel_rfl
noncomputable def rowT (x : X) (s1 : St) (K : Know) : Loops := rowL 5 ⟨4, 0, 3⟩ (@thU K [isU (.xi .i64 58) (.int .i64 0)]) hdT x s1
noncomputable def rowB (x : X) (s1 : St) (K : Know) : Loops := rowL 12 ⟨4, 0, 3⟩ (@thU K [isU (.xi .i64 4) (.int .i64 0)]) hdB x s1
noncomputable def libM (b : Bool) : Know → Oracle := fun _ => rowG many.fB [.g fnCells] (mB b)
noncomputable def run (m : Bool) (tb : Tabs) (rows : Know → List (FuncId × Loops)) (giv : List (E × Bool)) (es : List E) (g : List Bool → V) : Lf → Bool := callT (rigP (libM m) tb fun K => rowsL (rows K)) f fnFx giv es g [.g fnCells]
def guardE : E := ands [.not (.lt 2 1), .not (.lt 3 1), .not (.lt 0 0), .lt 0 9, isE 76 1]
def gT : HT := .by 2 1 .leaf (.by 3 1 .leaf (.by 0 0 .leaf (.by 0 9 (.both 76 1 .leaf) .leaf)))
noncomputable def LG : Lf := Lf.of (fnIv ++ [])
noncomputable def LS : Lf := (((((Lf.of (fnIv ++ [])).lo 2 1).lo 3 1).lo 0 0).hi 0 8).pin 76 1
theorem run_m : autoB (run true tabF (fun _ => []) [] [] fun _ => V.s (.bool false)) .leaf LG = true := by kernel_rfl
theorem run_g : autoB (run false tabF (fun _ => []) [(guardE, false)] [] fun _ => V.s (.bool false)) gT LG = true := by kernel_rfl
theorem run_t : autoB (run false tabF (fun K => [(f, rowT .ret sR K)]) [] [] fun _ => V.s (.bool false)) .leaf LS = true := by kernel_rfl
theorem run_p : autoB (run false (tabF.app tab0) (fun K => [(f, rowT (.exit 0) sN K)]) [(head.okN, true), (isE 62 0, false)] [] fun _ => V.s (.bool false)) head.hTy LS = true := by kernel_rfl
theorem run_b : autoB (run false (tabF.app tab0) (fun K => [(f, rowT (.exit 0) sN K), (f, rowB .ret sR K)]) [(head.okN, true), (isE 62 0, true)] [] fun _ => V.s (.bool false)) head.hTy LS = true := by kernel_rfl
theorem run_ok : autoB (run false (tabF.app tab0) (fun K => [(f, rowT (.exit 0) sN K), (f, rowB (.exit 2) sN K)]) [(head.okN, true), (isE 62 0, true)] [] fun _ => V.s (.bool true)) head.hTy LS = true := by kernel_rfl
theorem tagT : tagsOk (F.body.getD .skip) 0 5 = true := by kernel_rfl
theorem tagB : tagsOk (F.body.getD .skip) 1 12 = true := by kernel_rfl
end Go.Proofs.YthdcahkedlijpaaGreat.madeR
