/- The number of a called function; whether a type is that of numbers. -/
import Derived.Test.YtglmonlofejcgaaDoorPgB
import Derived.Test.YtglmonlofejcgaaDoorTextV
namespace Go.Proofs.YtglmonlofejcgaaDoor.prg
open Go.RowKit Go.Proofs.YtglmonlofejcgaaDoor Go.Proofs.YtglmonlofejcgaaDoor.Am Go.Proofs.YtglmonlofejcgaaDoor.loan Go.Proofs.YtglmonlofejcgaaDoor.bld Go.Proofs.YtglmonlofejcgaaDoor.txt
set_option linter.unusedVariables false
set_option maxRecDepth 100000
theorem fn_g : (jmRun ((Lf.of (ivU 16)).lo 6 8) && jmRun ((Lf.of (ivU 16)).hi 6 (-1))) = true := by kernel_rfl
theorem fn_range {w : World} {v : Value} {pre : List Value} {sv : Value} {post : List Value} {els : List (List Value)} (hj : JumpIs w v pre sv post els) (h : okJ pre els post = true) : 0 ≤ cellI pre 6 ∧ cellI pre 6 ≤ 7 := by
 have hl := len_flat hj
 have lp := len_pre hj
 let us : List Value := flatJ pre els post ++ (bitsJ pre els post).map (Value.int .i64)
 have hk : All2 Kd.ok (kJ ++ [.i .i64, .i .i64, .i .i64]) us := (ok_flat hj).app ⟨⟨_, rfl, by have := b2i_le (els.all fun el => (okOpE 0).val el); show (-9223372036854775808 : Int) ≤ _; omega, by have := b2i_le (els.all fun el => (okOpE 0).val el); show _ ≤ (9223372036854775807 : Int); omega⟩, ⟨_, rfl, by have := b2i_le ((okOpE 1).val (flatJ pre els post)); show (-9223372036854775808 : Int) ≤ _; omega, by have := b2i_le ((okOpE 1).val (flatJ pre els post)); show _ ≤ (9223372036854775807 : Int); omega⟩, ⟨_, rfl, by have := b2i_le ((okPlE 10).val (flatJ pre els post)); show (-9223372036854775808 : Int) ≤ _; omega, by have := b2i_le ((okPlE 10).val (flatJ pre els post)); show _ ≤ (9223372036854775807 : Int); omega⟩, trivial⟩
 have h0 : (Lf.of (ivU 16)).Holds (cellI us) (fun _ => []) := ivU_ok hk rfl
 have ea : ∀ i, i < 13 → cellI us i = cellI (flatJ pre els post) i := fun i hi => cellI_lt (by omega)
 have ep : ∀ i, i < 9 → cellI us i = cellI pre i := fun i hi => (ea i (by omega)).trans (by unfold flatJ; exact cellI_lt (by omega))
 have eb : ∀ j m, (bitsJ pre els post)[j]? = some m → cellI us (13 + j) = m := fun j m hm => by
  show cellI (flatJ pre els post ++ _) _ = _
  rw [cellI_ge hl]
  unfold cellI
  rw [List.getElem?_map, hm]
  rfl
 have e14 : cellI us 14 = b2i ((okOpE 1).val (flatJ pre els post)) := eb 1 _ rfl
 have e15 : cellI us 15 = b2i ((okPlE 10).val (flatJ pre els post)) := eb 2 _ rfl
 have idr : ∀ e : E, e.ren (fun i => i) = e := fun e => by
  induction e with
  | lt i c => rfl
  | zero l => simp [E.ren]
  | and a b ha hb => rw [E.ren, ha, hb]
  | or a b ha hb => rw [E.ren, ha, hb]
  | not a ha => rw [E.ren, ha]
 have sm : ∀ e : E, e.bd 13 = true → e.num (cellI us) = e.val (flatJ pre els post) := fun e he => by
  rw [E.val_num]
  have := E.num_ren (f := fun i => i) he ea
  rwa [idr] at this
 have sp : ∀ e : E, e.bd 9 = true → e.num (cellI us) = e.num (cellI pre) := fun e he => by
  have := E.num_ren (f := fun i => i) he ep
  rwa [idr] at this
 have one : ∀ i c, (isE i c).num (cellI us) = decide (cellI us i = c) := fun i c => by show (decide _ && true) = _; rw [Bool.and_true]
 have hg : ∀ p ∈ jmG, p.1.num (cellI us) = p.2 := fun p hp => by
  simp only [jmG, List.mem_cons, List.not_mem_nil, or_false] at hp
  rcases hp with rfl | rfl | rfl
  ·unfold okJ at h
   rw [E.val_num] at h
   exact h
  ·refine iffE_num ?_
   rw [one, e14, made.dec_b2i, sm _ rfl]
  ·refine iffE_num ?_
   rw [one, e15, made.dec_b2i, sm _ rfl]
 have c6 := ep 6 (by decide)
 have r := fn_g
 rw [Bool.and_eq_true] at r
 constructor
 ·apply Decidable.byContradiction; intro hc; exact cannot r.2 (h0.hi (i := 6) (c := -1) (by omega)) hg
 ·apply Decidable.byContradiction; intro hc; exact cannot r.1 (h0.lo (i := 6) (c := 8) (by omega)) hg
def intT (t : List Value) : Bool := decide (cellI t 0 = 1)
theorem code_runs : types8.all (fun p => sayV (.a (.s (.bool (decide (p.1 = 1))))) (runY 61 p)) = true := by kernel_rfl
theorem code_c {t : List Value} (h : All2 Kd.ok [.i .u8, .i .u8] t) (hk : okTy t = true) (W : World) : Calls Tryd.prog 61 #[.agg t.toArray] W (bld.Ans W (.bool (intT t))) := by
 obtain ⟨p, hp, rfl⟩ := types_mem h hk
 refine (run_calls W (List.all_eq_true.1 code_runs p hp)).mono ?_
 rintro e w' ⟨u, rfl, ⟨r, hu⟩, hb⟩
 refine ⟨?_, hb⟩
 rw [show u = .bool (decide (p.1 = 1)) from hu]
 unfold intT typV cellI codeI
 simp
 omega
theorem fn_calls_ok {w : World} {v : Value} {D : FnD} (h : FnOk' w v D) (hc : check.chkF D = 0) : ∀ b ∈ D.bs, cellI b.pre 0 = 4 → 0 ≤ cellI b.pre 6 := fun b hb _ => (fn_range (txt.blk_jump (h.blk b hb)) ((txt.txt_ok hc).jm b hb)).1
end Go.Proofs.YtglmonlofejcgaaDoor.prg
