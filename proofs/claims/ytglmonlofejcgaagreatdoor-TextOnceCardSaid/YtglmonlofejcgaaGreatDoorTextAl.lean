/- The chapter's example, and that it is as it should be: alive. -/
import Derived.Test.YtglmonlofejcgaaGreatDoorTextN
import Derived.Test.YtglmonlofejcgaaGreatDoorTextV
set_option maxHeartbeats 4000000
set_option maxRecDepth 100000
open List renaming mem_singleton → apu
set_option linter.unusedVariables false
namespace Go.Proofs.YtglmonlofejcgaaGreatDoor
namespace txt
open Go.RowKit Am loan bld
def exS : List Value := [.int .u8 2, .int .i64 0, .bool false, .int .u8 0, .int .u8 0, .int .u8 0, .int .u8 0, .int .u8 0, .int .i64 0, .int .i64 0, .bool false, .int .u8 0, .int .u8 0, .int .i64 0, .int .i64 0, .bool false, .int .u8 0, .int .i64 0, .bool false, .int .u8 0, .int .u8 1, .int .i64 1, .int .i64 0, .bool false, .int .u8 0, .int .i64 0]
def exB (s : Value) : bK := ⟨s, [.int .u8 3, .int .u8 0, .int .i64 0, .int .i64 0, .bool false, .int .u8 0, .int .i64 0, .int .i64 0, .int .i64 0], .slice none 0 0, [.int .i64 0, .bool false, .int .u8 0], [exS], []⟩
def exD (lv bv s : Value) : FnD := ⟨0, false, lv, bv, [[.int .u8 1, .int .u8 0]], [exB s], ⟨.slice none 0 0, []⟩⟩
def exC : FnD := ⟨0, false, Ul, Ul, [[.int .u8 1, .int .u8 0]], [exB Ul], ⟨Ul, []⟩⟩
theorem a2L (lv bv s : Value) : (exD lv bv s).core = exC := rfl
theorem akw : check.jK exC = 0 := by kernel_rfl
theorem MZ (lv bv s : Value) : check.jK (exD lv bv s) = 0 := by rw [<- adq, a2L]; exact akw
def exT : List UInt8 := [102, 110, 32, 48, 32, 40, 48, 41, 10, 120, 48, 58, 32, 105, 110, 116, 10, 98, 48, 58, 10, 32, 32, 112, 114, 105, 110, 116, 32, 49, 10, 32, 32, 114, 101, 116, 117, 114, 110, 10]
theorem adQ : textF exC 0 = exT := by kernel_rfl
theorem aiG (lv bv s : Value) : textF (exD lv bv s) 0 = exT := by
 rw [zA (D := exC) (D' := exD lv bv s) (by rw [a2L]; rfl) 0]; exact adQ
theorem a4s : ak Kd.ok vW exS := by
 unfold exS
 refine ⟨⟨_, rfl, by decide, by decide⟩, ⟨_, rfl, by decide, by decide⟩, ⟨_, rfl⟩, ⟨_, rfl, by decide, by decide⟩, ⟨_, rfl, by decide, by decide⟩, ⟨_, rfl, by decide, by decide⟩, ⟨_, rfl, by decide, by decide⟩, ⟨_, rfl, by decide, by decide⟩, ⟨_, rfl, by decide, by decide⟩, ⟨_, rfl, by decide, by decide⟩, ⟨_, rfl⟩, ⟨_, rfl, by decide, by decide⟩, ⟨_, rfl, by decide, by decide⟩, ⟨_, rfl, by decide, by decide⟩, ⟨_, rfl, by decide, by decide⟩, ⟨_, rfl⟩, ⟨_, rfl, by decide, by decide⟩, ⟨_, rfl, by decide, by decide⟩, ⟨_, rfl⟩, ⟨_, rfl, by decide, by decide⟩, ⟨_, rfl, by decide, by decide⟩, ⟨_, rfl, by decide, by decide⟩, ⟨_, rfl, by decide, by decide⟩, ⟨_, rfl⟩, ⟨_, rfl, by decide, by decide⟩, ⟨_, rfl, by decide, by decide⟩, trivial⟩
def ap9 (w : World) (e : Ending) (w' : World) : Prop := ∃ A1 c1 A2 c2 s, e = .returned (.agg #[.int .i64 0, .bool false, .slice A1 1 c1, .slice A2 1 c2]) /\ aV w' (.agg #[.int .i64 0, .bool false, .slice A1 1 c1, .slice A2 1 c2]) (exD (.slice A1 1 c1) (.slice A2 1 c2) s) /\ Below w.heap.size w w'
theorem ada (w : World) (sz : Nat) : cZ w (.slice none 0 0) sz [] := ⟨⟨none, 0, rfl⟩, by simp, fun i el h => by simp at h, fun i el h => by simp at h, fun h => absurd rfl h⟩
theorem ao3 {w : World} {H1 H2 H3 : Nat} {t1 t2 t3 : TypeId} (h1 : w.heap[H1]? = some (.cells #[.int .u8 1, .int .u8 0] t1 (0, 0))) (h2 : w.heap[H2]? = some (.cells exS.toArray t2 (0, 0))) (h3 : w.heap[H3]? = some (.cells (exB (.slice (some ⟨H2, 0, none⟩) 1 1)).cells.toArray t3 (0, 0))) :
  aV w (.agg #[.int .i64 0, .bool false, .slice (some ⟨H1, 0, none⟩) 1 1, .slice (some ⟨H3, 0, none⟩) 1 1]) (exD (.slice (some ⟨H1, 0, none⟩) 1 1) (.slice (some ⟨H3, 0, none⟩) 1 1) (.slice (some ⟨H2, 0, none⟩) 1 1)) := by
 refine ⟨rfl, ⟨0, rfl, by decide, by decide⟩, cZ.of_block h1 rfl (by decide), fun t ht => ?_, cZ.of_block h3 rfl (by decide), fun b hb => ?_⟩
 ·rw [apu.1 ht]
  exact ⟨⟨_, rfl, by decide, by decide⟩, ⟨_, rfl, by decide, by decide⟩, trivial⟩
 ·rw [apu.1 hb]
  refine ⟨cZ.of_block h2 rfl (by decide), fun s hs => ?_, ?_, ada w 5, fun o ho => (by cases ho), ?_⟩
  ·rw [apu.1 hs]; exact a4s
  ·exact ⟨⟨_, rfl, by decide, by decide⟩, ⟨_, rfl, by decide, by decide⟩, ⟨_, rfl, by decide, by decide⟩, ⟨_, rfl, by decide, by decide⟩, ⟨_, rfl⟩, ⟨_, rfl, by decide, by decide⟩, ⟨_, rfl, by decide, by decide⟩, ⟨_, rfl, by decide, by decide⟩, ⟨_, rfl, by decide, by decide⟩, trivial⟩
  ·exact ⟨⟨_, rfl, by decide, by decide⟩, ⟨_, rfl⟩, ⟨_, rfl, by decide, by decide⟩, trivial⟩
theorem apj (w : World) : Calls Tryz.prog 31 #[] w (ap9 w) := by
 go_enter Tryz.func31, Tryz.ntmps31
 go_wp2_with fail
 refine bodyPost_ret (results_cell_row rfl _ _ w.heap.size tFn #[.int .i64 0, .bool false, .slice (some ⟨w.heap.size + 1, 0, none⟩) 1 1, .slice (some ⟨w.heap.size + 1 + 1 + 1, 0, none⟩) 1 1] (0, 0) _ rfl (jX (jX (jX (aX rfl)))) Tryz.underlying25 rfl (by kernel_rfl)) rfl ?_
 refine ⟨_, _, _, _, _, rfl, ao3 (jX (jX (aX (by simp)))) (jX (aX (by simp))) (aX (by simp)), ?_⟩
 exact ((((Below.refl _ _).alloc (Nat.le_refl _) _).alloc (by simp) _).alloc (by simp; omega) _).alloc (by simp; omega) _
theorem ajs {w : World} {v lv bv s : Value} (h : aV w v (exD lv bv s)) : Calls Tryz.prog 11 #[v, .agg #[.int .i64 0, .int .i64 1]] w (anh 4 0 w) :=
 ajc h (sW h (MZ _ _ _)) (by have := Zc h; rwa [MZ] at this) (pb := 0) (pi := 1) (show 0 < (exD lv bv s).bs.length from Nat.zero_lt_one) (show 1 <= Qm (exD lv bv s).bs 0 from Nat.le_refl 1)
theorem aiS {w : World} {v lv bv s : Value} (h : aV w v (exD lv bv s)) (kt : dL w) : Calls Tryz.prog 9 #[v, .int .i64 0] w (rJ exT 0 w) := by
 have := a0G h (sW h (MZ _ _ _)) (Ju h kt (MZ _ _ _)) (n := 0) (by decide) (by decide) (by have := Zc h; rwa [MZ] at this)
 rwa [aiG] at this
theorem JA {w : World} (kt : dL w) : Calls Tryz.prog 18 #[] w (bld.Ans w (.bool true)) := by
 have HX := Lib.hid (fun W => apj W)
 have HK := Lib.hid kt
 clear kt
 go_enter Tryz.func18, Tryz.ntmps18
 go_upto_region 2 with (first | (go_at_call 31; refine (HX.out _).mono ?_; rintro e1 w1 ⟨A1, c1, A2, c2, s1, rfl, hf1, b1⟩) | (go_at_call 9; refine (aiS hf1 (gB HK.out b1)).mono ?_; rintro e2 w2 ⟨rfl, b2⟩))
 have b02 := b1.trans (b2.mono b1.size)
 clear hf1 b1 b2
 go_upto_region 3 with (first | (go_at_call 31; refine (HX.out _).mono ?_; rintro e3 w3 ⟨A3, c3, A4, c4, s3, rfl, hf3, b3⟩) | (go_at_call 11; refine (ajs hf3).mono ?_; rintro e4 w4 ⟨rfl, b4⟩))
 unfold exT
 go_wp2_with fail
 go_ret
 exact ⟨rfl, b02.trans ((b3.trans (b4.mono b3.size)).mono b02.size)⟩
end txt
end Go.Proofs.YtglmonlofejcgaaGreatDoor
