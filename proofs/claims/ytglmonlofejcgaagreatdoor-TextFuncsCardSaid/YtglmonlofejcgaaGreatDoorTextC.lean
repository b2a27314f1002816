/- stmt.Text: the texts of statements. text.Func: the text of a sound function with a number; else why not. What text.Func and the reference's Func call: the texts of numbers, types, statements, jumps. -/
import Derived.Test.YtglmonlofejcgaaGreatDoorTexts5B
import Derived.Test.YtglmonlofejcgaaGreatDoorTextFn
import Derived.Test.YtglmonlofejcgaaGreatDoorTextT
set_option linter.unusedVariables false
set_option maxRecDepth 100000
namespace Go.Proofs.YtglmonlofejcgaaGreatDoor.Am
open Go.RowKit
theorem aby : (abv.leaves ahM).all aB = true := by kernel_rfl
theorem ad9 : (a9f.leaves ahs).all aB = true := by kernel_rfl
theorem a9l : (a6S.leaves ai5).all aB = true := by kernel_rfl
theorem a3x : (UZ.leaves a1l).all aB = true := by kernel_rfl
theorem a4E : (Ur.leaves a1a).all aB = true := by kernel_rfl
theorem a5S : (UA.leaves a0t).all aB = true := by kernel_rfl
theorem a3Z : (U5.leaves a0x).all aB = true := by kernel_rfl
theorem a5x : (Vh.leaves a0a).all aB = true := by kernel_rfl
theorem a2p : (Vz.leaves a1M).all aB = true := by kernel_rfl
theorem a3D : (UM.leaves ZG).all aB = true := by kernel_rfl
theorem a4e : (VH.leaves ZE).all aB = true := by kernel_rfl
theorem a3S : (Ud.leaves a1g).all aB = true := by kernel_rfl
theorem a6j : (Uo.leaves ZV).all aB = true := by kernel_rfl
theorem a5i : (V5.leaves a0l).all aB = true := by kernel_rfl
theorem a4D : (Vd.leaves a1m).all aB = true := by kernel_rfl
theorem a6g : (Uw.leaves a0G).all aB = true := by kernel_rfl
theorem a2U : (UK.leaves a0B).all aB = true := by kernel_rfl
theorem a3Q : (Vr.leaves Zm).all aB = true := by kernel_rfl
theorem a3H : (WZ.leaves Zl).all aB = true := by kernel_rfl
theorem a6a : (UL.leaves ZF).all aB = true := by kernel_rfl
theorem a5L : (Vl.leaves a0p).all aB = true := by kernel_rfl
theorem a1U : (UF.leaves a1s).all aB = true := by kernel_rfl
theorem a3F : (X7.leaves a1p).all aB = true := by kernel_rfl
theorem a5k : (Xh.leaves a0c).all aB = true := by kernel_rfl
theorem a5l : (VX.leaves a1A).all aB = true := by kernel_rfl
theorem a3c : (Uh.leaves ZO).all aB = true := by kernel_rfl
theorem a5W : (Vj.leaves a1E).all aB = true := by kernel_rfl
theorem a5j : (WL.leaves a0N).all aB = true := by kernel_rfl
theorem a4V : (Xd.leaves ZN).all aB = true := by kernel_rfl
theorem a6i : (VR.leaves a1b).all aB = true := by kernel_rfl
theorem a4x : (Xa.leaves a02).all aB = true := by kernel_rfl
theorem a4Z : (Vs.leaves ZU).all aB = true := by kernel_rfl
theorem a5z : (Uu.leaves a1O).all aB = true := by kernel_rfl
theorem a2b : (Vo.leaves Zh).all aB = true := by kernel_rfl
theorem a2s : (WJ.leaves ZI).all aB = true := by kernel_rfl
theorem a4O : (WS.leaves a1B).all aB = true := by kernel_rfl
theorem a5d : (KG.leaves G8).all aB = true := by
 have e : KG.leaves G8 = U5.leaves a0x ++ Vh.leaves a0a := rfl
 rw [e]
 simp only [List.all_append, a3Z, a5x, Bool.and_self]
theorem a4S : (Ny.leaves GX).all aB = true := by
 have e : Ny.leaves GX = UA.leaves a0t ++ KG.leaves G8 := rfl
 rw [e]
 simp only [List.all_append, a5S, a5d, Bool.and_self]
theorem a5K : (KN.leaves Es).all aB = true := by
 have e : KN.leaves Es = Ny.leaves GX ++ Vz.leaves a1M := rfl
 rw [e]
 simp only [List.all_append, a4S, a2p, Bool.and_self]
theorem a5Y : (Jh.leaves GZ).all aB = true := by
 have e : Jh.leaves GZ = Uo.leaves ZV ++ V5.leaves a0l := rfl
 rw [e]
 simp only [List.all_append, a6j, a5i, Bool.and_self]
theorem a5M : (Ld.leaves G6).all aB = true := by
 have e : Ld.leaves G6 = Ud.leaves a1g ++ Jh.leaves GZ := rfl
 rw [e]
 simp only [List.all_append, a3S, a5Y, Bool.and_self]
theorem a3B : (LX.leaves GL).all aB = true := by
 have e : LX.leaves GL = Ld.leaves G6 ++ Vd.leaves a1m := rfl
 rw [e]
 simp only [List.all_append, a5M, a4D, Bool.and_self]
theorem a1Q : (Ji.leaves Hf).all aB = true := by
 have e : Ji.leaves Hf = LX.leaves GL ++ Uw.leaves a0G := rfl
 rw [e]
 simp only [List.all_append, a3B, a6g, Bool.and_self]
theorem a3V : (Jf.leaves G9).all aB = true := by
 have e : Jf.leaves G9 = VH.leaves ZE ++ Ji.leaves Hf := rfl
 rw [e]
 simp only [List.all_append, a4e, a1Q, Bool.and_self]
theorem a2g : (LH.leaves H8).all aB = true := by
 have e : LH.leaves H8 = Jf.leaves G9 ++ UK.leaves a0B := rfl
 rw [e]
 simp only [List.all_append, a3V, a2U, Bool.and_self]
theorem a2N : (LQ.leaves Gg).all aB = true := by
 have e : LQ.leaves Gg = UM.leaves ZG ++ LH.leaves H8 := rfl
 rw [e]
 simp only [List.all_append, a3D, a2g, Bool.and_self]
theorem a4Y : (LP.leaves He).all aB = true := by
 have e : LP.leaves He = Vl.leaves a0p ++ UF.leaves a1s := rfl
 rw [e]
 simp only [List.all_append, a5L, a1U, Bool.and_self]
theorem a5Q : (Je.leaves Hr).all aB = true := by
 have e : Je.leaves Hr = UL.leaves ZF ++ LP.leaves He := rfl
 rw [e]
 simp only [List.all_append, a6a, a4Y, Bool.and_self]
theorem a6d : (Kz.leaves H7).all aB = true := by
 have e : Kz.leaves H7 = Je.leaves Hr ++ X7.leaves a1p := rfl
 rw [e]
 simp only [List.all_append, a5Q, a3F, Bool.and_self]
theorem a2d : (Nz.leaves Gx).all aB = true := by
 have e : Nz.leaves Gx = Kz.leaves H7 ++ Xh.leaves a0c := rfl
 rw [e]
 simp only [List.all_append, a6d, a5k, Bool.and_self]
theorem a5C : (NY.leaves Gy).all aB = true := by
 have e : NY.leaves Gy = WZ.leaves Zl ++ Nz.leaves Gx := rfl
 rw [e]
 simp only [List.all_append, a3H, a2d, Bool.and_self]
theorem a4w : (LC.leaves Gz).all aB = true := by
 have e : LC.leaves Gz = NY.leaves Gy ++ VX.leaves a1A := rfl
 rw [e]
 simp only [List.all_append, a5C, a5l, Bool.and_self]
theorem a3O : (Jk.leaves GY).all aB = true := by
 have e : Jk.leaves GY = Vr.leaves Zm ++ LC.leaves Gz := rfl
 rw [e]
 simp only [List.all_append, a3Q, a4w, Bool.and_self]
theorem a1S : (MX.leaves GU).all aB = true := by
 have e : MX.leaves GU = Jk.leaves GY ++ Uh.leaves ZO := rfl
 rw [e]
 simp only [List.all_append, a3O, a3c, Bool.and_self]
theorem a3i : (NU.leaves FX).all aB = true := by
 have e : NU.leaves FX = LQ.leaves Gg ++ MX.leaves GU := rfl
 rw [e]
 simp only [List.all_append, a2N, a1S, Bool.and_self]
theorem a6e : (Md.leaves G7).all aB = true := by
 have e : Md.leaves G7 = KN.leaves Es ++ NU.leaves FX := rfl
 rw [e]
 simp only [List.all_append, a5K, a3i, Bool.and_self]
theorem a3a : (JA.leaves GI).all aB = true := by
 have e : JA.leaves GI = Ur.leaves a1a ++ Md.leaves G7 := rfl
 rw [e]
 simp only [List.all_append, a4E, a6e, Bool.and_self]
theorem a3I : (NC.leaves Gq).all aB = true := by
 have e : NC.leaves Gq = Xd.leaves ZN ++ VR.leaves a1b := rfl
 rw [e]
 simp only [List.all_append, a4V, a6i, Bool.and_self]
theorem a4a : (MV.leaves Hg).all aB = true := by
 have e : MV.leaves Hg = WL.leaves a0N ++ NC.leaves Gq := rfl
 rw [e]
 simp only [List.all_append, a5j, a3I, Bool.and_self]
theorem a2j : (Ju.leaves Gu).all aB = true := by
 have e : Ju.leaves Gu = Vj.leaves a1E ++ MV.leaves Hg := rfl
 rw [e]
 simp only [List.all_append, a5W, a4a, Bool.and_self]
theorem a2q : (NM.leaves G5).all aB = true := by
 have e : NM.leaves G5 = Ju.leaves Gu ++ Xa.leaves a02 := rfl
 rw [e]
 simp only [List.all_append, a2j, a4x, Bool.and_self]
theorem a5p : (Jw.leaves Gt).all aB = true := by
 have e : Jw.leaves Gt = JA.leaves GI ++ NM.leaves G5 := rfl
 rw [e]
 simp only [List.all_append, a3a, a2q, Bool.and_self]
theorem aey : (Y6.leaves WE).all aB = true := by
 have e : Y6.leaves WE = UZ.leaves a1l ++ Jw.leaves Gt := rfl
 rw [e]
 simp only [List.all_append, a3x, a5p, Bool.and_self]
theorem a8v : (YH.leaves UN).all aB = true := by
 have e : YH.leaves UN = a6S.leaves ai5 ++ Y6.leaves WE := rfl
 rw [e]
 simp only [List.all_append, a9l, aey, Bool.and_self]
theorem aff : (Y0.leaves U4).all aB = true := by
 have e : Y0.leaves U4 = YH.leaves UN ++ Vs.leaves ZU := rfl
 rw [e]
 simp only [List.all_append, a8v, a4Z, Bool.and_self]
theorem ac2 : (XB.leaves WA).all aB = true := by
 have e : XB.leaves WA = Y0.leaves U4 ++ Uu.leaves a1O := rfl
 rw [e]
 simp only [List.all_append, aff, a5z, Bool.and_self]
theorem abu : (Yc.leaves WO).all aB = true := by
 have e : Yc.leaves WO = a9f.leaves ahs ++ XB.leaves WA := rfl
 rw [e]
 simp only [List.all_append, ad9, ac2, Bool.and_self]
theorem a3g : (Nl.leaves Gf).all aB = true := by
 have e : Nl.leaves Gf = WJ.leaves ZI ++ WS.leaves a1B := rfl
 rw [e]
 simp only [List.all_append, a2s, a4O, Bool.and_self]
theorem a5h : (Le.leaves GR).all aB = true := by
 have e : Le.leaves GR = Vo.leaves Zh ++ Nl.leaves Gf := rfl
 rw [e]
 simp only [List.all_append, a2b, a3g, Bool.and_self]
theorem a7r : (Xv.leaves WY).all aB = true := by
 have e : Xv.leaves WY = Yc.leaves WO ++ Le.leaves GR := rfl
 rw [e]
 simp only [List.all_append, abu, a5h, Bool.and_self]
theorem aeb : (a3Y.leaves a6b).all aB = true := by
 have e : a3Y.leaves a6b = abv.leaves ahM ++ Xv.leaves WY := rfl
 rw [e]
 simp only [List.all_append, aby, a7r, Bool.and_self]
theorem XK : Texts Tryz.prog gq 39 kSt dJ (fun us => stT (MI us)) vS2 := PN U2 (pls := tsP) (fun L xs => stX true kSt tsP L xs) (fun b0 L r xs us l hL d e ha h => @a8D b0 r L kSt tsP xs us hL d e ha _ l h) (by kernel_rfl) (sp := a3Y) aeb
end Go.Proofs.YtglmonlofejcgaaGreatDoor.Am
namespace Go.Proofs.YtglmonlofejcgaaGreatDoor.txt
open Go.RowKit Am loan bld
theorem ahQ (w : World) : Bld tB tU w.heap.size [] (w.alloc (.cells #[.pointer none, .slice none 0 0] tB)) := Lib.IsBuilderF.of (Lib.fresh_isBuilder tB tU w)
def Oa (l : List UInt8) (x : Int) (W : World) (e : Ending) (W' : World) : Prop := e = .returned (.tuple #[.string ⟨l.toArray⟩, .int .i64 x]) /\ Below W.heap.size W W'
def kK (f : FuncId) (w : World) (v : Value) (x : Int) : Prop := ∀ w1, Below w.heap.size w w1 -> Calls Tryz.prog f #[v] w1 (bld.Ans w1 (.int .i64 x))
set_option maxHeartbeats 4000000 in
set_option maxRecDepth 100000 in
theorem a9M {w : World} {v : Value} {D : FnD} (h : aT w v D) {x n : Int} (hx : x ≠ 0) (hC : kK 21 w v x) : Calls Tryz.prog 9 #[v, .int .i64 n] w (Oa [] x w) := by
 unfold kK at hC
 rw [h.eq] at hC |-
 have b0 : Below w.heap.size w (w.alloc (.cells #[.int .i64 D.p, .bool D.u, D.lv, D.bv] tFn)) := (Below.refl _ _).alloc (Nat.le_refl _) _
 have hx' : (x != 0) = true := by simpa using hx
 have HC := Lib.hid hC
 clear hC h
 go_enter Tryz.func9, Tryz.ntmps9
 go_wp2_with (go_at_call 21; refine (HC.out _ b0).mono ?_; rintro e w1 ⟨rfl, b1⟩)
 go_ret2
 exact ⟨rfl, b0.trans (b1.mono b0.size)⟩
set_option maxHeartbeats 4000000 in
set_option maxRecDepth 100000 in
theorem a9V {w : World} {v : Value} {D : FnD} (h : aT w v D) {n : Int} (hn : n < 0 \/ 8 <= n) (hC : kK 21 w v 0) : Calls Tryz.prog 9 #[v, .int .i64 n] w (Oa [] 2 w) := by
 unfold kK at hC
 rw [h.eq] at hC |-
 have b0 : Below w.heap.size w (w.alloc (.cells #[.int .i64 D.p, .bool D.u, D.lv, D.bv] tFn)) := (Below.refl _ _).alloc (Nat.le_refl _) _
 have HC := Lib.hid hC
 clear hC h
 rcases Int.lt_or_le n 0 with h0 | h0
 ·clear hn
  go_enter Tryz.func9, Tryz.ntmps9
  go_wp2_with (go_at_call 21; refine (HC.out _ b0).mono ?_; rintro e w1 ⟨rfl, b1⟩)
  go_ret2
  exact ⟨rfl, b0.trans (b1.mono b0.size)⟩
 ·have h8 : 8 <= n := by omega
  have hd0 : ¬ n < 0 := by omega
  have hd : decide (n >= 8) = true := decide_eq_true h8
  clear hn
  go_enter Tryz.func9, Tryz.ntmps9
  go_wp2_with (go_at_call 21; refine (HC.out _ b0).mono ?_; rintro e w1 ⟨rfl, b1⟩)
  go_ret2
  exact ⟨rfl, b0.trans (b1.mono b0.size)⟩
set_option maxHeartbeats 4000000 in
set_option maxRecDepth 100000 in
theorem ajo {w : World} {v : Value} {D : FnD} (h : aT w v D) (hL : Lim D) (hK : Cons w D) {n : Int} (h0 : 0 <= n) (h8 : n < 8) (hC : kK 21 w v 0) : Calls Tryz.prog 9 #[v, .int .i64 n] w (Oa (textF D n) 0 w) := by
 have hW := fun (w1 : World) (b : Nat) (acc : List UInt8) (hb : w.heap.size <= b) (hb1 : Below w.heap.size w w1) (hB : Bld tB tU b acc w1) (ha : acc.length <= 100000000) => Za h hL hK hb hb1 hB ha (n := n) (by omega)
 have hT := Qs hL n
 unfold kK at hC
 rw [h.eq] at hC hW |-
 have b0 : Below w.heap.size w (w.alloc (.cells #[.int .i64 D.p, .bool D.u, D.lv, D.bv] tFn)) := (Below.refl _ _).alloc (Nat.le_refl _) _
 have B0 : (w.alloc (.cells #[.int .i64 D.p, .bool D.u, D.lv, D.bv] tFn)).heap[w.heap.size]? = some (.cells #[.int .i64 D.p, .bool D.u, D.lv, D.bv] tFn (0, 0)) := cu rfl
 have HC := Lib.hid hC
 have HW := Lib.hid hW
 have hd0 : ¬ n < 0 := by omega
 have hd1 : ¬ 8 <= n := by omega
 have hd : decide (n >= 8) = false := decide_eq_false hd1
 have HN := Lib.hid (And.intro h0 h8)
 clear hC hW h hL hK h0 h8
 go_enter Tryz.func9, Tryz.ntmps9
 go_upto_region 6 with (go_at_call 21; refine (HC.out _ b0).mono ?_; rintro e w1 ⟨rfl, b1⟩)
 have b01 := b0.trans (b1.mono b0.size)
 have B1 := (b1.block _ (Array.getElem?_eq_some_iff.1 B0).1).trans B0
 have HB := Lib.hid (ahQ w1)
 have y0 : w1.cell? ⟨w.heap.size, 0, none⟩ = some (.int .i64 D.p) := by rw [cell_of_row w1 _ 0 _ tFn (0, 0) B1]; rfl
 have y1 : w1.cell? ⟨w.heap.size, 1, none⟩ = some (.bool D.u) := by rw [cell_of_row w1 _ 1 _ tFn (0, 0) B1]; rfl
 have y2 : w1.cell? ⟨w.heap.size, 2, none⟩ = some D.lv := by rw [cell_of_row w1 _ 2 _ tFn (0, 0) B1]; rfl
 have y3 : w1.cell? ⟨w.heap.size, 3, none⟩ = some D.bv := by rw [cell_of_row w1 _ 3 _ tFn (0, 0) B1]; rfl
 have hlt1 : w.heap.size < w1.heap.size := (Array.getElem?_eq_some_iff.1 B1).1
 have HB01 := Lib.hid b01
 have HT := Lib.hid hT
 clear hd0 hd1 hd B0 b0 b1 b01 B1 hT
 go_wp2_with (first | (go_at_call 22; refine (HW.out _ _ _ HB01.out.size (HB01.out.alloc HB01.out.size _) HB.out (by simp)).mono ?_; rintro e w2 ⟨rfl, hb2, wr2⟩) | (go_at_call 23; refine (Tryz.Builder_String_any_k w1.heap.size w1.heap.size _ w2 hb2 (Nat.le_of_lt hb2.lt)).mono ?_; rintro e w3 ⟨rfl, _, b3, _⟩))
 go_ret2
 have b12 : Below w.heap.size w w2 := (HB01.out.alloc HB01.out.size _).trans (wr2.bel.mono HB01.out.size)
 exact ⟨by simp, b12.trans (b3.mono HB01.out.size)⟩
end Go.Proofs.YtglmonlofejcgaaGreatDoor.txt
namespace Go.Proofs.YtglmonlofejcgaaGreatDoor.Am
open Go.RowKit
theorem Yw : ([1, 2, 3, 5].all fun c => J3 mS1 87 c 0) = true := by kernel_rfl
theorem VB : ((List.range 9).all fun n => J3 mS1 87 4 n) = true := by kernel_rfl
theorem akl {w : World} {v : Value} {pre : List Value} {sv : Value} {post : List Value} {els : List (List Value)} (kt : gq w) (hj : eU w v pre sv post els) (hok : okJ pre els post = true) :
  Calls Tryz.prog 87 #[v] w fun x w' => x = .returned (vS1 (pq pre els post)) /\ Below w.heap.size w w' := ZW hj SS Yw VB kt hok
end Go.Proofs.YtglmonlofejcgaaGreatDoor.Am
namespace Go.Proofs.YtglmonlofejcgaaGreatDoor.txt
open Go.RowKit Am loan bld
theorem wu {w : World} {b : bH} (h : lq w b) : eU w (.agg (b.pre ++ b.a :: b.post).toArray) b.pre b.a b.post b.ops :=
 ⟨rfl, h.BO, h.uX, ⟨h.opl.sl, h.opl.most, h.opl.at_, fun i el he => h.okd el (List.mem_of_getElem? he), h.opl.cap⟩⟩
theorem qg {w0 w : World} (k : gq w0) (h : Below w0.heap.size w0 w) : gq w := k.all fun b hb => h.block b (Nat.lt_of_lt_of_le hb k.size)
theorem Tf {w : World} {v : Value} {D : FnD} (h : aT w v D) (hc : check.oV D = 0) : Lim D := by
 have k := og hc
 exact ⟨k.l0, k.b0, k.l1, k.b1, k.s, fun b hb => alP (wu (h.blk b hb)) (k.jm b hb)⟩
theorem agR {w : World} {v : Value} {D : FnD} (h : aT w v D) (kt : gq w) (hc : check.oV D = 0) : Cons w D := by
 have k := og hc
 refine ⟨fun n h0 h1 W hW => Ko h0 h1 (qg kt hW), fun t ht W hW => ajW (h.lkd t ht) (k.ty t ht) W, fun b hb s hs W hW => ?_, fun b hb W hW => ?_⟩
 ·exact XK _ ((h.blk b hb).skd s hs) (k.st b hb s hs) W (qg kt hW)
 ·exact ajn W _ _ _ _ _ (qg kt hW) (wu ((h.frz hW.block).blk b hb)) (k.jm b hb)
theorem Vm {w : World} {v : Value} {D : FnD} (h : aT w v D) : kK 21 w v (check.oV D) := fun w1 hb => check.a2a (h.frz hb.block)
theorem VI {w : World} {v : Value} {D : FnD} (h : aT w v D) : kK 24 w v (check.oV D) := fun w1 hb => refC.Yk (h.frz hb.block)
end Go.Proofs.YtglmonlofejcgaaGreatDoor.txt
