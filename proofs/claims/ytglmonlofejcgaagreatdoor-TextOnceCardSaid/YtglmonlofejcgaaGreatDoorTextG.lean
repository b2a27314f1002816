/- pawnshopref07.Same: whether two functions say the same, wherever they lie. -/
import Derived.Test.YtglmonlofejcgaaGreatDoorTextV
import Derived.Test.YtglmonlofejcgaaGreatDoorJump7
set_option maxHeartbeats 8000000
set_option maxRecDepth 100000
open List renaming setIfInBounds_toArray → apu, set_cons_zero → apv, set_cons_succ → apw, size_toArray → apx, mem_of_getElem? → apy, forall_mem_cons → apz, getElem?_eq_getElem → apB, take_length → apC, take_add_one → apE, getElem?_map → apG, all_toArray → apL, all_eq_true → apM, map_append → apN
open Array renaming getElem?_eq_some_iff → apA, ext' → apH
open Bool renaming noConfusion → apD
open Int renaming natCast_nonneg → apF
open Nat renaming lt_or_ge → apI, zero_le → apK
set_option linter.unusedVariables false
namespace Go.Proofs.YtglmonlofejcgaaGreatDoor
namespace txt
open Go.RowKit Am loan bld
theorem a5R {P : Program} {t : TypeId} {x y : Operand} {a b : Array Value} {W : World} (h : P.eqGuardType P.depth t = false) : (eqGuard .neq t x y (.agg a) (.agg b)).run P W = .ok () W := by
 unfold eqGuard
 simp [go_sem, h]
theorem X0 {P : Program} {o : Oper} {a : Act} {W : World} (t r : TypeId) (x y : Operand) {u v : Array Value} {b : Bool} (ho : o.op = .binOp .neq t x y r) (hx : a.eval x = .agg u) (hy : a.eval y = .agg v) (hg : P.eqGuardType P.depth t = false) (hv : (binOp .neq t (.agg u) (.agg v)).run P W = .ok (.bool b) W) : (execOp a.eval o).run P W = .ok (.value (.bool b)) W := by
 unfold execOp
 simp only [ho, hx, hy, Sem.run_bind, a5R hg, hv, Result.andThen_ok, Sem.run_pure]
theorem adg {el : List Value} (h : ak Kd.ok vW el) : ∃ (a0 a1 a3 a4 a5 a6 a7 a8 a9 a11 a12 a13 a14 a16 a17 a19 a20 a21 a22 a24 a25 : Int) (a2 a10 a15 a18 a23 : Bool), el = [.int .u8 a0, .int .i64 a1, .bool a2, .int .u8 a3, .int .u8 a4, .int .u8 a5, .int .u8 a6, .int .u8 a7, .int .i64 a8, .int .i64 a9, .bool a10, .int .u8 a11, .int .u8 a12, .int .i64 a13, .int .i64 a14, .bool a15, .int .u8 a16, .int .i64 a17, .bool a18, .int .u8 a19, .int .u8 a20, .int .i64 a21, .int .i64 a22, .bool a23, .int .u8 a24, .int .i64 a25] := by
 obtain ⟨u0, t0, e0, k0, h0⟩ := aI h
 obtain ⟨a0, rfl, _⟩ := k0
 obtain ⟨u1, t1, e1, k1, h1⟩ := aI h0
 obtain ⟨a1, rfl, _⟩ := k1
 obtain ⟨u2, t2, e2, k2, h2⟩ := aI h1
 obtain ⟨a2, rfl⟩ := k2
 obtain ⟨u3, t3, e3, k3, h3⟩ := aI h2
 obtain ⟨a3, rfl, _⟩ := k3
 obtain ⟨u4, t4, e4, k4, h4⟩ := aI h3
 obtain ⟨a4, rfl, _⟩ := k4
 obtain ⟨u5, t5, e5, k5, h5⟩ := aI h4
 obtain ⟨a5, rfl, _⟩ := k5
 obtain ⟨u6, t6, e6, k6, h6⟩ := aI h5
 obtain ⟨a6, rfl, _⟩ := k6
 obtain ⟨u7, t7, e7, k7, h7⟩ := aI h6
 obtain ⟨a7, rfl, _⟩ := k7
 obtain ⟨u8, t8, e8, k8, h8⟩ := aI h7
 obtain ⟨a8, rfl, _⟩ := k8
 obtain ⟨u9, t9, e9, k9, h9⟩ := aI h8
 obtain ⟨a9, rfl, _⟩ := k9
 obtain ⟨u10, t10, e10, k10, h10⟩ := aI h9
 obtain ⟨a10, rfl⟩ := k10
 obtain ⟨u11, t11, e11, k11, h11⟩ := aI h10
 obtain ⟨a11, rfl, _⟩ := k11
 obtain ⟨u12, t12, e12, k12, h12⟩ := aI h11
 obtain ⟨a12, rfl, _⟩ := k12
 obtain ⟨u13, t13, e13, k13, h13⟩ := aI h12
 obtain ⟨a13, rfl, _⟩ := k13
 obtain ⟨u14, t14, e14, k14, h14⟩ := aI h13
 obtain ⟨a14, rfl, _⟩ := k14
 obtain ⟨u15, t15, e15, k15, h15⟩ := aI h14
 obtain ⟨a15, rfl⟩ := k15
 obtain ⟨u16, t16, e16, k16, h16⟩ := aI h15
 obtain ⟨a16, rfl, _⟩ := k16
 obtain ⟨u17, t17, e17, k17, h17⟩ := aI h16
 obtain ⟨a17, rfl, _⟩ := k17
 obtain ⟨u18, t18, e18, k18, h18⟩ := aI h17
 obtain ⟨a18, rfl⟩ := k18
 obtain ⟨u19, t19, e19, k19, h19⟩ := aI h18
 obtain ⟨a19, rfl, _⟩ := k19
 obtain ⟨u20, t20, e20, k20, h20⟩ := aI h19
 obtain ⟨a20, rfl, _⟩ := k20
 obtain ⟨u21, t21, e21, k21, h21⟩ := aI h20
 obtain ⟨a21, rfl, _⟩ := k21
 obtain ⟨u22, t22, e22, k22, h22⟩ := aI h21
 obtain ⟨a22, rfl, _⟩ := k22
 obtain ⟨u23, t23, e23, k23, h23⟩ := aI h22
 obtain ⟨a23, rfl⟩ := k23
 obtain ⟨u24, t24, e24, k24, h24⟩ := aI h23
 obtain ⟨a24, rfl, _⟩ := k24
 obtain ⟨u25, t25, e25, k25, h25⟩ := aI h24
 obtain ⟨a25, rfl, _⟩ := k25
 obtain rfl := mD h25
 subst e25 e24 e23 e22 e21 e20 e19 e18 e17 e16 e15 e14 e13 e12 e11 e10 e9 e8 e7 e6 e5 e4 e3 e2 e1 e0
 exact ⟨a0, a1, a3, a4, a5, a6, a7, a8, a9, a11, a12, a13, a14, a16, a17, a19, a20, a21, a22, a24, a25, a2, a10, a15, a18, a23, rfl⟩
theorem akm {a0 b0 : Int} {a1 b1 : Int} {a2 b2 : Bool} {a3 b3 : Int} {a4 b4 : Int} {a5 b5 : Int} {a6 b6 : Int} {a7 b7 : Int} {a8 b8 : Int} {a9 b9 : Int} {a10 b10 : Bool} {a11 b11 : Int} {a12 b12 : Int} {a13 b13 : Int} {a14 b14 : Int} {a15 b15 : Bool} {a16 b16 : Int} {a17 b17 : Int} {a18 b18 : Bool} {a19 b19 : Int} {a20 b20 : Int} {a21 b21 : Int} {a22 b22 : Int} {a23 b23 : Bool} {a24 b24 : Int} {a25 b25 : Int} (hne : Hid (([.int .u8 a0, .int .i64 a1, .bool a2, .int .u8 a3, .int .u8 a4, .int .u8 a5, .int .u8 a6, .int .u8 a7, .int .i64 a8, .int .i64 a9, .bool a10, .int .u8 a11, .int .u8 a12, .int .i64 a13, .int .i64 a14, .bool a15, .int .u8 a16, .int .i64 a17, .bool a18, .int .u8 a19, .int .u8 a20, .int .i64 a21, .int .i64 a22, .bool a23, .int .u8 a24, .int .i64 a25] : List Value) ≠ [.int .u8 b0, .int .i64 b1, .bool b2, .int .u8 b3, .int .u8 b4, .int .u8 b5, .int .u8 b6, .int .u8 b7, .int .i64 b8, .int .i64 b9, .bool b10, .int .u8 b11, .int .u8 b12, .int .i64 b13, .int .i64 b14, .bool b15, .int .u8 b16, .int .i64 b17, .bool b18, .int .u8 b19, .int .u8 b20, .int .i64 b21, .int .i64 b22, .bool b23, .int .u8 b24, .int .i64 b25])) (W : World) : (binOp .neq tSt (.agg #[.int .u8 a0, .int .i64 a1, .bool a2, .int .u8 a3, .int .u8 a4, .int .u8 a5, .int .u8 a6, .int .u8 a7, .int .i64 a8, .int .i64 a9, .bool a10, .int .u8 a11, .int .u8 a12, .int .i64 a13, .int .i64 a14, .bool a15, .int .u8 a16, .int .i64 a17, .bool a18, .int .u8 a19, .int .u8 a20, .int .i64 a21, .int .i64 a22, .bool a23, .int .u8 a24, .int .i64 a25]) (.agg #[.int .u8 b0, .int .i64 b1, .bool b2, .int .u8 b3, .int .u8 b4, .int .u8 b5, .int .u8 b6, .int .u8 b7, .int .i64 b8, .int .i64 b9, .bool b10, .int .u8 b11, .int .u8 b12, .int .i64 b13, .int .i64 b14, .bool b15, .int .u8 b16, .int .i64 b17, .bool b18, .int .u8 b19, .int .u8 b20, .int .i64 b21, .int .i64 b22, .bool b23, .int .u8 b24, .int .i64 b25])).run Tryz.prog W = .ok (.bool true) W := by
 go_simp
 intros
 subst_vars
 intro e
 subst e
 exact hne.out rfl
theorem ac7 {a0 a1 a3 a4 a5 a6 a7 a8 a9 a11 a12 a13 a14 a16 a17 a19 a20 a21 a22 a24 a25 : Int} {a2 a10 a15 a18 a23 : Bool} (W : World) : (binOp .neq tSt (.agg #[.int .u8 a0, .int .i64 a1, .bool a2, .int .u8 a3, .int .u8 a4, .int .u8 a5, .int .u8 a6, .int .u8 a7, .int .i64 a8, .int .i64 a9, .bool a10, .int .u8 a11, .int .u8 a12, .int .i64 a13, .int .i64 a14, .bool a15, .int .u8 a16, .int .i64 a17, .bool a18, .int .u8 a19, .int .u8 a20, .int .i64 a21, .int .i64 a22, .bool a23, .int .u8 a24, .int .i64 a25]) (.agg #[.int .u8 a0, .int .i64 a1, .bool a2, .int .u8 a3, .int .u8 a4, .int .u8 a5, .int .u8 a6, .int .u8 a7, .int .i64 a8, .int .i64 a9, .bool a10, .int .u8 a11, .int .u8 a12, .int .i64 a13, .int .i64 a14, .bool a15, .int .u8 a16, .int .i64 a17, .bool a18, .int .u8 a19, .int .u8 a20, .int .i64 a21, .int .i64 a22, .bool a23, .int .u8 a24, .int .i64 a25])).run Tryz.prog W = .ok (.bool false) W := by
 go_simp
theorem aiO {a b : List Value} (h : ak Kd.ok vW a) (k : ak Kd.ok vW b) {q : Bool} (hq : q = true ↔ a ≠ b) (W : World) : (binOp .neq tSt (.agg a.toArray) (.agg b.toArray)).run Tryz.prog W = .ok (.bool q) W := by
 obtain ⟨a0, a1, a3, a4, a5, a6, a7, a8, a9, a11, a12, a13, a14, a16, a17, a19, a20, a21, a22, a24, a25, a2, a10, a15, a18, a23, rfl⟩ := adg h
 cases q with
 | true =>
  obtain ⟨b0, b1, b3, b4, b5, b6, b7, b8, b9, b11, b12, b13, b14, b16, b17, b19, b20, b21, b22, b24, b25, b2, b10, b15, b18, b23, rfl⟩ := adg k
  exact akm (hne := Lib.hid (hq.1 rfl)) W
 | false =>
  have e := Classical.not_not.1 (fun hn => apD (hq.2 hn))
  rw [<- e]
  exact ac7 W
theorem wpList_want {P : Program} {ops : Array Oper} {Q : Exit -> Act -> World -> Prop} {o : Oper} {rest : List Oper} {a : Act} {w : World} (hw : Region.wanted o (yielded ops a.tmps) = true) (h : o.wp P a w (wpList P ops Q rest) Q) : wpList P ops Q (o :: rest) a w := by
 unfold wpList
 rw [if_pos hw]
 exact .inl h
theorem a1V {t : List Value} (h : ak Kd.ok [.i .u8, .i .u8] t) : ∃ k m : Int, t = [.int .u8 k, .int .u8 m] := by
 obtain ⟨v0, l0, q0, ⟨x0, rfl, _⟩, k0⟩ := aI h
 obtain ⟨v1, l1, rfl, ⟨x1, rfl, _⟩, k1⟩ := aI k0
 obtain rfl := mD k1
 exact ⟨x0, x1, q0⟩
def Vu (D' D : FnD) (w : World) (e : Ending) (w' : World) : Prop := ∃ b : Bool, e = .returned (.bool b) /\ (b = true ↔ D'.core = D.core) /\ Below w.heap.size w w'
theorem Ik {D' D : FnD} {i : Nat} {t t' : List Value} (h : D.ls[i]? = some t) (h' : D'.ls[i]? = some t') (hn : t' ≠ t) : false = true ↔ D'.core = D.core := by
 refine ⟨(fun e => apD e), fun e => ?_⟩
 have q := (vZ e).2.2.1
 rw [q, h] at h'
 exact absurd (Option.some.inj h').symm hn
theorem yG {D' D : FnD} {i : Nat} {x z : bK} (h : D.bs[i]? = some x) (h' : D'.bs[i]? = some z) (hn : z.core ≠ x.core) : false = true ↔ D'.core = D.core := by
 refine ⟨(fun e => apD e), fun e => ?_⟩
 have q := congrArg (fun l => l[i]?) (vZ e).2.2.2
 simp only [apG, h, h', Option.map_some, Option.some.injEq] at q
 exact absurd q hn
theorem take_same {α : Type} {a b : List α} {i : Nat} {x y : α} (h : a[i]? = some x) (k : b[i]? = some y) (h0 : a.take i = b.take i) (e : x = y) : a.take (i + 1) = b.take (i + 1) := by
 rw [apE, apE, h, k, h0, e]
theorem a8r {a b : List bK} {i : Nat} {x y : bK} (h : a[i]? = some x) (k : b[i]? = some y) (h0 : (a.take i).map bK.core = (b.take i).map bK.core) (e : x.core = y.core) : (a.take (i + 1)).map bK.core = (b.take (i + 1)).map bK.core := by
 rw [apE, apE, h, k, apN, apN, h0]
 simp [e]
theorem ES {x z : bK} : z.core = x.core ↔ z.st = x.st /\ z.pre = x.pre /\ z.post = x.post /\ z.ops = x.ops := by
 unfold bK.core
 rw [bK.mk.injEq]
 exact ⟨fun ⟨_, h1, _, h2, h3, h4⟩ => ⟨h3, h1, h2, h4⟩, fun ⟨h3, h1, h2, h4⟩ => ⟨rfl, h1, rfl, h2, h3, h4⟩⟩
theorem alI {w : World} {v v' : Value} {D D' : FnD} (h : aV w v D) (h' : aV w v' D') (e1 : D'.p = D.p) (e2 : D'.u = D.u) (e3 : D'.ls.length = D.ls.length) (e5 : D'.bs.length = D.bs.length) (hl : Lim D) (hl' : Lim D') : Calls Tryz.prog 13 #[v', v] w (Vu D' D w) := by
 obtain ⟨Al, cl, el, hml, hrl⟩ := cZ.rows h.locals (by decide)
 obtain ⟨Bl, dl, el', _, hrl'⟩ := cZ.rows h'.locals (by decide)
 obtain ⟨A, c, eb, hmb, hrb⟩ := aV.blks h
 obtain ⟨B, d, eb', _, hrb'⟩ := aV.blks h'
 have hnl := hl.l
 have hnb := hl.b
 rw [h'.eq, h.eq, e1, e2, el, el', eb, eb', e3, e5]
 have HE1 := Lib.hid e1
 have HE2 := Lib.hid e2
 have HE3 := Lib.hid e3
 have HE5 := Lib.hid e5
 have HLL := Lib.hid hl'
 have HF := Lib.hid h
 have HG := Lib.hid h'
 have HL := Lib.hid hl
 have HRL := Lib.hid hrl
 have HRM := Lib.hid hrl'
 have HRB := Lib.hid hrb
 have HRC := Lib.hid hrb'
 clear h h' hl hl' hrl hrl' hrb hrb' el el' eb eb' e1 e2 e3 e5
 obtain ⟨w1, hw1⟩ : ∃ w1, w1 = (w.alloc (.cells #[.int .i64 D.p, .bool D.u, .slice Bl D.ls.length dl, .slice B D.bs.length d] tFn)).alloc (.cells #[.int .i64 D.p, .bool D.u, .slice Al D.ls.length cl, .slice A D.bs.length c] tFn) := ⟨_, rfl⟩
 have HB1 := Lib.hid (show Below w.heap.size w w1 from by rw [hw1]; exact ((Below.refl _ _).alloc (Nat.le_refl _) _).alloc (by simp) _)
 have HX := Lib.hid (show Box w1 w.heap.size tFn (.int .i64 D.p) (.bool D.u) (.slice Bl D.ls.length dl) (.slice B D.bs.length d) from by rw [hw1]; exact (Box.mk rfl).more)
 have HY := Lib.hid (show Box w1 (w.heap.size + 1) tFn (.int .i64 D.p) (.bool D.u) (.slice Al D.ls.length cl) (.slice A D.bs.length c) from by rw [hw1]; exact Box.mk (by simp))
 have hw0 : w.heap.size <= w1.heap.size := HB1.out.size
 have hlx := HX.out.lt
 have hly := HY.out.lt
 obtain ⟨y0, y1, y2, y3⟩ := HX.out.cells
 obtain ⟨z0, z1, z2, z3⟩ := HY.out.cells
 go_enter Tryz.func13, Tryz.ntmps13
 go_upto_region 1 with fail
 rw [<- hw1]
 clear hw1
 go_upto_region 3 with fail
 go_wp2_with fail
 clear y0 y1 y2 y3 z0 z1 z2 z3
 go_loopg [5] D.ls.length (fun g s5 w8 => ∃ i : Nat, s5 = .int .i64 i /\ i <= D.ls.length /\ g = D.ls.length - i /\ D'.ls.take i = D.ls.take i /\ Below w1.heap.size w1 w8)
 case atStart => exact ⟨0, rfl, apK _, rfl, rfl, Below.refl _ _⟩
 case round =>
  obtain ⟨i, rfl, hi, rfl, htk, hbel⟩ := hrel
  have HTK := Lib.hid htk
  clear htk
  have h0I : (0 : Int) <= (i : Int) := apF _
  have HBL := Lib.hid hbel
  have HO := Lib.hid (HB1.out.trans (hbel.mono hw0))
  obtain ⟨y0, y1, y2, y3⟩ := (HX.out.below hbel).cells
  obtain ⟨z0, z1, z2, z3⟩ := (HY.out.below hbel).cells
  clear hbel
  rcases apI i D.ls.length with hlt | hge
  ·have hltI : (i : Int) < (D.ls.length : Int) := by omega
   obtain ⟨t, ht⟩ : ∃ t, D.ls[i]? = some t := ⟨_, apB hlt⟩
   obtain ⟨t', ht'⟩ : ∃ t, D'.ls[i]? = some t := ⟨_, apB (by rw [HE3.out]; exact hlt)⟩
   obtain ⟨k, m, rfl⟩ := a1V (HF.out.lkd t (apy ht))
   obtain ⟨k', m', rfl⟩ := a1V (HG.out.lkd t' (apy ht'))
   obtain ⟨ga, oa, ea, hga, hra⟩ := (HRM.out.below HO.out) i _ ht'
   obtain ⟨gc, oc, ec, hgc, hrc⟩ := (HRL.out.below HO.out) i _ ht
   have HT := Lib.hid ht
   have HT' := Lib.hid ht'
   subst ea ec
   have c0 := hra 0 _ rfl
   have c1 := hra 1 _ rfl
   have d0 := hrc 0 _ rfl
   have d1 := hrc 1 _ rfl
   simp only [Nat.add_zero] at c0 d0
   clear hra hrc ht ht' y0 y1 y3 z0 z1 z3
   go_upto_region 6 with fail
   refine bZ [⟨w.heap.size, 2, none⟩, ⟨w.heap.size + 1, 2, none⟩, ⟨ga, oa + i * 2, none⟩, ⟨ga, oa + i * 2 + 1, none⟩, ⟨gc, oc + i * 2, none⟩, ⟨gc, oc + i * 2 + 1, none⟩] [(0, true), (1, true), (2, true), (3, true), (4, true), (5, true), (6, true), (7, true), (8, true), (9, true), (10, true)] (by kernel_rfl) (by kernel_rfl) (by decide) (by kernel_rfl) (fun _ _ _ _ _ h => h) ?_
   have y2 : wr.drew.cell? ⟨w.heap.size, 2, none⟩ = _ := y2
   have z2 : wr.drew.cell? ⟨w.heap.size + 1, 2, none⟩ = _ := z2
   have c0 : wr.drew.cell? ⟨ga, oa + i * 2, none⟩ = _ := c0
   have c1 : wr.drew.cell? ⟨ga, oa + i * 2 + 1, none⟩ = _ := c1
   have d0 : wr.drew.cell? ⟨gc, oc + i * 2, none⟩ = _ := d0
   have d1 : wr.drew.cell? ⟨gc, oc + i * 2 + 1, none⟩ = _ := d1
   by_cases hk : k' = k
   ·subst hk
    by_cases hm : m' = m
    ·subst hm
     iterate 11 (refine SeqC.take (v := ?_) rfl (by rfl) (fun W hW => ?_) ?_; rotate_left; (focus (have zy2 := hW.get (by simp) y2; have zz2 := hW.get (by simp) z2; have zc0 := hW.get (by simp) c0; have zc1 := hW.get (by simp) c1; have zd0 := hW.get (by simp) d0; have zd1 := hW.get (by simp) d1; go_simp; with_reducible rfl)); simp only [Act.put, apu, apv, apw])
     refine SeqC.done ?_
     go_wp2_with fail
     go_roundg (D.ls.length - (i + 1))
     case measure => omega
     case rel => exact ⟨i + 1, by simp, by omega, rfl, take_same HT'.out HT.out HTK.out rfl, HBL.out.drew⟩
    ·have HN := Lib.hid (Ik HT.out HT'.out (fun e => hm (by injection e with _ e; injection e with e; injection e)))
     iterate 11 (refine SeqC.take (v := ?_) rfl (by rfl) (fun W hW => ?_) ?_; rotate_left; (focus (have zy2 := hW.get (by simp) y2; have zz2 := hW.get (by simp) z2; have zc0 := hW.get (by simp) c0; have zc1 := hW.get (by simp) c1; have zd0 := hW.get (by simp) d0; have zd1 := hW.get (by simp) d1; go_simp; with_reducible rfl)); simp only [Act.put, apu, apv, apw])
     refine SeqC.done ?_
     go_wp2_with fail
     go_ret
     exact ⟨false, rfl, HN.out, HO.out.drew⟩
   ·have HN := Lib.hid (Ik HT.out HT'.out (fun e => hk (by injection e with e; injection e)))
    iterate 11 (refine SeqC.take (v := ?_) rfl (by rfl) (fun W hW => ?_) ?_; rotate_left; (focus (have zy2 := hW.get (by simp) y2; have zz2 := hW.get (by simp) z2; have zc0 := hW.get (by simp) c0; have zc1 := hW.get (by simp) c1; have zd0 := hW.get (by simp) d0; have zd1 := hW.get (by simp) d1; go_simp; with_reducible rfl)); simp only [Act.put, apu, apv, apw])
    refine SeqC.done ?_
    go_wp2_with fail
    go_ret
    exact ⟨false, rfl, HN.out, HO.out.drew⟩
  ·obtain rfl : i = D.ls.length := by omega
   have hls := HTK.out
   rw [apC, <- HE3.out, apC] at hls
   have HLS := Lib.hid hls
   clear hls HTK
   go_wp2_with fail
   clear y0 y1 y2 y3 z0 z1 z2 z3
   go_loopg [6] D.bs.length (fun g s6 w8 => ∃ i : Nat, s6 = .int .i64 i /\ i <= D.bs.length /\ g = D.bs.length - i /\ (D'.bs.take i).map bK.core = (D.bs.take i).map bK.core /\ Below w1.heap.size w1 w8)
   case atStart => exact ⟨0, rfl, apK _, rfl, rfl, HBL.out⟩
   case round =>
    clear HBL HO
    obtain ⟨i, rfl, hi2, rfl, htk, hbel⟩ := hrel
    have HTK := Lib.hid htk
    clear htk
    have h0I2 : (0 : Int) <= (i : Int) := apF _
    have HBL := Lib.hid hbel
    have HO := Lib.hid (HB1.out.trans (hbel.mono hw0))
    obtain ⟨y0, y1, y2, y3⟩ := (HX.out.below hbel).cells
    obtain ⟨z0, z1, z2, z3⟩ := (HY.out.below hbel).cells
    clear hbel
    rcases apI i D.bs.length with hlt | hge2
    ·have hltI : (i : Int) < (D.bs.length : Int) := by omega
     obtain ⟨x, hx⟩ : ∃ x, D.bs[i]? = some x := ⟨_, apB hlt⟩
     obtain ⟨z, hz⟩ : ∃ z, D'.bs[i]? = some z := ⟨_, apB (by rw [HE5.out]; exact hlt)⟩
     have hxb := HF.out.blk x (apy hx)
     have hzb := HG.out.blk z (apy hz)
     obtain ⟨ga, oa, ea, hga, hra⟩ := HRC.out i z.cells (by rw [apG, hz]; rfl)
     obtain ⟨gc, oc, ec, hgc, hrc⟩ := HRB.out i x.cells (by rw [apG, hx]; rfl)
     subst ea ec
     obtain ⟨As, cs, es, _, hrs⟩ := jY.X6 hxb
     obtain ⟨Zs, ds, ez, _, hrz⟩ := jY.X6 hzb
     have lx := mG hxb
     have lz := mG hzb
     have ox := xw hxb
     have oz := xw hzb
     have hst := HL.out.s x (apy hx)
     have hop := HL.out.o x (apy hx)
     have hoz := HLL.out.o z (apy hz)
     have hsz := HLL.out.s z (apy hz)
     have HXI := Lib.hid hx
     have HZI := Lib.hid hz
     have HJX := Lib.hid (oM hxb)
     have HJZ := Lib.hid (oM hzb)
     have HXB := Lib.hid hxb
     have HZB := Lib.hid hzb
     have HES := Lib.hid es
     have HEZ := Lib.hid ez
     have HRS := Lib.hid hrs
     have HRZ := Lib.hid hrz
     have HRA := Lib.hid hra
     have HRX := Lib.hid hrc
     have hwr := HBL.out.size
     clear hx hz hxb hzb es ez hrs hrz hra hrc y0 y1 y2 z0 z1 z2
     go_upto_region 11 with fail
     go_cut [7, 8] from 58 to 107 (fun s7 s8 wx => ∃ P Q : Nat, s7 = .pointer (some ⟨P, 0, none⟩) /\ s8 = .pointer (some ⟨Q, 0, none⟩) /\ wx.heap[P]? = some (.cells z.cells.toArray tBk (0, 0)) /\ wx.heap[Q]? = some (.cells x.cells.toArray tBk (0, 0)) /\ Below wr.heap.size wr wx)
     case first =>
      refine I8 wr.heap.size (by kernel_rfl) ?_
      have hbd : Below wr.heap.size wr wr.drew := (Below.refl _ _).drew
      have hsd : wr.drew.heap.size = wr.heap.size := rfl
      have HOd := Lib.hid HO.out.drew
      have y3 : wr.drew.cell? ⟨w.heap.size, 3, none⟩ = _ := y3
      have z3 : wr.drew.cell? ⟨w.heap.size + 1, 3, none⟩ = _ := z3
      generalize wr.drew = wd at *
      have HQ0 := Lib.hid (fun W (hW : Below wr.heap.size wd W) => (hW.cell (p := ⟨w.heap.size, 3, none⟩) (by show w.heap.size < wr.heap.size; omega)).trans y3)
      have HQ1 := Lib.hid (fun W (hW : Below wr.heap.size wd W) => (hW.cell (p := ⟨w.heap.size + 1, 3, none⟩) (by show w.heap.size + 1 < wr.heap.size; omega)).trans z3)
      have HQA := Lib.hid (fun W (hW : Below wr.heap.size wd W) => dX HRA.out hga (HOd.out.trans (hW.mono (by omega))))
      have HQX := Lib.hid (fun W (hW : Below wr.heap.size wd W) => dX HRX.out hgc (HOd.out.trans (hW.mono (by omega))))
      have ha1 : z.cells.toArray.all (·.oneCell') = true := by rw [apL]; exact apM.2 oz
      have hx1 : x.cells.toArray.all (·.oneCell') = true := by rw [apL]; exact apM.2 ox
      clear y3 z3 ox oz
      refine AnyE.take (i := 0) (v := ?_) (by kernel_rfl) rfl (by kernel_rfl) (by kernel_rfl) (fun _ _ _ _ _ h => h) (by rfl) (fun W hW => ?_) ?_; rotate_left; (focus (go_simp; with_reducible rfl)); simp only [Act.put, apu, apv, apw]
      refine AnyE.take (i := 1) (v := ?_) (by kernel_rfl) rfl (by kernel_rfl) (by kernel_rfl) (fun _ _ _ _ _ h => h) (by rfl) (fun W hW => ?_) ?_; rotate_left; (focus (have q := HQ0.out W hW; go_simp; with_reducible rfl)); simp only [Act.put, apu, apv, apw]
      refine AnyE.take (i := 2) (v := ?_) (by kernel_rfl) rfl (by kernel_rfl) (by kernel_rfl) (fun _ _ _ _ _ h => h) (by rfl) (fun W hW => ?_) ?_; rotate_left; (focus (go_simp; with_reducible rfl)); simp only [Act.put, apu, apv, apw]
      refine AnyE.take (i := 3) (v := ?_) (by kernel_rfl) rfl (by kernel_rfl) (by kernel_rfl) (fun _ _ _ _ _ h => h) (by rfl) (fun W hW => ?_) ?_; rotate_left; (focus (go_simp; with_reducible rfl)); simp only [Act.put, apu, apv, apw]
      refine AnyE.take (i := 4) (v := .agg z.cells.toArray) (by kernel_rfl) rfl (by kernel_rfl) (by kernel_rfl) (fun _ _ _ _ _ h => h) (by rfl) (fun W hW => twin.pX tBk _ rfl ga (oa + i * 14) rfl z.cells _ (HQA.out W hW) Tryz.underlying60 rfl (by rw [lz]; exact bR)) ?_; simp only [Act.put, apu, apv, apw]
      refine AnyE.take (i := 5) (v := ?_) (by kernel_rfl) rfl (by kernel_rfl) (by kernel_rfl) (fun _ _ _ _ _ h => h) (by rfl) (fun W hW => ?_) ?_; rotate_left; (focus (go_simp; with_reducible rfl)); simp only [Act.put, apu, apv, apw]
      refine AnyE.take (i := 6) (v := ?_) (by kernel_rfl) rfl (by kernel_rfl) (by kernel_rfl) (fun _ _ _ _ _ h => h) (by rfl) (fun W hW => ?_) ?_; rotate_left; (focus (have q := HQ1.out W hW; go_simp; with_reducible rfl)); simp only [Act.put, apu, apv, apw]
      refine AnyE.take (i := 7) (v := ?_) (by kernel_rfl) rfl (by kernel_rfl) (by kernel_rfl) (fun _ _ _ _ _ h => h) (by rfl) (fun W hW => ?_) ?_; rotate_left; (focus (go_simp; with_reducible rfl)); simp only [Act.put, apu, apv, apw]
      refine AnyE.take (i := 8) (v := ?_) (by kernel_rfl) rfl (by kernel_rfl) (by kernel_rfl) (fun _ _ _ _ _ h => h) (by rfl) (fun W hW => ?_) ?_; rotate_left; (focus (go_simp; with_reducible rfl)); simp only [Act.put, apu, apv, apw]
      refine AnyE.take (i := 9) (v := .agg x.cells.toArray) (by kernel_rfl) rfl (by kernel_rfl) (by kernel_rfl) (fun _ _ _ _ _ h => h) (by rfl) (fun W hW => twin.pX tBk _ rfl gc (oc + i * 14) rfl x.cells _ (HQX.out W hW) Tryz.underlying60 rfl (by rw [lx]; exact bR)) ?_; simp only [Act.put, apu, apv, apw]
      have hwd : wr.heap.size <= wd.heap.size := Nat.le_of_eq hsd.symm
      refine AnyE.all (rs := [10, 11]) (by kernel_rfl) rfl ?_
      refine apz.2 ⟨?_, apz.2 ⟨?_, by simp⟩⟩
      ·refine JF (by rfl) (by rfl) (fun H => .pointer (some ⟨H, 0, none⟩)) #[.slice none 0 0, .int .u8 0, .int .u8 0, .int .i64 0, .int .i64 0, .bool false, .int .u8 0, .int .i64 0, .int .i64 0, .int .i64 0, .slice none 0 0, .int .i64 0, .bool false, .int .u8 0] tBk (by go_simp) hwd fun P wn eP hH kN bN sN => ?_
       simp only [Act.put, apu, apv, apw]
       refine AnyE.all (rs := [11]) (by kernel_rfl) rfl ?_
       refine apz.2 ⟨?_, by simp⟩
       refine JF (by rfl) (by rfl) (fun H => .pointer (some ⟨H, 0, none⟩)) #[.slice none 0 0, .int .u8 0, .int .u8 0, .int .i64 0, .int .i64 0, .bool false, .int .u8 0, .int .i64 0, .int .i64 0, .int .i64 0, .slice none 0 0, .int .i64 0, .bool false, .int .u8 0] tBk (by go_simp) (by omega) fun Q wm eQ hH2 kN2 bN2 sN2 => ?_
       simp only [Act.put, apu, apv, apw]
       have hH3 := kN2 _ _ (by simp) hH
       have hPQ : P ≠ Q := by omega
       refine AnyE.all (rs := [12]) (by kernel_rfl) rfl ?_
       refine apz.2 ⟨?_, by simp⟩
       refine zC rfl (by rfl) tBk _ _ rfl P 0 z.cells.toArray rfl rfl hH3 (by rw [apx, lz]; decide) (by rw [apx, lz]; exact bR) ha1 (by omega) (fun w5 DS hS eS kS bS sS => ?_)
       obtain rfl : DS = z.cells.toArray := apH (by rw [eS, apx, lz]; simp)
       clear eS
       have hQ5 := kS Q _ (by simp; omega) hH2
       simp only [Act.put]
       refine AnyE.all (rs := [13]) (by kernel_rfl) rfl ?_
       refine apz.2 ⟨?_, by simp⟩
       refine zC rfl (by rfl) tBk _ _ rfl Q 0 x.cells.toArray rfl rfl hQ5 (by rw [apx, lx]; decide) (by rw [apx, lx]; exact bR) hx1 (by omega) (fun w6 DS hS2 eS kS2 bS2 sS2 => ?_)
       obtain rfl : DS = x.cells.toArray := apH (by rw [eS, apx, lx]; simp)
       clear eS
       have hP6 := kS2 P _ (by simp; omega) hS
       have hend := (((hbd.trans bN).trans bN2).trans bS).trans bS2
       have HE := Lib.hid (And.intro hP6 (And.intro hS2 hend))
       clear hP6 hS2 hend kS kS2 bS bS2 sS sS2 hQ5 hS hH hH2 hH3 kN kN2 bN bN2 sN sN2 eP eQ hPQ
       simp only [Act.put]
       refine AnyE.done (by kernel_rfl) ?_
       go_wp2_with fail
       go_meet
       exact ⟨P, Q, rfl, rfl, HE.out.1, HE.out.2.1, HE.out.2.2⟩
      ·refine JF (by rfl) (by rfl) (fun H => .pointer (some ⟨H, 0, none⟩)) #[.slice none 0 0, .int .u8 0, .int .u8 0, .int .i64 0, .int .i64 0, .bool false, .int .u8 0, .int .i64 0, .int .i64 0, .int .i64 0, .slice none 0 0, .int .i64 0, .bool false, .int .u8 0] tBk (by go_simp) hwd fun Q wn eP hH kN bN sN => ?_
       simp only [Act.put, apu, apv, apw]
       refine AnyE.all (rs := [10]) (by kernel_rfl) rfl ?_
       refine apz.2 ⟨?_, by simp⟩
       refine JF (by rfl) (by rfl) (fun H => .pointer (some ⟨H, 0, none⟩)) #[.slice none 0 0, .int .u8 0, .int .u8 0, .int .i64 0, .int .i64 0, .bool false, .int .u8 0, .int .i64 0, .int .i64 0, .int .i64 0, .slice none 0 0, .int .i64 0, .bool false, .int .u8 0] tBk (by go_simp) (by omega) fun P wm eQ hH2 kN2 bN2 sN2 => ?_
       simp only [Act.put, apu, apv, apw]
       have hH3 := kN2 _ _ (by simp) hH
       have hPQ : P ≠ Q := by omega
       refine AnyE.all (rs := [12]) (by kernel_rfl) rfl ?_
       refine apz.2 ⟨?_, by simp⟩
       refine zC rfl (by rfl) tBk _ _ rfl P 0 z.cells.toArray rfl rfl hH2 (by rw [apx, lz]; decide) (by rw [apx, lz]; exact bR) ha1 (by omega) (fun w5 DS hS eS kS bS sS => ?_)
       obtain rfl : DS = z.cells.toArray := apH (by rw [eS, apx, lz]; simp)
       clear eS
       have hQ5 := kS Q _ (by simp; omega) hH3
       simp only [Act.put]
       refine AnyE.all (rs := [13]) (by kernel_rfl) rfl ?_
       refine apz.2 ⟨?_, by simp⟩
       refine zC rfl (by rfl) tBk _ _ rfl Q 0 x.cells.toArray rfl rfl hQ5 (by rw [apx, lx]; decide) (by rw [apx, lx]; exact bR) hx1 (by omega) (fun w6 DS hS2 eS kS2 bS2 sS2 => ?_)
       obtain rfl : DS = x.cells.toArray := apH (by rw [eS, apx, lx]; simp)
       clear eS
       have hP6 := kS2 P _ (by simp; omega) hS
       have hend := (((hbd.trans bN).trans bN2).trans bS).trans bS2
       have HE := Lib.hid (And.intro hP6 (And.intro hS2 hend))
       clear hP6 hS2 hend kS kS2 bS bS2 sS sS2 hQ5 hS hH hH2 hH3 kN kN2 bN bN2 sN sN2 eP eQ hPQ
       simp only [Act.put]
       refine AnyE.done (by kernel_rfl) ?_
       go_wp2_with fail
       go_meet
       exact ⟨P, Q, rfl, rfl, HE.out.1, HE.out.2.1, HE.out.2.2⟩
     obtain ⟨P, Q, rfl, rfl, hP, hQ, hbx⟩ := hcut
     have HBC := Lib.hid (HBL.out.trans (hbx.mono hwr))
     have HOC := Lib.hid (HB1.out.trans (HBC.out.mono hw0))
     have p0 : wc.cell? ⟨P, 0, none⟩ = some (.slice Zs z.st.length ds) := by rw [cell_of_row wc P 0 _ tBk (0, 0) hP, <- HEZ.out]; rfl
     have q0 : wc.cell? ⟨Q, 0, none⟩ = some (.slice As x.st.length cs) := by rw [cell_of_row wc Q 0 _ tBk (0, 0) hQ, <- HES.out]; rfl
     have hrp : wc.rangeAt P 1 (z.pre ++ z.a :: z.post) := fun j u hj => by
      rw [cell_of_row _ P (1 + j) _ tBk (0, 0) hP, Nat.add_comm 1 j]
      simpa [bK.cells] using hj
     have hrq : wc.rangeAt Q 1 (x.pre ++ x.a :: x.post) := fun j u hj => by
      rw [cell_of_row _ Q (1 + j) _ tBk (0, 0) hQ, Nat.add_comm 1 j]
      simpa [bK.cells] using hj
     have jz : (z.pre ++ z.a :: z.post).length = 13 := by
      have : z.cells.length = (z.pre ++ z.a :: z.post).length + 1 := rfl
      omega
     have jx : (x.pre ++ x.a :: x.post).length = 13 := by
      have : x.cells.length = (x.pre ++ x.a :: x.post).length + 1 := rfl
      omega
     have HRP := Lib.hid hrp
     have HRQ := Lib.hid hrq
     have HP := Lib.hid hP
     have HQ := Lib.hid hQ
     clear hrp hrq hP hQ hbx
     by_cases hsl : z.st.length = x.st.length
     ·have hsI : ((z.st.length : Int) != (x.st.length : Int)) = false := by rw [hsl]; exact bne_self_eq_false _
      rw [hsl] at p0
      by_cases hj : z.pre = x.pre /\ z.post = x.post /\ z.ops = x.ops
      ·have HSJ := Lib.hid (Sv (t := true) (HJZ.out.frz HOC.out.block) (HJX.out.frz HOC.out.block) hj.1 hj.2.1 (.inl ⟨rfl, hj.2.2, by omega⟩))
       have HJJ := Lib.hid hj
       have HSL := Lib.hid hsl
       clear hj hsl
       go_upto_region 14 with (first | (refine wpList_want (by rfl) (wp_load_mid tJm _ rfl P 1 rfl (z.pre ++ z.a :: z.post) _ HRP.out Tryz.underlying58 rfl (by rw [jz]; exact jR) ?_)) | (refine wpList_want (by rfl) (wp_load_mid tJm _ rfl Q 1 rfl (x.pre ++ x.a :: x.post) _ HRQ.out Tryz.underlying58 rfl (by rw [jx]; exact jR) ?_)) | (go_at_call 28; refine HSJ.out.mono ?_; rintro e w2 ⟨rfl, b2⟩))
       have HB2 := Lib.hid (HBC.out.trans (b2.mono HBC.out.size))
       have HP2 := Lib.hid ((b2.block _ (apA.1 HP.out).1).trans HP.out)
       have HQ2 := Lib.hid ((b2.block _ (apA.1 HQ.out).1).trans HQ.out)
       clear p0 q0 b2 HBC HOC HRP HRQ HSJ HP HQ
       go_wp2_with fail
       go_loopg [9] x.st.length (fun g s9 w8 => ∃ k : Nat, s9 = .int .i64 k /\ k <= x.st.length /\ g = x.st.length - k /\ z.st.take k = x.st.take k /\ Below w2.heap.size w2 w8)
       case atStart => exact ⟨0, rfl, apK _, rfl, rfl, Below.refl _ _⟩
       case round =>
        obtain ⟨k, rfl, hk, rfl, htk2, hbel⟩ := hrel
        have HTK2 := Lib.hid htk2
        clear htk2
        have h0K : (0 : Int) <= (k : Int) := apF _
        have hP3 := (hbel.block _ (apA.1 HP2.out).1).trans HP2.out
        have hQ3 := (hbel.block _ (apA.1 HQ2.out).1).trans HQ2.out
        have hPl := (apA.1 hP3).1
        have hQl := (apA.1 hQ3).1
        have p0 : wr.cell? ⟨P, 0, none⟩ = some (.slice Zs x.st.length ds) := by rw [cell_of_row wr P 0 _ tBk (0, 0) hP3, <- HSL.out, <- HEZ.out]; rfl
        have q0 : wr.cell? ⟨Q, 0, none⟩ = some (.slice As x.st.length cs) := by rw [cell_of_row wr Q 0 _ tBk (0, 0) hQ3, <- HES.out]; rfl
        have HB3 := Lib.hid (HB2.out.trans (hbel.mono HB2.out.size))
        have HO3 := Lib.hid (HB1.out.trans ((HB2.out.trans (hbel.mono HB2.out.size)).mono hw0))
        have HBEL := Lib.hid hbel
        clear hbel hP3 hQ3
        rcases apI k x.st.length with hkl | hkg
        ·have hklI : (k : Int) < (x.st.length : Int) := by omega
         obtain ⟨el, hel⟩ : ∃ el, x.st[k]? = some el := ⟨_, apB hkl⟩
         obtain ⟨em, hem⟩ : ∃ em, z.st[k]? = some em := ⟨_, apB (by rw [HSL.out]; exact hkl)⟩
         have hkk := HXB.out.skd el (apy hel)
         have hkm := HZB.out.skd em (apy hem)
         obtain ⟨gs, os, eS, hgs, hrs⟩ := HRS.out k el hel
         obtain ⟨gz, oz, eZ, hgz, hrz⟩ := HRZ.out k em hem
         have HEL := Lib.hid hel
         have HEM := Lib.hid hem
         subst eS eZ
         have h26 : el.length = 26 := hkk.len.symm
         have h26m : em.length = 26 := hkm.len.symm
         obtain ⟨q, hq⟩ : ∃ q : Bool, q = true ↔ em ≠ el := ⟨@decide (em ≠ el) (Classical.propDecidable _), @decide_eq_true_iff _ (Classical.propDecidable _)⟩
         have HNE := Lib.hid (fun W => aiO hkm hkk hq W)
         have HQQ := Lib.hid hq
         have HRS2 := Lib.hid hrs
         have HRZ2 := Lib.hid hrz
         clear hel hkk hem hkm hq hrs hrz
         go_upto_region 17 with fail
         refine I8 wr.heap.size (by kernel_rfl) ?_
         have hbd : Below wr.heap.size wr wr.drew := (Below.refl _ _).drew
         have hsd : wr.drew.heap.size = wr.heap.size := rfl
         have HOd := Lib.hid HO3.out.drew
         have p0 : wr.drew.cell? ⟨P, 0, none⟩ = _ := p0
         have q0 : wr.drew.cell? ⟨Q, 0, none⟩ = _ := q0
         have hend : Below w2.heap.size w2 wr.drew := HBEL.out.drew
         have HEN := Lib.hid hend
         clear hend
         generalize wr.drew = wd at *
         have HQ0 := Lib.hid (fun W (hW : Below wr.heap.size wd W) => (hW.cell (p := ⟨P, 0, none⟩) hPl).trans p0)
         have HQ1 := Lib.hid (fun W (hW : Below wr.heap.size wd W) => (hW.cell (p := ⟨Q, 0, none⟩) hQl).trans q0)
         have HQA := Lib.hid (fun W (hW : Below wr.heap.size wd W) => dX HRZ2.out hgz (HOd.out.trans (hW.mono (by have := HO3.out.size; omega))))
         have HQX := Lib.hid (fun W (hW : Below wr.heap.size wd W) => dX HRS2.out hgs (HOd.out.trans (hW.mono (by have := HO3.out.size; omega))))
         clear p0 q0
         refine AnyE.take (i := 0) (v := ?_) (by kernel_rfl) rfl (by kernel_rfl) (by kernel_rfl) (fun _ _ _ _ _ h => h) (by rfl) (fun W hW => ?_) ?_; rotate_left; (focus (go_simp; with_reducible rfl)); simp only [Act.put, apu, apv, apw]
         refine AnyE.take (i := 1) (v := ?_) (by kernel_rfl) rfl (by kernel_rfl) (by kernel_rfl) (fun _ _ _ _ _ h => h) (by rfl) (fun W hW => ?_) ?_; rotate_left; (focus (have q := HQ0.out W hW; go_simp; with_reducible rfl)); simp only [Act.put, apu, apv, apw]
         refine AnyE.take (i := 2) (v := ?_) (by kernel_rfl) rfl (by kernel_rfl) (by kernel_rfl) (fun _ _ _ _ _ h => h) (by rfl) (fun W hW => ?_) ?_; rotate_left; (focus (go_simp; with_reducible rfl)); simp only [Act.put, apu, apv, apw]
         refine AnyE.take (i := 3) (v := ?_) (by kernel_rfl) rfl (by kernel_rfl) (by kernel_rfl) (fun _ _ _ _ _ h => h) (by rfl) (fun W hW => ?_) ?_; rotate_left; (focus (go_simp; with_reducible rfl)); simp only [Act.put, apu, apv, apw]
         refine AnyE.take (i := 4) (v := .agg em.toArray) (by kernel_rfl) rfl (by kernel_rfl) (by kernel_rfl) (fun _ _ _ _ _ h => h) (by rfl) (fun W hW => twin.pX tSt _ rfl gz (oz + k * 26) rfl em _ (HQA.out W hW) Tryz.underlying78 rfl (by rw [h26m]; exact sR)) ?_; simp only [Act.put, apu, apv, apw]
         refine AnyE.take (i := 5) (v := ?_) (by kernel_rfl) rfl (by kernel_rfl) (by kernel_rfl) (fun _ _ _ _ _ h => h) (by rfl) (fun W hW => ?_) ?_; rotate_left; (focus (go_simp; with_reducible rfl)); simp only [Act.put, apu, apv, apw]
         refine AnyE.take (i := 6) (v := ?_) (by kernel_rfl) rfl (by kernel_rfl) (by kernel_rfl) (fun _ _ _ _ _ h => h) (by rfl) (fun W hW => ?_) ?_; rotate_left; (focus (have q := HQ1.out W hW; go_simp; with_reducible rfl)); simp only [Act.put, apu, apv, apw]
         refine AnyE.take (i := 7) (v := ?_) (by kernel_rfl) rfl (by kernel_rfl) (by kernel_rfl) (fun _ _ _ _ _ h => h) (by rfl) (fun W hW => ?_) ?_; rotate_left; (focus (go_simp; with_reducible rfl)); simp only [Act.put, apu, apv, apw]
         refine AnyE.take (i := 8) (v := ?_) (by kernel_rfl) rfl (by kernel_rfl) (by kernel_rfl) (fun _ _ _ _ _ h => h) (by rfl) (fun W hW => ?_) ?_; rotate_left; (focus (go_simp; with_reducible rfl)); simp only [Act.put, apu, apv, apw]
         refine AnyE.take (i := 9) (v := .agg el.toArray) (by kernel_rfl) rfl (by kernel_rfl) (by kernel_rfl) (fun _ _ _ _ _ h => h) (by rfl) (fun W hW => twin.pX tSt _ rfl gs (os + k * 26) rfl el _ (HQX.out W hW) Tryz.underlying78 rfl (by rw [h26]; exact sR)) ?_; simp only [Act.put, apu, apv, apw]
         refine AnyE.take (i := 10) (v := .bool q) (by kernel_rfl) rfl (by kernel_rfl) (by kernel_rfl) (fun _ _ _ _ _ h => h) (by rfl) (fun W hW => X0 tSt _ _ _ rfl rfl rfl (by kernel_rfl) (HNE.out W)) ?_; simp only [Act.put, apu, apv, apw]
         refine AnyE.done (by kernel_rfl) ?_
         cases q with
         | false =>
          have HEE := Lib.hid (Classical.not_not.1 (fun hn => apD (HQQ.out.2 hn)) : em = el)
          go_wp2_with fail
          go_roundg (x.st.length - (k + 1))
          case measure => omega
          case rel => exact ⟨k + 1, by simp, by omega, rfl, take_same HEM.out HEL.out HTK2.out HEE.out, HEN.out⟩
         | true =>
          have HN := Lib.hid (yG HXI.out HZI.out (fun e => by have q := (ES.1 e).1; have h1 := HEM.out; rw [q, HEL.out] at h1; exact HQQ.out.1 rfl (Option.some.inj h1).symm))
          go_wp2_with fail
          go_ret
          exact ⟨false, rfl, HN.out, HOd.out⟩
        ·obtain rfl : k = x.st.length := by omega
         have hsts := HTK2.out
         rw [apC, <- HSL.out, apC] at hsts
         have HCO := Lib.hid (ES.2 ⟨hsts, HJJ.out⟩)
         clear hsts
         go_wp2_with fail
         go_roundg (D.bs.length - (i + 1))
         case measure => omega
         case rel => exact ⟨i + 1, by simp, by omega, rfl, a8r HZI.out HXI.out HTK.out HCO.out, HB3.out⟩
      ·have HN := Lib.hid (yG HXI.out HZI.out (fun e => hj (ES.1 e).2))
       have HSJ := Lib.hid (show Calls Tryz.prog 28 #[.agg (z.pre ++ z.a :: z.post).toArray, .agg (x.pre ++ x.a :: x.post).toArray] wc fun e w' => e = .returned (.bool false) /\ Below wc.heap.size wc w' from by
        by_cases h1 : z.pre = x.pre
        ·by_cases h2 : z.post = x.post
         ·exact Sv (t := false) (HJZ.out.frz HOC.out.block) (HJX.out.frz HOC.out.block) h1 h2 (.inr ⟨rfl, fun h3 => hj ⟨h1, h2, h3⟩, hoz⟩)
         ·exact Rt (HJZ.out.frz HOC.out.block) (HJX.out.frz HOC.out.block) (.inr h2)
        ·exact Rt (HJZ.out.frz HOC.out.block) (HJX.out.frz HOC.out.block) (.inl h1))
       clear hj hsl
       go_wp2_with (first | (refine wpList_want (by rfl) (wp_load_mid tJm _ rfl P 1 rfl (z.pre ++ z.a :: z.post) _ HRP.out Tryz.underlying58 rfl (by rw [jz]; exact jR) ?_)) | (refine wpList_want (by rfl) (wp_load_mid tJm _ rfl Q 1 rfl (x.pre ++ x.a :: x.post) _ HRQ.out Tryz.underlying58 rfl (by rw [jx]; exact jR) ?_)) | (go_at_call 28; refine HSJ.out.mono ?_; rintro e w2 ⟨rfl, b2⟩))
       go_ret
       exact ⟨false, rfl, HN.out, HOC.out.trans (b2.mono HOC.out.size)⟩
     ·have hsI : ((z.st.length : Int) != (x.st.length : Int)) = true := by rw [bne_iff_ne]; omega
      have HN := Lib.hid (yG HXI.out HZI.out (fun e => hsl (congrArg List.length (ES.1 e).1)))
      clear hsl
      go_wp2_with fail
      go_ret
      exact ⟨false, rfl, HN.out, HOC.out⟩
    ·obtain rfl : i = D.bs.length := by omega
     go_wp2_with fail
     go_ret
     have hbs := HTK.out
     rw [apC, <- HE5.out, apC] at hbs
     refine ⟨true, rfl, ⟨fun _ => ?_, fun _ => rfl⟩, HO.out⟩
     unfold FnD.core
     rw [HE1.out, HE2.out, HLS.out, hbs]
theorem amZ {w : World} {v v' : Value} {D D' : FnD} (h : aV w v D) (h' : aV w v' D') (hn : ¬ (D'.p = D.p /\ D'.u = D.u /\ D'.ls.length = D.ls.length /\ D'.bs.length = D.bs.length)) : Calls Tryz.prog 13 #[v', v] w (Vu D' D w) := by
 have HN := Lib.hid (show false = true ↔ D'.core = D.core from ⟨(fun e => apD e), fun e => absurd ⟨(vZ e).1, (vZ e).2.1, congrArg List.length (vZ e).2.2.1, YX (vZ e).2.2.2⟩ hn⟩)
 obtain ⟨Al, cl, el, hml, hrl⟩ := cZ.rows h.locals (by decide)
 obtain ⟨Bl, dl, el', _, hrl'⟩ := cZ.rows h'.locals (by decide)
 obtain ⟨A, c, eb, hmb, hrb⟩ := aV.blks h
 obtain ⟨B, d, eb', _, hrb'⟩ := aV.blks h'
 rw [h'.eq, h.eq, el, el', eb, eb']
 generalize D'.p = p' at *
 generalize D.p = p at *
 generalize D'.u = u' at *
 generalize D.u = u at *
 generalize D'.ls.length = nl' at *
 generalize D.ls.length = nl at *
 generalize D'.bs.length = nb' at *
 generalize D.bs.length = nb at *
 obtain ⟨w1, hw1⟩ : ∃ w1, w1 = (w.alloc (.cells #[.int .i64 p', .bool u', .slice Bl nl' dl, .slice B nb' d] tFn)).alloc (.cells #[.int .i64 p, .bool u, .slice Al nl cl, .slice A nb c] tFn) := ⟨_, rfl⟩
 have HB1 := Lib.hid (show Below w.heap.size w w1 from by rw [hw1]; exact ((Below.refl _ _).alloc (Nat.le_refl _) _).alloc (by simp) _)
 have HX := Lib.hid (show Box w1 w.heap.size tFn (.int .i64 p') (.bool u') (.slice Bl nl' dl) (.slice B nb' d) from by rw [hw1]; exact (Box.mk rfl).more)
 have HY := Lib.hid (show Box w1 (w.heap.size + 1) tFn (.int .i64 p) (.bool u) (.slice Al nl cl) (.slice A nb c) from by rw [hw1]; exact Box.mk (by simp))
 obtain ⟨y0, y1, y2, y3⟩ := HX.out.cells
 obtain ⟨z0, z1, z2, z3⟩ := HY.out.cells
 have HH := Lib.hid hn
 clear h h' hrl hrl' hrb hrb' el el' eb eb' hml hmb hn
 go_enter Tryz.func13, Tryz.ntmps13
 go_upto_region 1 with fail
 rw [<- hw1]
 clear hw1
 by_cases h1 : p' = p
 ·subst h1
  by_cases h2 : u' = u
  ·subst h2
   by_cases h3 : nl' = nl
   ·subst h3
    have h4 : ¬ nb' = nb := fun e => HH.out ⟨rfl, rfl, rfl, e⟩
    have h4' : ((nb' : Int) != (nb : Int)) = true := by rw [bne_iff_ne]; omega
    go_wp2_with fail
    go_ret
    exact ⟨false, rfl, HN.out, HB1.out⟩
   ·have h3' : ((nl' : Int) != (nl : Int)) = true := by rw [bne_iff_ne]; omega
    go_wp2_with fail
    go_ret
    exact ⟨false, rfl, HN.out, HB1.out⟩
  ·have h2' : (u' != u) = true := by rw [bne_iff_ne]; exact h2
   go_wp2_with fail
   go_ret
   exact ⟨false, rfl, HN.out, HB1.out⟩
 ·have h1' : (p' != p) = true := by rw [bne_iff_ne]; exact h1
  go_wp2_with fail
  go_ret
  exact ⟨false, rfl, HN.out, HB1.out⟩
theorem Vt {w : World} {v v' : Value} {D D' : FnD} (h : aV w v D) (h' : aV w v' D') (hl : Lim D) (hl' : Lim D') : Calls Tryz.prog 13 #[v', v] w (Vu D' D w) := by
 by_cases hn : D'.p = D.p /\ D'.u = D.u /\ D'.ls.length = D.ls.length /\ D'.bs.length = D.bs.length
 ·exact alI h h' hn.1 hn.2.1 hn.2.2.1 hn.2.2.2 hl hl'
 ·exact amZ h h' hn
end txt
end Go.Proofs.YtglmonlofejcgaaGreatDoor
