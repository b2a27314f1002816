/- pawnshopref07.Same: two functions that say the same, wherever they lie. -/
import Derived.Test.YtglmonlofejcgaaGreatDoorTextV
import Derived.Test.YtglmonlofejcgaaGreatDoorJump7
set_option linter.unusedVariables false
namespace Go.Proofs.YtglmonlofejcgaaGreatDoor.txt
open Go.RowKit Am loan bld
theorem a4h {P : Program} {t : TypeId} {x y : Operand} {a b : Array Value} {W : World} (h : P.eqGuardType P.depth t = false) : (eqGuard .neq t x y (.agg a) (.agg b)).run P W = .ok () W := by
 unfold eqGuard
 simp [go_sem, h]
theorem SL {P : Program} {o : Oper} {a : Act} {W : World} (t r : TypeId) (x y : Operand) {v : Array Value} (ho : o.op = .binOp .neq t x y r) (hx : a.eval x = .agg v) (hy : a.eval y = .agg v) (hg : P.eqGuardType P.depth t = false) (hv : (binOp .neq t (.agg v) (.agg v)).run P W = .ok (.bool false) W) : (execOp a.eval o).run P W = .ok (.value (.bool false)) W := by
 unfold execOp
 simp only [ho, hx, hy, Sem.run_bind, a4h hg, hv, Result.andThen_ok, Sem.run_pure]
set_option maxHeartbeats 4000000 in
set_option maxRecDepth 100000 in
theorem afG {el : List Value} (h : ak Kd.ok Dj el) (W : World) : (binOp .neq tSt (.agg el.toArray) (.agg el.toArray)).run Tryz.prog W = .ok (.bool false) W := by
 obtain ⟨u0, t0, e0, k0, h0⟩ := aN h
 obtain ⟨a0, rfl, _⟩ := k0
 obtain ⟨u1, t1, e1, k1, h1⟩ := aN h0
 obtain ⟨a1, rfl, _⟩ := k1
 obtain ⟨u2, t2, e2, k2, h2⟩ := aN h1
 obtain ⟨a2, rfl⟩ := k2
 obtain ⟨u3, t3, e3, k3, h3⟩ := aN h2
 obtain ⟨a3, rfl, _⟩ := k3
 obtain ⟨u4, t4, e4, k4, h4⟩ := aN h3
 obtain ⟨a4, rfl, _⟩ := k4
 obtain ⟨u5, t5, e5, k5, h5⟩ := aN h4
 obtain ⟨a5, rfl, _⟩ := k5
 obtain ⟨u6, t6, e6, k6, h6⟩ := aN h5
 obtain ⟨a6, rfl, _⟩ := k6
 obtain ⟨u7, t7, e7, k7, h7⟩ := aN h6
 obtain ⟨a7, rfl, _⟩ := k7
 obtain ⟨u8, t8, e8, k8, h8⟩ := aN h7
 obtain ⟨a8, rfl, _⟩ := k8
 obtain ⟨u9, t9, e9, k9, h9⟩ := aN h8
 obtain ⟨a9, rfl, _⟩ := k9
 obtain ⟨u10, t10, e10, k10, h10⟩ := aN h9
 obtain ⟨a10, rfl⟩ := k10
 obtain ⟨u11, t11, e11, k11, h11⟩ := aN h10
 obtain ⟨a11, rfl, _⟩ := k11
 obtain ⟨u12, t12, e12, k12, h12⟩ := aN h11
 obtain ⟨a12, rfl, _⟩ := k12
 obtain ⟨u13, t13, e13, k13, h13⟩ := aN h12
 obtain ⟨a13, rfl, _⟩ := k13
 obtain ⟨u14, t14, e14, k14, h14⟩ := aN h13
 obtain ⟨a14, rfl, _⟩ := k14
 obtain ⟨u15, t15, e15, k15, h15⟩ := aN h14
 obtain ⟨a15, rfl⟩ := k15
 obtain ⟨u16, t16, e16, k16, h16⟩ := aN h15
 obtain ⟨a16, rfl, _⟩ := k16
 obtain ⟨u17, t17, e17, k17, h17⟩ := aN h16
 obtain ⟨a17, rfl, _⟩ := k17
 obtain ⟨u18, t18, e18, k18, h18⟩ := aN h17
 obtain ⟨a18, rfl⟩ := k18
 obtain ⟨u19, t19, e19, k19, h19⟩ := aN h18
 obtain ⟨a19, rfl, _⟩ := k19
 obtain ⟨u20, t20, e20, k20, h20⟩ := aN h19
 obtain ⟨a20, rfl, _⟩ := k20
 obtain ⟨u21, t21, e21, k21, h21⟩ := aN h20
 obtain ⟨a21, rfl, _⟩ := k21
 obtain ⟨u22, t22, e22, k22, h22⟩ := aN h21
 obtain ⟨a22, rfl, _⟩ := k22
 obtain ⟨u23, t23, e23, k23, h23⟩ := aN h22
 obtain ⟨a23, rfl⟩ := k23
 obtain ⟨u24, t24, e24, k24, h24⟩ := aN h23
 obtain ⟨a24, rfl, _⟩ := k24
 obtain ⟨u25, t25, e25, k25, h25⟩ := aN h24
 obtain ⟨a25, rfl, _⟩ := k25
 obtain rfl : t25 = [] := by cases t25 with | nil => rfl | cons a l => exact h25.elim
 subst e25 e24 e23 e22 e21 e20 e19 e18 e17 e16 e15 e14 e13 e12 e11 e10 e9 e8 e7 e6 e5 e4 e3 e2 e1 e0
 clear h0 h1 h2 h3 h4 h5 h6 h7 h8 h9 h10 h11 h12 h13 h14 h15 h16 h17 h18 h19 h20 h21 h22 h23 h24 h25 h
 go_simp
theorem wpList_want {P : Program} {ops : Array Oper} {Q : Exit -> Act -> World -> Prop} {o : Oper} {rest : List Oper} {a : Act} {w : World} (hw : Region.wanted o (yielded ops a.tmps) = true) (h : o.wp P a w (wpList P ops Q rest) Q) : wpList P ops Q (o :: rest) a w := by
 unfold wpList
 rw [if_pos hw]
 exact .inl h
set_option maxHeartbeats 8000000 in
set_option maxRecDepth 100000 in
theorem akC {w : World} {v v' : Value} {D D' : FnD} (h : aT w v D) (h' : aT w v' D') (hc : D'.core = D.core) (hl : Low D) : Calls Tryz.prog 13 #[v', v] w (bld.Ans w (.bool true)) := by
 obtain ⟨e1, e2, e3, e4⟩ := Ip hc
 have e5 := xE e4
 have hLL := h'.locals
 rw [e3] at hLL
 obtain ⟨Al, cl, el, hml, hrl⟩ := bV.rows h.locals (by decide)
 obtain ⟨Bl, dl, el', _, hrl'⟩ := bV.rows hLL (by decide)
 obtain ⟨A, c, eb, hmb, hrb⟩ := aT.blks h
 obtain ⟨B, d, eb', _, hrb'⟩ := aT.blks h'
 have hnl := hl.l
 have hnb := hl.b
 rw [h'.eq, h.eq, e1, e2, el, el', eb, eb', e5]
 have HF := Lib.hid h
 have HG := Lib.hid h'
 have HL := Lib.hid hl
 have HRL := Lib.hid hrl
 have HRM := Lib.hid hrl'
 have HRB := Lib.hid hrb
 have HRC := Lib.hid hrb'
 have HE4 := Lib.hid e4
 clear h h' hl hrl hrl' hrb hrb' e4 hLL hc el el' eb eb' e1 e2 e3 e5
 obtain ⟨w1, hw1⟩ : ∃ w1, w1 = (w.alloc (.cells #[.int .i64 D.p, .bool D.u, .slice Bl D.ls.length dl, .slice B D.bs.length d] tFn)).alloc (.cells #[.int .i64 D.p, .bool D.u, .slice Al D.ls.length cl, .slice A D.bs.length c] tFn) := ⟨_, rfl⟩
 have HB1 := Lib.hid (show Below w.heap.size w w1 from by rw [hw1]; exact ((Below.refl _ _).alloc (Nat.le_refl _) _).alloc (by simp) _)
 have HX := Lib.hid (show Box w1 w.heap.size tFn (.int .i64 D.p) (.bool D.u) (.slice Bl D.ls.length dl) (.slice B D.bs.length d) from by rw [hw1]; exact (Box.mk rfl).more)
 have HY := Lib.hid (show Box w1 (w.heap.size + 1) tFn (.int .i64 D.p) (.bool D.u) (.slice Al D.ls.length cl) (.slice A D.bs.length c) from by rw [hw1]; exact Box.mk (by simp))
 have hw0 : w.heap.size <= w1.heap.size := HB1.out.size
 have hlx := HX.out.lt
 have hly := HY.out.lt
 obtain ⟨y0, y1, y2, y3⟩ := HX.out.cells
 obtain ⟨z0, z1, z2, z3⟩ := HY.out.cells
 go_enter Tryz.func13, Tryz.ntmps13
 go_upto_region 1 with fail
 rw [<- hw1]
 clear hw1
 go_upto_region 3 with fail
 go_wp2_with fail
 clear y0 y1 y2 y3 z0 z1 z2 z3
 go_loopg [5] D.ls.length (fun g s5 w8 => ∃ i : Nat, s5 = .int .i64 i /\ i <= D.ls.length /\ g = D.ls.length - i /\ Below w1.heap.size w1 w8)
 case atStart => exact ⟨0, rfl, Nat.zero_le _, rfl, Below.refl _ _⟩
 case round =>
  obtain ⟨i, rfl, hi, rfl, hbel⟩ := hrel
  have h0I : (0 : Int) <= (i : Int) := Int.natCast_nonneg _
  have HBL := Lib.hid hbel
  have HO := Lib.hid (HB1.out.trans (hbel.mono hw0))
  obtain ⟨y0, y1, y2, y3⟩ := (HX.out.below hbel).cells
  obtain ⟨z0, z1, z2, z3⟩ := (HY.out.below hbel).cells
  clear hbel
  rcases Nat.lt_or_ge i D.ls.length with hlt | hge
  ·have hltI : (i : Int) < (D.ls.length : Int) := by omega
   obtain ⟨t, ht⟩ : ∃ t, D.ls[i]? = some t := ⟨_, List.getElem?_eq_getElem hlt⟩
   obtain ⟨k, m, rfl⟩ : ∃ k m : Int, t = [.int .u8 k, .int .u8 m] := by
    have hkt := HF.out.lkd t (List.mem_of_getElem? ht)
    match t, hkt with
    | [_, _], ⟨⟨a, rfl, _⟩, ⟨b, rfl, _⟩, _⟩ => exact ⟨a, b, rfl⟩
   obtain ⟨ga, oa, ea, hga, hra⟩ := (HRM.out.below HO.out) i _ ht
   obtain ⟨gc, oc, ec, hgc, hrc⟩ := (HRL.out.below HO.out) i _ ht
   subst ea ec
   have c0 := hra 0 _ rfl
   have c1 := hra 1 _ rfl
   have d0 := hrc 0 _ rfl
   have d1 := hrc 1 _ rfl
   simp only [Nat.add_zero] at c0 d0
   clear hra hrc ht y0 y1 y3 z0 z1 z3
   go_upto_region 6 with fail
   refine dI [⟨w.heap.size, 2, none⟩, ⟨w.heap.size + 1, 2, none⟩, ⟨ga, oa + i * 2, none⟩, ⟨ga, oa + i * 2 + 1, none⟩, ⟨gc, oc + i * 2, none⟩, ⟨gc, oc + i * 2 + 1, none⟩] [(0, true), (1, true), (2, true), (3, true), (4, true), (5, true), (6, true), (7, true), (8, true), (9, true), (10, true)] (by kernel_rfl) (by kernel_rfl) (by decide) (by kernel_rfl) (fun _ _ _ _ _ h => h) ?_
   have y2 : wr.drew.cell? ⟨w.heap.size, 2, none⟩ = _ := y2
   have z2 : wr.drew.cell? ⟨w.heap.size + 1, 2, none⟩ = _ := z2
   have c0 : wr.drew.cell? ⟨ga, oa + i * 2, none⟩ = _ := c0
   have c1 : wr.drew.cell? ⟨ga, oa + i * 2 + 1, none⟩ = _ := c1
   have d0 : wr.drew.cell? ⟨gc, oc + i * 2, none⟩ = _ := d0
   have d1 : wr.drew.cell? ⟨gc, oc + i * 2 + 1, none⟩ = _ := d1
   iterate 11 (refine SeqC.take (v := ?_) rfl (by rfl) (fun W hW => ?_) ?_; rotate_left; (focus (have zy2 := hW.get (by simp) y2; have zz2 := hW.get (by simp) z2; have zc0 := hW.get (by simp) c0; have zc1 := hW.get (by simp) c1; have zd0 := hW.get (by simp) d0; have zd1 := hW.get (by simp) d1; go_simp; with_reducible rfl)); simp only [Act.put, List.setIfInBounds_toArray, List.set_cons_zero, List.set_cons_succ])
   refine SeqC.done ?_
   go_wp2_with fail
   go_roundg (D.ls.length - (i + 1))
   case measure => omega
   case rel => exact ⟨i + 1, by simp, by omega, rfl, HBL.out.drew⟩
  ·obtain rfl : i = D.ls.length := by omega
   go_wp2_with fail
   clear y0 y1 y2 y3 z0 z1 z2 z3
   go_loopg [6] D.bs.length (fun g s6 w8 => ∃ i : Nat, s6 = .int .i64 i /\ i <= D.bs.length /\ g = D.bs.length - i /\ Below w1.heap.size w1 w8)
   case atStart => exact ⟨0, rfl, Nat.zero_le _, rfl, HBL.out⟩
   case round =>
    clear HBL HO
    obtain ⟨i, rfl, hi2, rfl, hbel⟩ := hrel
    have h0I2 : (0 : Int) <= (i : Int) := Int.natCast_nonneg _
    have HBL := Lib.hid hbel
    have HO := Lib.hid (HB1.out.trans (hbel.mono hw0))
    obtain ⟨y0, y1, y2, y3⟩ := (HX.out.below hbel).cells
    obtain ⟨z0, z1, z2, z3⟩ := (HY.out.below hbel).cells
    clear hbel
    rcases Nat.lt_or_ge i D.bs.length with hlt | hge2
    ·have hltI : (i : Int) < (D.bs.length : Int) := by omega
     obtain ⟨x, hx⟩ : ∃ x, D.bs[i]? = some x := ⟨_, List.getElem?_eq_getElem hlt⟩
     obtain ⟨z, hz⟩ : ∃ z, D'.bs[i]? = some z := ⟨_, List.getElem?_eq_getElem (by rw [xE HE4.out]; exact hlt)⟩
     have hzx : z.core = x.core := by
      have hi := congrArg (fun l => l[i]?) HE4.out
      simp only [List.getElem?_map, hx, hz] at hi
      exact Option.some.inj hi
     unfold bH.core at hzx
     injection hzx with _ f1 _ f2 f3 f4
     have hxb := HF.out.blk x (List.mem_of_getElem? hx)
     have hzb := HG.out.blk z (List.mem_of_getElem? hz)
     obtain ⟨ga, oa, ea, hga, hra⟩ := HRC.out i z.cells (by rw [List.getElem?_map, hz]; rfl)
     obtain ⟨gc, oc, ec, hgc, hrc⟩ := HRB.out i x.cells (by rw [List.getElem?_map, hx]; rfl)
     subst ea ec
     obtain ⟨As, cs, es, _, hrs⟩ := lq.TR hxb
     obtain ⟨Zs, ds, ez, _, hrz⟩ := lq.TR hzb
     rw [f3] at ez hrz
     have lx := lu hxb
     have lz := lu hzb
     have ox := Di hxb
     have oz := Di hzb
     have hst := HL.out.s x (List.mem_of_getElem? hx)
     have hop := HL.out.o x (List.mem_of_getElem? hx)
     have HJX := Lib.hid (wu hxb)
     have HJZ := Lib.hid (wu hzb)
     have HXB := Lib.hid hxb
     have HF1 := Lib.hid f1
     have HF2 := Lib.hid f2
     have HF4 := Lib.hid f4
     have HES := Lib.hid es
     have HEZ := Lib.hid ez
     have HRS := Lib.hid hrs
     have HRZ := Lib.hid hrz
     have HRA := Lib.hid hra
     have HRX := Lib.hid hrc
     have hwr := HBL.out.size
     clear hx hz hxb hzb f1 f2 f3 f4 es ez hrs hrz hra hrc y0 y1 y2 z0 z1 z2
     go_upto_region 11 with fail
     go_cut [7, 8] from 58 to 107 (fun s7 s8 wx => ∃ P Q : Nat, s7 = .pointer (some ⟨P, 0, none⟩) /\ s8 = .pointer (some ⟨Q, 0, none⟩) /\ wx.heap[P]? = some (.cells z.cells.toArray tBk (0, 0)) /\ wx.heap[Q]? = some (.cells x.cells.toArray tBk (0, 0)) /\ Below wr.heap.size wr wx)
     case first =>
      refine qN wr.heap.size (by kernel_rfl) ?_
      have hbd : Below wr.heap.size wr wr.drew := (Below.refl _ _).drew
      have hsd : wr.drew.heap.size = wr.heap.size := rfl
      have HOd := Lib.hid HO.out.drew
      have y3 : wr.drew.cell? ⟨w.heap.size, 3, none⟩ = _ := y3
      have z3 : wr.drew.cell? ⟨w.heap.size + 1, 3, none⟩ = _ := z3
      generalize wr.drew = wd at *
      have HQ0 := Lib.hid (fun W (hW : Below wr.heap.size wd W) => (hW.cell (p := ⟨w.heap.size, 3, none⟩) (by show w.heap.size < wr.heap.size; omega)).trans y3)
      have HQ1 := Lib.hid (fun W (hW : Below wr.heap.size wd W) => (hW.cell (p := ⟨w.heap.size + 1, 3, none⟩) (by show w.heap.size + 1 < wr.heap.size; omega)).trans z3)
      have HQA := Lib.hid (fun W (hW : Below wr.heap.size wd W) => iE HRA.out hga (HOd.out.trans (hW.mono (by omega))))
      have HQX := Lib.hid (fun W (hW : Below wr.heap.size wd W) => iE HRX.out hgc (HOd.out.trans (hW.mono (by omega))))
      have ha1 : z.cells.toArray.all (·.oneCell') = true := by rw [List.all_toArray]; exact List.all_eq_true.2 oz
      have hx1 : x.cells.toArray.all (·.oneCell') = true := by rw [List.all_toArray]; exact List.all_eq_true.2 ox
      clear y3 z3 ox oz
      refine AnyE.take (i := 0) (v := ?_) (by kernel_rfl) rfl (by kernel_rfl) (by kernel_rfl) (fun _ _ _ _ _ h => h) (by rfl) (fun W hW => ?_) ?_; rotate_left; (focus (go_simp; with_reducible rfl)); simp only [Act.put, List.setIfInBounds_toArray, List.set_cons_zero, List.set_cons_succ]
      refine AnyE.take (i := 1) (v := ?_) (by kernel_rfl) rfl (by kernel_rfl) (by kernel_rfl) (fun _ _ _ _ _ h => h) (by rfl) (fun W hW => ?_) ?_; rotate_left; (focus (have q := HQ0.out W hW; go_simp; with_reducible rfl)); simp only [Act.put, List.setIfInBounds_toArray, List.set_cons_zero, List.set_cons_succ]
      refine AnyE.take (i := 2) (v := ?_) (by kernel_rfl) rfl (by kernel_rfl) (by kernel_rfl) (fun _ _ _ _ _ h => h) (by rfl) (fun W hW => ?_) ?_; rotate_left; (focus (go_simp; with_reducible rfl)); simp only [Act.put, List.setIfInBounds_toArray, List.set_cons_zero, List.set_cons_succ]
      refine AnyE.take (i := 3) (v := ?_) (by kernel_rfl) rfl (by kernel_rfl) (by kernel_rfl) (fun _ _ _ _ _ h => h) (by rfl) (fun W hW => ?_) ?_; rotate_left; (focus (go_simp; with_reducible rfl)); simp only [Act.put, List.setIfInBounds_toArray, List.set_cons_zero, List.set_cons_succ]
      refine AnyE.take (i := 4) (v := .agg z.cells.toArray) (by kernel_rfl) rfl (by kernel_rfl) (by kernel_rfl) (fun _ _ _ _ _ h => h) (by rfl) (fun W hW => twin.lN tBk _ rfl ga (oa + i * 14) rfl z.cells _ (HQA.out W hW) Tryz.underlying60 rfl (by rw [lz]; exact bR)) ?_; simp only [Act.put, List.setIfInBounds_toArray, List.set_cons_zero, List.set_cons_succ]
      refine AnyE.take (i := 5) (v := ?_) (by kernel_rfl) rfl (by kernel_rfl) (by kernel_rfl) (fun _ _ _ _ _ h => h) (by rfl) (fun W hW => ?_) ?_; rotate_left; (focus (go_simp; with_reducible rfl)); simp only [Act.put, List.setIfInBounds_toArray, List.set_cons_zero, List.set_cons_succ]
      refine AnyE.take (i := 6) (v := ?_) (by kernel_rfl) rfl (by kernel_rfl) (by kernel_rfl) (fun _ _ _ _ _ h => h) (by rfl) (fun W hW => ?_) ?_; rotate_left; (focus (have q := HQ1.out W hW; go_simp; with_reducible rfl)); simp only [Act.put, List.setIfInBounds_toArray, List.set_cons_zero, List.set_cons_succ]
      refine AnyE.take (i := 7) (v := ?_) (by kernel_rfl) rfl (by kernel_rfl) (by kernel_rfl) (fun _ _ _ _ _ h => h) (by rfl) (fun W hW => ?_) ?_; rotate_left; (focus (go_simp; with_reducible rfl)); simp only [Act.put, List.setIfInBounds_toArray, List.set_cons_zero, List.set_cons_succ]
      refine AnyE.take (i := 8) (v := ?_) (by kernel_rfl) rfl (by kernel_rfl) (by kernel_rfl) (fun _ _ _ _ _ h => h) (by rfl) (fun W hW => ?_) ?_; rotate_left; (focus (go_simp; with_reducible rfl)); simp only [Act.put, List.setIfInBounds_toArray, List.set_cons_zero, List.set_cons_succ]
      refine AnyE.take (i := 9) (v := .agg x.cells.toArray) (by kernel_rfl) rfl (by kernel_rfl) (by kernel_rfl) (fun _ _ _ _ _ h => h) (by rfl) (fun W hW => twin.lN tBk _ rfl gc (oc + i * 14) rfl x.cells _ (HQX.out W hW) Tryz.underlying60 rfl (by rw [lx]; exact bR)) ?_; simp only [Act.put, List.setIfInBounds_toArray, List.set_cons_zero, List.set_cons_succ]
      have hwd : wr.heap.size <= wd.heap.size := Nat.le_of_eq hsd.symm
      refine AnyE.all (rs := [10, 11]) (by kernel_rfl) rfl ?_
      refine List.forall_mem_cons.2 ⟨?_, List.forall_mem_cons.2 ⟨?_, by simp⟩⟩
      ·refine jP (by rfl) (by rfl) (fun H => .pointer (some ⟨H, 0, none⟩)) #[.slice none 0 0, .int .u8 0, .int .u8 0, .int .i64 0, .int .i64 0, .bool false, .int .u8 0, .int .i64 0, .int .i64 0, .int .i64 0, .slice none 0 0, .int .i64 0, .bool false, .int .u8 0] tBk (by go_simp) hwd fun P wn eP hH kN bN sN => ?_
       simp only [Act.put, List.setIfInBounds_toArray, List.set_cons_zero, List.set_cons_succ]
       refine AnyE.all (rs := [11]) (by kernel_rfl) rfl ?_
       refine List.forall_mem_cons.2 ⟨?_, by simp⟩
       refine jP (by rfl) (by rfl) (fun H => .pointer (some ⟨H, 0, none⟩)) #[.slice none 0 0, .int .u8 0, .int .u8 0, .int .i64 0, .int .i64 0, .bool false, .int .u8 0, .int .i64 0, .int .i64 0, .int .i64 0, .slice none 0 0, .int .i64 0, .bool false, .int .u8 0] tBk (by go_simp) (by omega) fun Q wm eQ hH2 kN2 bN2 sN2 => ?_
       simp only [Act.put, List.setIfInBounds_toArray, List.set_cons_zero, List.set_cons_succ]
       have hH3 := kN2 _ _ (by simp) hH
       have hPQ : P ≠ Q := by omega
       refine AnyE.all (rs := [12]) (by kernel_rfl) rfl ?_
       refine List.forall_mem_cons.2 ⟨?_, by simp⟩
       refine jK rfl (by rfl) tBk _ _ rfl P 0 z.cells.toArray rfl rfl hH3 (by rw [List.size_toArray, lz]; decide) (by rw [List.size_toArray, lz]; exact bR) ha1 (by omega) (fun w5 DS hS eS kS bS sS => ?_)
       obtain rfl : DS = z.cells.toArray := Array.ext' (by rw [eS, List.size_toArray, lz]; simp)
       clear eS
       have hQ5 := kS Q _ (by simp; omega) hH2
       simp only [Act.put]
       refine AnyE.all (rs := [13]) (by kernel_rfl) rfl ?_
       refine List.forall_mem_cons.2 ⟨?_, by simp⟩
       refine jK rfl (by rfl) tBk _ _ rfl Q 0 x.cells.toArray rfl rfl hQ5 (by rw [List.size_toArray, lx]; decide) (by rw [List.size_toArray, lx]; exact bR) hx1 (by omega) (fun w6 DS hS2 eS kS2 bS2 sS2 => ?_)
       obtain rfl : DS = x.cells.toArray := Array.ext' (by rw [eS, List.size_toArray, lx]; simp)
       clear eS
       have hP6 := kS2 P _ (by simp; omega) hS
       have hend := (((hbd.trans bN).trans bN2).trans bS).trans bS2
       have HE := Lib.hid (And.intro hP6 (And.intro hS2 hend))
       clear hP6 hS2 hend kS kS2 bS bS2 sS sS2 hQ5 hS hH hH2 hH3 kN kN2 bN bN2 sN sN2 eP eQ hPQ
       simp only [Act.put]
       refine AnyE.done (by kernel_rfl) ?_
       go_wp2_with fail
       go_meet
       exact ⟨P, Q, rfl, rfl, HE.out.1, HE.out.2.1, HE.out.2.2⟩
      ·refine jP (by rfl) (by rfl) (fun H => .pointer (some ⟨H, 0, none⟩)) #[.slice none 0 0, .int .u8 0, .int .u8 0, .int .i64 0, .int .i64 0, .bool false, .int .u8 0, .int .i64 0, .int .i64 0, .int .i64 0, .slice none 0 0, .int .i64 0, .bool false, .int .u8 0] tBk (by go_simp) hwd fun Q wn eP hH kN bN sN => ?_
       simp only [Act.put, List.setIfInBounds_toArray, List.set_cons_zero, List.set_cons_succ]
       refine AnyE.all (rs := [10]) (by kernel_rfl) rfl ?_
       refine List.forall_mem_cons.2 ⟨?_, by simp⟩
       refine jP (by rfl) (by rfl) (fun H => .pointer (some ⟨H, 0, none⟩)) #[.slice none 0 0, .int .u8 0, .int .u8 0, .int .i64 0, .int .i64 0, .bool false, .int .u8 0, .int .i64 0, .int .i64 0, .int .i64 0, .slice none 0 0, .int .i64 0, .bool false, .int .u8 0] tBk (by go_simp) (by omega) fun P wm eQ hH2 kN2 bN2 sN2 => ?_
       simp only [Act.put, List.setIfInBounds_toArray, List.set_cons_zero, List.set_cons_succ]
       have hH3 := kN2 _ _ (by simp) hH
       have hPQ : P ≠ Q := by omega
       refine AnyE.all (rs := [12]) (by kernel_rfl) rfl ?_
       refine List.forall_mem_cons.2 ⟨?_, by simp⟩
       refine jK rfl (by rfl) tBk _ _ rfl P 0 z.cells.toArray rfl rfl hH2 (by rw [List.size_toArray, lz]; decide) (by rw [List.size_toArray, lz]; exact bR) ha1 (by omega) (fun w5 DS hS eS kS bS sS => ?_)
       obtain rfl : DS = z.cells.toArray := Array.ext' (by rw [eS, List.size_toArray, lz]; simp)
       clear eS
       have hQ5 := kS Q _ (by simp; omega) hH3
       simp only [Act.put]
       refine AnyE.all (rs := [13]) (by kernel_rfl) rfl ?_
       refine List.forall_mem_cons.2 ⟨?_, by simp⟩
       refine jK rfl (by rfl) tBk _ _ rfl Q 0 x.cells.toArray rfl rfl hQ5 (by rw [List.size_toArray, lx]; decide) (by rw [List.size_toArray, lx]; exact bR) hx1 (by omega) (fun w6 DS hS2 eS kS2 bS2 sS2 => ?_)
       obtain rfl : DS = x.cells.toArray := Array.ext' (by rw [eS, List.size_toArray, lx]; simp)
       clear eS
       have hP6 := kS2 P _ (by simp; omega) hS
       have hend := (((hbd.trans bN).trans bN2).trans bS).trans bS2
       have HE := Lib.hid (And.intro hP6 (And.intro hS2 hend))
       clear hP6 hS2 hend kS kS2 bS bS2 sS sS2 hQ5 hS hH hH2 hH3 kN kN2 bN bN2 sN sN2 eP eQ hPQ
       simp only [Act.put]
       refine AnyE.done (by kernel_rfl) ?_
       go_wp2_with fail
       go_meet
       exact ⟨P, Q, rfl, rfl, HE.out.1, HE.out.2.1, HE.out.2.2⟩
     obtain ⟨P, Q, rfl, rfl, hP, hQ, hbx⟩ := hcut
     have HBC := Lib.hid (HBL.out.trans (hbx.mono hwr))
     have HOC := Lib.hid (HB1.out.trans (HBC.out.mono hw0))
     have p0 : wc.cell? ⟨P, 0, none⟩ = some (.slice Zs x.st.length ds) := by rw [cell_of_row wc P 0 _ tBk (0, 0) hP, <- HEZ.out]; rfl
     have q0 : wc.cell? ⟨Q, 0, none⟩ = some (.slice As x.st.length cs) := by rw [cell_of_row wc Q 0 _ tBk (0, 0) hQ, <- HES.out]; rfl
     have hrp : wc.rangeAt P 1 (z.pre ++ z.a :: z.post) := fun j u hj => by
      rw [cell_of_row _ P (1 + j) _ tBk (0, 0) hP, Nat.add_comm 1 j]
      simpa [bH.cells] using hj
     have hrq : wc.rangeAt Q 1 (x.pre ++ x.a :: x.post) := fun j u hj => by
      rw [cell_of_row _ Q (1 + j) _ tBk (0, 0) hQ, Nat.add_comm 1 j]
      simpa [bH.cells] using hj
     have jz : (z.pre ++ z.a :: z.post).length = 13 := by
      have : z.cells.length = (z.pre ++ z.a :: z.post).length + 1 := rfl
      omega
     have jx : (x.pre ++ x.a :: x.post).length = 13 := by
      have : x.cells.length = (x.pre ++ x.a :: x.post).length + 1 := rfl
      omega
     have HRP := Lib.hid hrp
     have HRQ := Lib.hid hrq
     have HSJ := Lib.hid (a3v (t := true) (HJZ.out.frz HOC.out.block) (HJX.out.frz HOC.out.block) HF1.out HF2.out (.inl ⟨rfl, HF4.out, by rw [HF4.out]; omega⟩))
     have HP := Lib.hid hP
     have HQ := Lib.hid hQ
     clear hrp hrq hP hQ hbx
     go_upto_region 14 with (first | (refine wpList_want (by rfl) (wp_load_mid tJm _ rfl P 1 rfl (z.pre ++ z.a :: z.post) _ HRP.out Tryz.underlying58 rfl (by rw [jz]; exact jR) ?_)) | (refine wpList_want (by rfl) (wp_load_mid tJm _ rfl Q 1 rfl (x.pre ++ x.a :: x.post) _ HRQ.out Tryz.underlying58 rfl (by rw [jx]; exact jR) ?_)) | (go_at_call 28; refine HSJ.out.mono ?_; rintro e w2 ⟨rfl, b2⟩))
     have HB2 := Lib.hid (HBC.out.trans (b2.mono HBC.out.size))
     have HP2 := Lib.hid ((b2.block _ (Array.getElem?_eq_some_iff.1 HP.out).1).trans HP.out)
     have HQ2 := Lib.hid ((b2.block _ (Array.getElem?_eq_some_iff.1 HQ.out).1).trans HQ.out)
     clear p0 q0 b2 HBC HOC HRP HRQ HSJ HP HQ
     go_wp2_with fail
     go_loopg [9] x.st.length (fun g s9 w8 => ∃ k : Nat, s9 = .int .i64 k /\ k <= x.st.length /\ g = x.st.length - k /\ Below w2.heap.size w2 w8)
     case atStart => exact ⟨0, rfl, Nat.zero_le _, rfl, Below.refl _ _⟩
     case round =>
      obtain ⟨k, rfl, hk, rfl, hbel⟩ := hrel
      have h0K : (0 : Int) <= (k : Int) := Int.natCast_nonneg _
      have hP3 := (hbel.block _ (Array.getElem?_eq_some_iff.1 HP2.out).1).trans HP2.out
      have hQ3 := (hbel.block _ (Array.getElem?_eq_some_iff.1 HQ2.out).1).trans HQ2.out
      have hPl := (Array.getElem?_eq_some_iff.1 hP3).1
      have hQl := (Array.getElem?_eq_some_iff.1 hQ3).1
      have p0 : wr.cell? ⟨P, 0, none⟩ = some (.slice Zs x.st.length ds) := by rw [cell_of_row wr P 0 _ tBk (0, 0) hP3, <- HEZ.out]; rfl
      have q0 : wr.cell? ⟨Q, 0, none⟩ = some (.slice As x.st.length cs) := by rw [cell_of_row wr Q 0 _ tBk (0, 0) hQ3, <- HES.out]; rfl
      have HB3 := Lib.hid (HB2.out.trans (hbel.mono HB2.out.size))
      have HO3 := Lib.hid (HB1.out.trans ((HB2.out.trans (hbel.mono HB2.out.size)).mono hw0))
      have HBEL := Lib.hid hbel
      clear hbel hP3 hQ3
      rcases Nat.lt_or_ge k x.st.length with hkl | hkg
      ·have hklI : (k : Int) < (x.st.length : Int) := by omega
       obtain ⟨el, hel⟩ : ∃ el, x.st[k]? = some el := ⟨_, List.getElem?_eq_getElem hkl⟩
       have hkk := HXB.out.skd el (List.mem_of_getElem? hel)
       obtain ⟨gs, os, eS, hgs, hrs⟩ := HRS.out k el hel
       obtain ⟨gz, oz, eZ, hgz, hrz⟩ := HRZ.out k el hel
       subst eS eZ
       have h26 : el.length = 26 := hkk.len.symm
       have HNE := Lib.hid (fun W => afG hkk W)
       have HRS2 := Lib.hid hrs
       have HRZ2 := Lib.hid hrz
       clear hel hkk hrs hrz
       go_upto_region 17 with fail
       refine qN wr.heap.size (by kernel_rfl) ?_
       have hbd : Below wr.heap.size wr wr.drew := (Below.refl _ _).drew
       have hsd : wr.drew.heap.size = wr.heap.size := rfl
       have HOd := Lib.hid HO3.out.drew
       have p0 : wr.drew.cell? ⟨P, 0, none⟩ = _ := p0
       have q0 : wr.drew.cell? ⟨Q, 0, none⟩ = _ := q0
       have hend : Below w2.heap.size w2 wr.drew := HBEL.out.drew
       have HEN := Lib.hid hend
       clear hend
       generalize wr.drew = wd at *
       have HQ0 := Lib.hid (fun W (hW : Below wr.heap.size wd W) => (hW.cell (p := ⟨P, 0, none⟩) hPl).trans p0)
       have HQ1 := Lib.hid (fun W (hW : Below wr.heap.size wd W) => (hW.cell (p := ⟨Q, 0, none⟩) hQl).trans q0)
       have HQA := Lib.hid (fun W (hW : Below wr.heap.size wd W) => iE HRZ2.out hgz (HOd.out.trans (hW.mono (by have := HO3.out.size; omega))))
       have HQX := Lib.hid (fun W (hW : Below wr.heap.size wd W) => iE HRS2.out hgs (HOd.out.trans (hW.mono (by have := HO3.out.size; omega))))
       clear p0 q0
       refine AnyE.take (i := 0) (v := ?_) (by kernel_rfl) rfl (by kernel_rfl) (by kernel_rfl) (fun _ _ _ _ _ h => h) (by rfl) (fun W hW => ?_) ?_; rotate_left; (focus (go_simp; with_reducible rfl)); simp only [Act.put, List.setIfInBounds_toArray, List.set_cons_zero, List.set_cons_succ]
       refine AnyE.take (i := 1) (v := ?_) (by kernel_rfl) rfl (by kernel_rfl) (by kernel_rfl) (fun _ _ _ _ _ h => h) (by rfl) (fun W hW => ?_) ?_; rotate_left; (focus (have q := HQ0.out W hW; go_simp; with_reducible rfl)); simp only [Act.put, List.setIfInBounds_toArray, List.set_cons_zero, List.set_cons_succ]
       refine AnyE.take (i := 2) (v := ?_) (by kernel_rfl) rfl (by kernel_rfl) (by kernel_rfl) (fun _ _ _ _ _ h => h) (by rfl) (fun W hW => ?_) ?_; rotate_left; (focus (go_simp; with_reducible rfl)); simp only [Act.put, List.setIfInBounds_toArray, List.set_cons_zero, List.set_cons_succ]
       refine AnyE.take (i := 3) (v := ?_) (by kernel_rfl) rfl (by kernel_rfl) (by kernel_rfl) (fun _ _ _ _ _ h => h) (by rfl) (fun W hW => ?_) ?_; rotate_left; (focus (go_simp; with_reducible rfl)); simp only [Act.put, List.setIfInBounds_toArray, List.set_cons_zero, List.set_cons_succ]
       refine AnyE.take (i := 4) (v := .agg el.toArray) (by kernel_rfl) rfl (by kernel_rfl) (by kernel_rfl) (fun _ _ _ _ _ h => h) (by rfl) (fun W hW => twin.lN tSt _ rfl gz (oz + k * 26) rfl el _ (HQA.out W hW) Tryz.underlying78 rfl (by rw [h26]; exact sR)) ?_; simp only [Act.put, List.setIfInBounds_toArray, List.set_cons_zero, List.set_cons_succ]
       refine AnyE.take (i := 5) (v := ?_) (by kernel_rfl) rfl (by kernel_rfl) (by kernel_rfl) (fun _ _ _ _ _ h => h) (by rfl) (fun W hW => ?_) ?_; rotate_left; (focus (go_simp; with_reducible rfl)); simp only [Act.put, List.setIfInBounds_toArray, List.set_cons_zero, List.set_cons_succ]
       refine AnyE.take (i := 6) (v := ?_) (by kernel_rfl) rfl (by kernel_rfl) (by kernel_rfl) (fun _ _ _ _ _ h => h) (by rfl) (fun W hW => ?_) ?_; rotate_left; (focus (have q := HQ1.out W hW; go_simp; with_reducible rfl)); simp only [Act.put, List.setIfInBounds_toArray, List.set_cons_zero, List.set_cons_succ]
       refine AnyE.take (i := 7) (v := ?_) (by kernel_rfl) rfl (by kernel_rfl) (by kernel_rfl) (fun _ _ _ _ _ h => h) (by rfl) (fun W hW => ?_) ?_; rotate_left; (focus (go_simp; with_reducible rfl)); simp only [Act.put, List.setIfInBounds_toArray, List.set_cons_zero, List.set_cons_succ]
       refine AnyE.take (i := 8) (v := ?_) (by kernel_rfl) rfl (by kernel_rfl) (by kernel_rfl) (fun _ _ _ _ _ h => h) (by rfl) (fun W hW => ?_) ?_; rotate_left; (focus (go_simp; with_reducible rfl)); simp only [Act.put, List.setIfInBounds_toArray, List.set_cons_zero, List.set_cons_succ]
       refine AnyE.take (i := 9) (v := .agg el.toArray) (by kernel_rfl) rfl (by kernel_rfl) (by kernel_rfl) (fun _ _ _ _ _ h => h) (by rfl) (fun W hW => twin.lN tSt _ rfl gs (os + k * 26) rfl el _ (HQX.out W hW) Tryz.underlying78 rfl (by rw [h26]; exact sR)) ?_; simp only [Act.put, List.setIfInBounds_toArray, List.set_cons_zero, List.set_cons_succ]
       refine AnyE.take (i := 10) (v := .bool false) (by kernel_rfl) rfl (by kernel_rfl) (by kernel_rfl) (fun _ _ _ _ _ h => h) (by rfl) (fun W hW => SL tSt _ _ _ rfl rfl rfl (by kernel_rfl) (HNE.out W)) ?_; simp only [Act.put, List.setIfInBounds_toArray, List.set_cons_zero, List.set_cons_succ]
       refine AnyE.done (by kernel_rfl) ?_
       go_wp2_with fail
       go_roundg (x.st.length - (k + 1))
       case measure => omega
       case rel => exact ⟨k + 1, by simp, by omega, rfl, HEN.out⟩
      ·obtain rfl : k = x.st.length := by omega
       go_wp2_with fail
       go_roundg (D.bs.length - (i + 1))
       case measure => omega
       case rel => exact ⟨i + 1, by simp, by omega, rfl, HB3.out⟩
    ·obtain rfl : i = D.bs.length := by omega
     go_wp2_with fail
     go_ret
     exact ⟨rfl, HO.out⟩
end Go.Proofs.YtglmonlofejcgaaGreatDoor.txt
