/- constrain.All, by its contract: which constraints come from the regions of loans. -/
import Derived.Test.YthdcahkedlijpaaGreatLoanR
import Derived.Test.YthdcahkedlijpaaGreatRegC
namespace Go.Proofs.YthdcahkedlijpaaGreat.loan
open Go.RowKit Go.Proofs.YthdcahkedlijpaaGreat Go.Proofs.YthdcahkedlijpaaGreat.Am
set_option linter.unusedVariables false
set_option linter.unusedSimpArgs false
structure CInv (D : FnD) (n : Nat) (cl : List (List Value)) : Prop where
  lit : ∀ c ∈ cl, ∃ f t a y : Int, c = [.int .i64 f, .int .i64 t, .int .i64 a, .int .u8 y]
  from_ : ∀ k x, (lns D.bs n)[k]? = some x → cl.filter (fun c => decide (cellI c 0 = ((D.ls.length + k : Nat) : Int))) = if 0 ≤ cellI x 5 then [[.int .i64 (D.ls.length + k : Nat), .int .i64 (cellI x 5), .int .i64 (cellI x 0), .int .u8 2]] else []
  less : ∀ c ∈ cl, cellI c 0 < ((D.ls.length + (lns D.bs n).length : Nat) : Int)
  len : cl.length ≤ 2 * n
theorem CInv.nil (D : FnD) : CInv D 0 [] := ⟨fun c hc => (by cases hc), fun k x h => (by rw [lns_zero] at h; simp at h), fun c hc => (by cases hc), Nat.le_refl _⟩
theorem CInv.same {D : FnD} {n : Nat} {cl : List (List Value)} (h : CInv D n cl) (hl : lnN D.bs n = none) : CInv D (n + 1) cl := by
  refine ⟨h.lit, fun k x hx => ?_, fun c hc => ?_, by have := h.len; omega⟩
  · rw [lns_none hl] at hx
    exact h.from_ k x hx
  · rw [lns_none hl]
    exact h.less c hc
theorem filter_no {α : Type} {p : α → Bool} : ∀ {l : List α}, (∀ x ∈ l, p x = false) → l.filter p = []
  | [], _ => rfl
  | x :: l, h => by rw [List.filter_cons, h x (List.mem_cons_self ..)]; exact filter_no fun y hy => h y (List.mem_cons_of_mem _ hy)
theorem CInv.step {D : FnD} {n : Nat} {cl els : List (List Value)} {el : List Value} (h : CInv D n cl) (hs : stN D.bs n = some el) (h1 : 0 ≤ cellI el 1) (ho : OfOk D.ls.length (D.ls.length + (lns D.bs n).length) n el els) : CInv D (n + 1) (cl ++ els) := by
  have hlen := h.len
  have hel := ho.len
  cases hr : isRef el with
  | false =>
    have hln := ln_no hs hr
    have hf := ho.from_
    rw [hr, Bool.false_and] at hf
    have hno : ∀ x ∈ els, cellI x 0 < (D.ls.length : Int) := fun x hx => by
      rcases ho.less x hx with e | e
      · have : x ∈ els.filter (fun x => decide (cellI x 0 = ((D.ls.length + (lns D.bs n).length : Nat) : Int))) := List.mem_filter.2 ⟨hx, decide_eq_true e⟩
        rw [hf] at this
        cases this
      · exact e
    refine ⟨fun c hc => ?_, fun k x hx => ?_, fun c hc => ?_, by rw [List.length_append]; omega⟩
    · rcases List.mem_append.1 hc with k | k
      · exact h.lit c k
      · exact ho.lit c k
    · rw [lns_none hln] at hx
      rw [List.filter_append, h.from_ k x hx, filter_no (l := els) (fun y hy => decide_eq_false (by have := hno y hy; omega)), List.append_nil]
    · rw [lns_none hln]
      rcases List.mem_append.1 hc with k | k
      · exact h.less c k
      · have := hno c k
        omega
  | true =>
    have hln := ln_some hs hr
    refine ⟨fun c hc => ?_, fun k x hx => ?_, fun c hc => ?_, by rw [List.length_append]; omega⟩
    · rcases List.mem_append.1 hc with k | k
      · exact h.lit c k
      · exact ho.lit c k
    · rw [lns_some hln] at hx
      rw [List.filter_append]
      by_cases hk : k < (lns D.bs n).length
      · rw [List.getElem?_append_left hk] at hx
        rw [h.from_ k x hx, filter_no (l := els) (fun y hy => decide_eq_false (by rcases ho.less y hy with e | e <;> omega)), List.append_nil]
      · rw [List.getElem?_append_right (by omega)] at hx
        have hk0 : k - (lns D.bs n).length = 0 := by
          have := (List.getElem?_eq_some_iff.1 hx).1
          simpa using this
        rw [hk0] at hx
        have hx : some (lnS n el) = some x := hx
        cases hx
        obtain rfl : k = (lns D.bs n).length := by omega
        rw [filter_no (l := cl) (fun y hy => decide_eq_false (by have := h.less y hy; omega)), List.nil_append, ho.from_, hr, Bool.true_and]
        have e5 : cellI (lnS n el) 5 = if whole el then cellI el 1 else -1 := rfl
        have e0 : cellI (lnS n el) 0 = (n : Int) := rfl
        rw [e5, e0]
        cases hw : whole el with
        | true => rw [if_pos rfl, if_pos rfl, if_pos h1]
        | false => simp
    · rw [lns_some hln, List.length_append]
      rcases List.mem_append.1 hc with k | k
      · have := h.less c k
        show _ < ((D.ls.length + ((lns D.bs n).length + 1) : Nat) : Int)
        omega
      · show _ < ((D.ls.length + ((lns D.bs n).length + 1) : Nat) : Int)
        rcases ho.less c k with e | e <;> omega
theorem CInv.c4 {D : FnD} {n : Nat} {cl : List (List Value)} (h : CInv D n cl) : ∀ x ∈ cl, x.length = 4 := fun x hx => by
  obtain ⟨f, t, a, y, rfl⟩ := h.lit x hx
  rfl
theorem wp_append_els {P : Program} {w : World} {o : Oper} {a : Act} {K : Act → World → Prop} {Q : Exit → Act → World → Prop} (s x : Operand) (t : TypeId)
    (ho : o.op = .call { callee := .builtin .append, args := #[s, x], argTypes := #[t, t] }) (base : Nat) (e : TypeId) (z : Value) (size bytes : Nat) (ht : P.underlying t = some (.slice e)) (hrow : (P.info? e).map (fun i => (i.zero, i.size, i.bytes)) = some (some z, size, bytes)) (hzs : z.cells.size = size) (hsz : 0 < size)
    (v : Value) (n : Nat) (xs : List Value) (hs : a.eval s = v) (hown : w.ownsRow base e size v n xs) (sv : Value) (els : List (List Value)) (hx : a.eval x = sv) (hl : ListAt w sv size els) (h1 : ∀ el ∈ els, ∀ u ∈ el, u.oneCell' = true)
    (h63 : n + els.length ≤ 1000000) (hby : bytes ≤ 1000000) (w0 : World) (hbel : Below base w0 w) (hbase : base ≤ w.heap.size)
    (h : ∀ v' w', w'.ownsRow base e size v' (n + els.length) (xs ++ els.flatten) → Below base w0 w' → (∀ p : Addr, p.block < w.heap.size → some p.block ≠ v.ownBlock → w'.cell? p = w.cell? p) → K (a.put o.dst v') w') : o.wp P a w K Q := by
  obtain ⟨v', w', hr, h2, h3, _, _⟩ := run_append_list (P := P) (w := w) base t o.type e z size bytes ht hrow hzs hsz v n xs hown hl h1 h63 hby hbase
  unfold Oper.wp execOp
  simp only [ho, resolve, invoke, builtin, Sem.run_bind, Sem.run_pure, Result.andThen_ok, List.map_toArray, List.map_cons, List.map_nil, hs, hx, hr]
  exact h v' w' h2 (hbel.grown h3 hbase (fun k hk => (hown.lt k hk).1)) fun p hp hn => h3.cell_far p hp hn
def CE (D : FnD) (W : World) (e : Ending) (W' : World) : Prop := ∃ s cl, e = .returned (.tuple #[s, .int .i64 0]) ∧ NewL tC 4 cl W s W' ∧ CInv D (sizeN D) cl
theorem RowsAt.at {w w' : World} {A : Option Addr} {sz i : Nat} {els : List (List Value)} {el : List Value} (h : RowsAt w A sz els) (hb : Below w.heap.size w w') (hi : els[i]? = some el) : ∃ g o, A = some ⟨g, o, none⟩ ∧ g < w.heap.size ∧ w'.rangeAt g (o + i * sz) el := by
  obtain ⟨g, o, e, hg, hr⟩ := h i el hi
  exact ⟨g, o, e, hg, fun j v hj => (hb.cell (p := ⟨g, o + i * sz + j, none⟩) hg).trans (hr j v hj)⟩
set_option maxRecDepth 100000 in
set_option maxHeartbeats 4000000 in
theorem call_c {w : World} {v : Value} {D : FnD} (h : FnOk' w v D) (hc : check.chkF D = 0) : Calls Tryz.prog 28 #[v] w (CE D w) := by
  have hsm := small_of hc
  have hC : ChkIs w v 0 := hc ▸ chk_is h
  have hP := fun w1 (hb : Below w.heap.size w w1) => points_c (h.frz hb.block) hsm (hC.more hb)
  have hO := fun (b : BlkD) (hb : b ∈ D.bs) (el : List Value) (hs : el ∈ b.st) (h0 : cellI el 0 = 1) (n loan : Nat) (hl : D.ls.length ≤ loan) w1 (hbl : Below w.heap.size w w1) => of_c (h.frz hbl.block) hc hb hs h0 n loan hl
  have HF := Lib.hid h
  unfold ChkIs at hC
  obtain ⟨A, c, e, hm, hr⟩ := FnOk'.blks h
  obtain ⟨Av, cv, elv, hmv, _⟩ := ListAt.rows h.locals (by decide)
  rw [h.eq, e, elv] at hC hP hO ⊢
  have HC := Lib.hid hC
  have HP := Lib.hid hP
  have HO := Lib.hid hO
  have HR := Lib.hid hr
  have HS := Lib.hid hsm
  have hN : sizeN D ≤ 600 := hsm.start (Nat.le_refl _)
  have hN6 : (sizeN D : Int) ≤ 600 := by omega
  have hls := (check.small_of (size.of_chk hc).1).1
  have HOK := Lib.hid (fun (b : BlkD) (hb : b ∈ D.bs) (el : List Value) (hs : el ∈ b.st) => (show 0 ≤ cellI el 1 from (st_range ((h.blk b hb).skd el hs) (by
    have := check.okB_of (size.of_chk hc).2.1 b hb
    unfold made.okB at this
    rw [Bool.and_eq_true] at this
    exact List.all_eq_true.1 this.1 el hs) (c := 1) (by simp)).1))
  clear hC hP hO h hr e elv hc hsm
  have B0 : Box (w.alloc (.cells #[.int .i64 D.p, .bool D.u, .slice Av D.ls.length cv, .slice A D.bs.length c] tF)) w.heap.size tF (.int .i64 D.p) (.bool D.u) (.slice Av D.ls.length cv) (.slice A D.bs.length c) := Box.mk rfl
  have b0 : Below w.heap.size w (w.alloc (.cells #[.int .i64 D.p, .bool D.u, .slice Av D.ls.length cv, .slice A D.bs.length c] tF)) := (Below.refl _ _).alloc (Nat.le_refl _) _
  go_enter Tryz.func28, Tryz.ntmps28
  go_upto_region 7 with (first | (go_at_call 30; refine (HC.out _ b0).mono ?_; rintro e w1 ⟨rfl, b1⟩; have B1 := B0.below b1; have b01 := b0.trans (b1.mono b0.size); obtain ⟨y0, y1, y2, y3⟩ := B1.cells) | (go_at_call 31; refine (HP.out _ b01).mono ?_; rintro e w2 ⟨s, rfl, hpt⟩))
  have b2 := hpt.2
  have b02 := b01.trans (b2.mono b01.size)
  obtain ⟨Ap, cp, rfl, hrp⟩ := hpt.read (by decide) (ptsL_2 D)
  have HBX := Lib.hid (B1.below b2)
  obtain ⟨z0, z1, z2, z3⟩ := (B1.below b2).cells
  have HRP := Lib.hid hrp
  rw [ptsL_len] at *
  clear hpt hrp B0 b0 y0 y1 y2 y3 B1 b1 b01 b2 HC HP
  go_wp2
  go_loopg [7, 8, 30] (sizeN D) (fun g s7 s8 s30 wr => ∃ (n : Nat) (cl : List (List Value)), s30 = .int .i64 n ∧ n ≤ sizeN D ∧ g = sizeN D - n ∧ s8 = .int .i64 (D.ls.length + (lns D.bs n).length : Nat) ∧ wr.ownsRow w2.heap.size tC 4 s7 cl.length cl.flatten ∧ CInv D n cl ∧ Below w2.heap.size w2 wr)
  case atStart => exact ⟨0, [], rfl, Nat.zero_le _, rfl, rfl, World.ownsRow_nil _ _ _ _, CInv.nil D, Below.refl _ _⟩
  case round =>
    obtain ⟨n, cl, rfl, hn, rfl, rfl, hown, hinv, hbel⟩ := hrel
    have hsz := hbel.size
    rcases Nat.lt_or_ge n (sizeN D) with hlt | hge
    · have hltI : (n : Int) < (sizeN D : Int) := by omega
      have h0N : (0 : Int) ≤ (n : Int) := Int.natCast_nonneg _
      have hll := lns_len (bs := D.bs) n
      have hci := hinv.len
      obtain ⟨i, k, hi, hk, hnik⟩ := pt_ex hlt
      obtain ⟨b, hb⟩ : ∃ b, D.bs[i]? = some b := ⟨_, List.getElem?_eq_getElem hi⟩
      rw [lenB_of hb] at hk
      have hbm := List.mem_of_getElem? hb
      have hbw : Below w.heap.size w wr := b02.trans (hbel.mono b02.size)
      obtain ⟨As, cs, es, hms, hrs⟩ := BlkOk.stms (HF.out.blk b hbm)
      have hst : stN D.bs n = b.st[k]? := by rw [hnik, st_at hi (by rw [lenB_of hb]; exact hk), getD_mem hb]
      obtain ⟨gp, op, eP, hgp, hcp⟩ := RowsAt.at HRP.out hbel (i := n) (el := [.int .i64 i, .int .i64 k]) (by unfold ptsL; rw [hnik, List.getElem?_map, pt_get hi (by rw [lenB_of hb]; exact hk)]; rfl)
      obtain ⟨gb, ob, eA, hgb, hcb⟩ := RowsAt.at HR.out hbw (i := i) (el := b.cells) (by rw [List.getElem?_map, hb]; rfl)
      subst eA eP
      obtain ⟨t0, t1, t2, t3⟩ := (HBX.out.below hbel).cells
      have hlt0 := (HBX.out.below hbel).lt
      have p0 := hcp 0 _ rfl
      have p1 := hcp 1 _ rfl
      simp only [Nat.add_zero] at p0
      have cg := hcb 0 b.s rfl
      rw [es] at cg
      simp only [Nat.add_zero] at cg
      have hgbr : gb < wr.heap.size := Nat.lt_of_lt_of_le hgb hbw.size
      have hgpr : gp < wr.heap.size := Nat.lt_of_lt_of_le hgp hbel.size
      have hiI : (i : Int) < (D.bs.length : Int) := by omega
      have h0I : (0 : Int) ≤ (i : Int) := Int.natCast_nonneg _
      have h0K : (0 : Int) ≤ (k : Int) := Int.natCast_nonneg _
      have HOWN := Lib.hid hown
      have HINV := Lib.hid hinv
      have HB := Lib.hid hbel
      have HST := Lib.hid hst
      have HRS := Lib.hid hrs
      have HBW := Lib.hid hbw
      have HBM := Lib.hid hbm
      clear hcb hcp hown hinv hbel hst hrs es hbw hnik hbm hb z0 z1 z2 z3
      go_upto_region 13 with fail
      generalize hwa : (wr.alloc (.cells #[.int .i64 i, .int .i64 k] 83)) = wa
      have hba : Below wr.heap.size wr wa := by rw [← hwa]; exact (Below.refl _ _).alloc (Nat.le_refl _) _
      have sa : wa.heap.size = wr.heap.size + 1 := by rw [← hwa]; simp
      have q0 : wa.cell? ⟨wr.heap.size, 0, none⟩ = some (.int .i64 i) := by rw [← hwa, cell_of_row _ wr.heap.size 0 _ tP (0, 0) (at_alloc rfl)]; rfl
      have q1 : wa.cell? ⟨wr.heap.size, 1, none⟩ = some (.int .i64 k) := by rw [← hwa, cell_of_row _ wr.heap.size 1 _ tP (0, 0) (at_alloc rfl)]; rfl
      have u0 := (hba.cell (p := ⟨w.heap.size, 0, none⟩) hlt0).trans t0
      have u1 := (hba.cell (p := ⟨w.heap.size, 1, none⟩) hlt0).trans t1
      have u2 := (hba.cell (p := ⟨w.heap.size, 2, none⟩) hlt0).trans t2
      have u3 := (hba.cell (p := ⟨w.heap.size, 3, none⟩) hlt0).trans t3
      have HOA := Lib.hid (owns_below HOWN.out hba)
      have HBA := Lib.hid (HB.out.trans (hba.mono HB.out.size))
      have HBWA := Lib.hid (HBW.out.trans (hba.mono HBW.out.size))
      clear hwa hba t0 t1 t2 t3 p0 p1 cg
      rcases Nat.lt_or_ge k b.st.length with hkl | hkg
      · have hklI : (k : Int) < (b.st.length : Int) := by omega
        have hkne : ((k : Int) == (b.st.length : Int)) = false := by simp; omega
        obtain ⟨el, hel⟩ : ∃ el, b.st[k]? = some el := ⟨_, List.getElem?_eq_getElem hkl⟩
        have hem := List.mem_of_getElem? hel
        have hkk := (HF.out.blk b HBM.out).skd el hem
        obtain ⟨gs, os, eS, hgs, hrng⟩ := RowsAt.at HRS.out HBWA.out hel
        subst eS
        have hst := HST.out
        rw [hel] at hst
        obtain ⟨x0, x1, x3, x4, x6, x17, x19, d2, d18, v5, v7, v8, v9, v10, v11, v12, v13, v14, v15, v16, v20, v21, v22, v23, v24, v25, heL, _⟩ := stm_open hkk
        have h26 : el.length = 26 := hkk.len.symm
        have e0 := hrng 0 (.int .u8 x0) (by rw [heL]; rfl)
        simp only [Nat.add_zero] at e0
        have e4 := hrng 4 (.int .u8 x4) (by rw [heL]; rfl)
        have he0 : cellI el 0 = x0 := by rw [heL]; rfl
        have he4 : cellI el 4 = x4 := by rw [heL]; rfl
        have HRN := Lib.hid hrng
        have HS2 := Lib.hid hst
        have HE0 := Lib.hid he0
        have HE4 := Lib.hid he4
        have HEM := Lib.hid hem
        clear hrng hst hel hkk heL he0 he4 hem
        by_cases h1 : x0 = 1
        · subst h1
          have HIR := Lib.hid (show isRef el = decide (x4 = 4) by
            have : isRef el = (decide (cellI el 0 = 1) && decide (cellI el 4 = 4)) := rfl
            rw [this, HE0.out, HE4.out]
            rfl)
          go_upto_region 14 with fail
          refine region_cells ([⟨w.heap.size, 0, none⟩, ⟨w.heap.size, 1, none⟩, ⟨w.heap.size, 2, none⟩, ⟨w.heap.size, 3, none⟩, ⟨wr.heap.size, 1, none⟩] ++ (List.range 26).map (fun j => ⟨gs, os + k * 26 + j, none⟩)) [(0, true), (1, true), (2, true), (3, true), (4, true), (5, true), (6, true), (7, true), (8, true), (9, false), (10, false), (11, true)] (by kernel_rfl) (by kernel_rfl) (by decide) (by kernel_rfl) (fun _ _ _ _ _ h => h) ?_
          have d0 : wa.drew.cell? ⟨w.heap.size, 0, none⟩ = _ := u0
          have d1 : wa.drew.cell? ⟨w.heap.size, 1, none⟩ = _ := u1
          have d2 : wa.drew.cell? ⟨w.heap.size, 2, none⟩ = _ := u2
          have d3 : wa.drew.cell? ⟨w.heap.size, 3, none⟩ = _ := u3
          have d4 : wa.drew.cell? ⟨wr.heap.size, 1, none⟩ = _ := q1
          (refine SeqC.take (v := ?_) rfl (by rfl) (fun W hW => ?_) ?_; rotate_left; (focus (have q0 := hW.get (by simp) d0; have q1 := hW.get (by simp) d1; have q2 := hW.get (by simp) d2; have q3 := hW.get (by simp) d3; have q4 := hW.get (by simp) d4; go_simp; with_reducible rfl)); simp only [Act.put, List.setIfInBounds_toArray, List.set_cons_zero, List.set_cons_succ])
          (refine SeqC.take (v := ?_) rfl (by rfl) (fun W hW => ?_) ?_; rotate_left; (focus (have q0 := hW.get (by simp) d0; have q1 := hW.get (by simp) d1; have q2 := hW.get (by simp) d2; have q3 := hW.get (by simp) d3; have q4 := hW.get (by simp) d4; go_simp; with_reducible rfl)); simp only [Act.put, List.setIfInBounds_toArray, List.set_cons_zero, List.set_cons_succ])
          (refine SeqC.take (v := ?_) rfl (by rfl) (fun W hW => ?_) ?_; rotate_left; (focus (have q0 := hW.get (by simp) d0; have q1 := hW.get (by simp) d1; have q2 := hW.get (by simp) d2; have q3 := hW.get (by simp) d3; have q4 := hW.get (by simp) d4; go_simp; with_reducible rfl)); simp only [Act.put, List.setIfInBounds_toArray, List.set_cons_zero, List.set_cons_succ])
          (refine SeqC.take (v := ?_) rfl (by rfl) (fun W hW => ?_) ?_; rotate_left; (focus (have q0 := hW.get (by simp) d0; have q1 := hW.get (by simp) d1; have q2 := hW.get (by simp) d2; have q3 := hW.get (by simp) d3; have q4 := hW.get (by simp) d4; go_simp; with_reducible rfl)); simp only [Act.put, List.setIfInBounds_toArray, List.set_cons_zero, List.set_cons_succ])
          (refine SeqC.take (v := ?_) rfl (by rfl) (fun W hW => ?_) ?_; rotate_left; (focus (have q0 := hW.get (by simp) d0; have q1 := hW.get (by simp) d1; have q2 := hW.get (by simp) d2; have q3 := hW.get (by simp) d3; have q4 := hW.get (by simp) d4; go_simp; with_reducible rfl)); simp only [Act.put, List.setIfInBounds_toArray, List.set_cons_zero, List.set_cons_succ])
          (refine SeqC.take (v := ?_) rfl (by rfl) (fun W hW => ?_) ?_; rotate_left; (focus (have q0 := hW.get (by simp) d0; have q1 := hW.get (by simp) d1; have q2 := hW.get (by simp) d2; have q3 := hW.get (by simp) d3; have q4 := hW.get (by simp) d4; go_simp; with_reducible rfl)); simp only [Act.put, List.setIfInBounds_toArray, List.set_cons_zero, List.set_cons_succ])
          refine ⟨_, .agg el.toArray, rfl, yieldsIf_load_mid (by rfl) tS _ (by rfl) gs (os + k * 26) (by rfl) el _ (fun W hW j u hj => (hW.get (List.mem_append_right _ (List.mem_map.2 ⟨j, List.mem_range.2 (by have := (List.getElem?_eq_some_iff.1 hj).1; omega), rfl⟩)) (HRN.out j u hj : wa.drew.cell? ⟨gs, os + k * 26 + j, none⟩ = some u))) Tryz.underlying51 rfl (by rw [h26]; exact sR), ?_⟩
          simp only [Act.put, List.setIfInBounds_toArray, List.set_cons_zero, List.set_cons_succ]
          (refine SeqC.take (v := ?_) rfl (by rfl) (fun W hW => ?_) ?_; rotate_left; (focus (have q0 := hW.get (by simp) d0; have q1 := hW.get (by simp) d1; have q2 := hW.get (by simp) d2; have q3 := hW.get (by simp) d3; have q4 := hW.get (by simp) d4; go_simp; with_reducible rfl)); simp only [Act.put, List.setIfInBounds_toArray, List.set_cons_zero, List.set_cons_succ])
          (refine SeqC.take (v := ?_) rfl (by rfl) (fun W hW => ?_) ?_; rotate_left; (focus (have q0 := hW.get (by simp) d0; have q1 := hW.get (by simp) d1; have q2 := hW.get (by simp) d2; have q3 := hW.get (by simp) d3; have q4 := hW.get (by simp) d4; go_simp; with_reducible rfl)); simp only [Act.put, List.setIfInBounds_toArray, List.set_cons_zero, List.set_cons_succ])
          refine SeqC.call (f := ?_) (args := ?_) rfl (by rfl) ?_ ?_
          rotate_left 2
          · (go_simp; first | with_reducible rfl | (refine ⟨?_, ?_⟩ <;> with_reducible rfl))
          refine (HO.out b HBM.out el HEM.out HE0.out n (D.ls.length + (lns D.bs n).length) (by omega) _ HBWA.out.drew).mono ?_
          rintro e w5 ⟨so, els, rfl, hnew, hok⟩
          have b5 := hnew.2
          have hla : ∀ p ∈ ([⟨w.heap.size, 0, none⟩, ⟨w.heap.size, 1, none⟩, ⟨w.heap.size, 2, none⟩, ⟨w.heap.size, 3, none⟩, ⟨wr.heap.size, 1, none⟩] ++ (List.range 26).map (fun j => (⟨gs, os + k * 26 + j, none⟩ : Addr)) : List Addr), p.block < wa.drew.heap.size := fun p hp => by
            rcases List.mem_append.1 hp with hp | hp
            · simp only [List.mem_cons, List.not_mem_nil, or_false] at hp
              show p.block < wa.heap.size
              rcases hp with rfl | rfl | rfl | rfl | rfl <;> simp <;> omega
            · obtain ⟨j, _, rfl⟩ := List.mem_map.1 hp
              show gs < wa.heap.size
              have := HBWA.out.size
              omega
          refine ⟨_, rfl, Cells.of_ext b5 hla, ?_⟩
          simp only [Act.put, List.setIfInBounds_toArray, List.set_cons_zero, List.set_cons_succ]
          have hl4 : ∀ x ∈ els, x.length = 4 := fun x hx => by
            obtain ⟨f, t, a, y, rfl⟩ := hok.lit x hx
            rfl
          have hla5 := ListAt.of_own hnew.1 hl4
          have hown5 := owns_below (show wa.drew.ownsRow w2.heap.size tC 4 _ cl.length cl.flatten from HOA.out) b5
          have hb25 : Below w2.heap.size w2 w5 := HBA.out.drew.trans (b5.mono (by show w2.heap.size ≤ wa.heap.size; exact HBA.out.size))
          have hel2 := hok.len
          refine SeqC.step rfl (by rfl) (fun K' hK => ?_)
          refine wp_append_els _ _ 72 rfl w2.heap.size tC (.agg #[.int .i64 0, .int .i64 0, .int .i64 0, .int .u8 0]) 4 32 Tryz.underlying72 cR rfl (by decide) _ _ _ rfl hown5 so els rfl hla5 (fun x hx u hu => by
            obtain ⟨f, t, a, y, rfl⟩ := hok.lit x hx
            simp only [List.mem_cons, List.not_mem_nil, or_false] at hu
            rcases hu with rfl | rfl | rfl | rfl <;> rfl) (by omega) (by omega) w2 hb25 hb25.size ?_
          intro v6 w6 hown6 hbel6 hfar
          have hs25 : w2.heap.size ≤ wr.heap.size := HB.out.size
          have hw2 := HBX.out.lt
          have hgsw : gs < w2.heap.size := Nat.lt_of_lt_of_le hgs b02.size
          have hkeep : ∀ p : Addr, p.block < w5.heap.size → (p.block < w2.heap.size ∨ wr.heap.size ≤ p.block) → w6.cell? p = w5.cell? p := fun p h1 h2 => hfar p h1 fun e => by
            have := HOWN.out.lt p.block e.symm
            omega
          have hs5 : wa.heap.size ≤ w5.heap.size := b5.size
          have m1 : w6.cell? ⟨wr.heap.size, 1, none⟩ = some (.int .i64 k) := (hkeep _ (by show wr.heap.size < _; omega) (.inr (Nat.le_refl _))).trans ((b5.cell (p := ⟨wr.heap.size, 1, none⟩) (by show wr.heap.size < wa.heap.size; omega)).trans q1)
          have m4 : w6.cell? ⟨gs, os + k * 26 + 4, none⟩ = some (.int .u8 x4) := (hkeep _ (by show gs < _; omega) (.inl hgsw)).trans ((b5.cell (p := ⟨gs, os + k * 26 + 4, none⟩) (by show gs < wa.heap.size; omega)).trans e4)
          have HI6 := Lib.hid (HINV.out.step HS2.out (HOK.out b HBM.out el HEM.out) hok)
          have HO6 := Lib.hid hown6
          have HB6 := Lib.hid hbel6
          refine hK _ _ (fun p hp => hkeep p (by have := hla p hp; have h2 : wa.drew.heap.size = wa.heap.size := rfl; omega) ?_) ?_
          · rcases List.mem_append.1 hp with hp | hp
            · simp only [List.mem_cons, List.not_mem_nil, or_false] at hp
              rcases hp with rfl | rfl | rfl | rfl | rfl
              · exact .inl hw2
              · exact .inl hw2
              · exact .inl hw2
              · exact .inl hw2
              · exact .inr (Nat.le_refl _)
            · obtain ⟨j, _, rfl⟩ := List.mem_map.1 hp
              exact .inl hgsw
          · simp only [Act.put, List.setIfInBounds_toArray, List.set_cons_zero, List.set_cons_succ]
            refine SeqC.take (v := ?_) rfl (by rfl) (fun W hW => ?_) ?_
            rotate_left
            focus (go_simp; with_reducible rfl)
            simp only [Act.put, List.setIfInBounds_toArray, List.set_cons_zero, List.set_cons_succ]
            refine SeqC.done ?_
            have hlsI : (D.ls.length : Int) ≤ 16 := by omega
            have hllI : ((lns D.bs n).length : Int) ≤ 600 := by omega
            clear d0 d1 d2 d3 d4 u0 u1 u2 u3 q0 q1 e0 e4 hkeep hfar hown6 hbel6 hown5 hla5 hla hl4 hnew hok hb25
            by_cases h4 : x4 = 4
            · subst h4
              have HLN := Lib.hid (ln_some HS2.out (by rw [HIR.out]; rfl))
              go_wp2
              go_roundg (sizeN D - (n + 1))
              case measure => omega
              case rel => exact ⟨n + 1, cl ++ els, by simp, by omega, rfl, by rw [lns_some HLN.out, List.length_append]; simp [Int.add_assoc], by rw [List.length_append, List.flatten_append]; exact HO6.out, HI6.out, HB6.out⟩
            · have n4 : (x4 == 4) = false := by simpa using h4
              have HLN := Lib.hid (ln_no HS2.out (by rw [HIR.out, decide_eq_false h4]))
              go_wp2
              go_roundg (sizeN D - (n + 1))
              case measure => omega
              case rel => exact ⟨n + 1, cl ++ els, by simp, by omega, rfl, by rw [lns_none HLN.out]; simp, by rw [List.length_append, List.flatten_append]; exact HO6.out, HI6.out, HB6.out⟩
        · have n1 : (x0 != 1) = true := by simpa using h1
          have HLN := Lib.hid (ln_no HS2.out (by
            have : isRef el = (decide (cellI el 0 = 1) && decide (cellI el 4 = 4)) := rfl
            rw [this, HE0.out, decide_eq_false h1]
            rfl))
          go_wp2
          go_roundg (sizeN D - (n + 1))
          case measure => omega
          case rel => exact ⟨n + 1, cl, by simp, by omega, rfl, by rw [lns_none HLN.out], HOA.out, HINV.out.same HLN.out, HBA.out⟩
      · obtain rfl : k = b.st.length := by omega
        have hkeq : ((b.st.length : Int) == (b.st.length : Int)) = true := by simp
        have hst := HST.out
        rw [List.getElem?_eq_none (Nat.le_refl _)] at hst
        have HLN := Lib.hid (ln_none hst)
        clear hst
        go_wp2
        go_roundg (sizeN D - (n + 1))
        case measure => omega
        case rel => exact ⟨n + 1, cl, by simp, by omega, rfl, by rw [lns_none HLN.out], HOA.out, HINV.out.same HLN.out, HBA.out⟩
    · obtain rfl : n = sizeN D := by omega
      go_wp2
      go_ret2
      exact ⟨_, cl, rfl, ⟨owns_base hown b02.size, b02.trans (hbel.mono b02.size)⟩, hinv⟩
end Go.Proofs.YthdcahkedlijpaaGreat.loan
