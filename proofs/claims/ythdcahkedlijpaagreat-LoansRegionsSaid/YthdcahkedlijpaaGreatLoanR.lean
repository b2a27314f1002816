/- constrain.whole, reference and of, by their contracts. -/
import Derived.Test.YthdcahkedlijpaaGreatLoanF
namespace Go.Proofs.YthdcahkedlijpaaGreat.loan
open Go.RowKit Go.Proofs.YthdcahkedlijpaaGreat Go.Proofs.YthdcahkedlijpaaGreat.Am
set_option linter.unusedVariables false
abbrev tC : TypeId := 76
theorem cR : (Tryz.prog.info? 76).map (fun i => (i.zero, i.size, i.bytes)) = some (some (.agg #[.int .i64 0, .int .i64 0, .int .i64 0, .int .u8 0]), 4, 32) := by kernel_rfl
theorem cwhole_c (W : World) (x : Int) (d : Bool) (y : Int) : Calls Tryz.prog 66 #[.agg #[.int .i64 x, .bool d, .int .u8 y]] W (Ans1 W (.bool (!d && decide (y = 0)))) := by
  cases d with
  | true =>
    go_enter Tryz.func66, Tryz.ntmps66
    go_wp2
    go_ret
    exact ⟨rfl, (Below.refl _ _).alloc (Nat.le_refl _) _⟩
  | false =>
    by_cases hy : y = 0
    · subst hy
      go_enter Tryz.func66, Tryz.ntmps66
      go_wp2
      go_ret
      exact ⟨rfl, (Below.refl _ _).alloc (Nat.le_refl _) _⟩
    · have hy' : (y == 0) = false := by simpa using hy
      rw [decide_eq_false hy]
      go_enter Tryz.func66, Tryz.ntmps66
      go_wp2
      go_ret
      exact ⟨rfl, (Below.refl _ _).alloc (Nat.le_refl _) _⟩
def isRf (D : FnD) (j : Nat) : Bool := decide (cellI (D.ls.getD j []) 0 = 3) || decide (cellI (D.ls.getD j []) 0 = 4)
set_option maxRecDepth 100000 in
set_option maxHeartbeats 4000000 in
theorem ref_c {w : World} {v : Value} {D : FnD} (h : FnOk' w v D) {j : Nat} (hj : j < D.ls.length) : Calls Tryz.prog 67 #[v, .int .i64 (j : Nat)] w (Ans1 w (.bool (isRf D j))) := by
  obtain ⟨A, c, e, hm, hr⟩ := ListAt.rows h.locals (by decide)
  obtain ⟨t, ht⟩ : ∃ t, D.ls[j]? = some t := ⟨_, List.getElem?_eq_getElem hj⟩
  have hk := h.lkd t (List.mem_of_getElem? ht)
  obtain ⟨g, o, eA, hg, hc⟩ := hr j t ht
  subst eA
  have hi : isRf D j = (decide (cellI t 0 = 3) || decide (cellI t 0 = 4)) := by unfold isRf; rw [List.getD_eq_getElem?_getD, ht]; rfl
  rw [h.eq, e, hi]
  obtain ⟨v0, l0, rfl, ⟨x0, rfl, _⟩, q0⟩ := all2_cons' hk
  have c0 := hc 0 _ rfl
  simp only [Nat.add_zero] at c0
  have hjI : (j : Int) < (D.ls.length : Int) := by omega
  have h0J : (0 : Int) ≤ (j : Int) := Int.natCast_nonneg _
  show Calls _ _ _ _ (Ans1 w (.bool (decide (x0 = 3) || decide (x0 = 4))))
  clear h e hr ht hk hc q0 hi
  have b0 : Below w.heap.size w (w.alloc (.cells #[.int .i64 D.p, .bool D.u, .slice (some ⟨g, o, none⟩) D.ls.length c, D.bv] 25)) := (Below.refl _ _).alloc (Nat.le_refl _) _
  by_cases h3 : x0 = 3
  · subst h3
    go_enter Tryz.func67, Tryz.ntmps67
    go_wp2
    go_ret
    exact ⟨rfl, b0⟩
  · have n3 : (x0 == 3) = false := by simpa using h3
    rw [decide_eq_false h3]
    by_cases h4 : x0 = 4
    · subst h4
      go_enter Tryz.func67, Tryz.ntmps67
      go_wp2
      go_ret
      exact ⟨rfl, b0⟩
    · have n4 : (x0 == 4) = false := by simpa using h4
      rw [decide_eq_false h4]
      go_enter Tryz.func67, Tryz.ntmps67
      go_wp2
      go_ret
      exact ⟨rfl, b0⟩
theorem go_on {w a b : World} (h : Below w.heap.size w a) (k : Below a.heap.size a b) : Below w.heap.size w b := h.trans (k.mono h.size)
theorem go_al {w a : World} (h : Below w.heap.size w a) (o : Obj) : Below w.heap.size w (a.alloc o) := h.alloc h.size o
structure OfOk (nL loan n : Nat) (el : List Value) (els : List (List Value)) : Prop where
  lit : ∀ x ∈ els, ∃ f t a y : Int, x = [.int .i64 f, .int .i64 t, .int .i64 a, .int .u8 y]
  from_ : els.filter (fun x => decide (cellI x 0 = (loan : Int))) = if isRef el && whole el then [[.int .i64 (loan : Nat), .int .i64 (cellI el 1), .int .i64 (n : Nat), .int .u8 2]] else []
  less : ∀ x ∈ els, cellI x 0 = (loan : Int) ∨ cellI x 0 < (nL : Int)
  len : els.length ≤ 2
theorem OfOk.none {nL loan n : Nat} {el : List Value} (h : (isRef el && whole el) = false) : OfOk nL loan n el [] := ⟨fun x hx => (by cases hx), (by rw [h]; rfl), fun x hx => (by cases hx), Nat.zero_le _⟩
def OfE (D : FnD) (loan n : Nat) (el : List Value) (W : World) (e : Ending) (W' : World) : Prop := ∃ s els, e = .returned s ∧ NewL tC 4 els W s W' ∧ OfOk D.ls.length loan n el els
theorem owns_one {w : World} {base H : Nat} {e : TypeId} {size : Nat} {cs : Array Value} (hg : w.heap[H]? = some (.cells cs e (0, 0))) (hb : base ≤ H) (hs : cs.size = size) : w.ownsRow base e size (.slice (some ⟨H, 0, none⟩) 1 1) 1 cs.toList :=
  ⟨by simp [hs], .inr ⟨H, 1, cs, rfl, hb, hg, Nat.le_refl _, by simp [maxLen], by simp [hs], by rw [Nat.one_mul, ← hs, List.take_of_length_le (by simp)]⟩⟩
theorem near_17 {D : FnD} (hc : check.chkF D = 0) {b : BlkD} (hb : b ∈ D.bs) {st : List Value} (hs : st ∈ b.st) (h0 : cellI st 0 = 1) : cellI st 1 < D.ls.length ∧ (cellI st 4 = 4 → cellI st 17 < D.ls.length) ∧ (cellI st 4 = 1 → cellI st 7 ≠ 1 → cellI st 9 < D.ls.length) := by
  have hm := (size.of_chk hc).2.1
  unfold made.madeF at hm
  simp only [Bool.and_eq_true] at hm
  have h1 := List.all_eq_true.1 hm.2.2.2 b hb
  unfold made.outB at h1
  rw [Bool.and_eq_true] at h1
  have h2 := List.all_eq_true.1 h1.1 st hs
  unfold nearS nearE at h2
  simp only [ands, isE, imp, E.num, List.all_cons, List.all_nil, Bool.and_true, Bool.and_eq_true, Bool.or_eq_true, Bool.not_eq_true', decide_eq_true_eq, decide_eq_false_iff_not] at h2
  have e0 : Am.stV (D.ls.length : Int) st 0 = cellI st 0 := rfl
  have e4 : Am.stV (D.ls.length : Int) st 4 = cellI st 4 := rfl
  have e7 : Am.stV (D.ls.length : Int) st 7 = cellI st 7 := rfl
  have e27 : Am.stV (D.ls.length : Int) st 27 = ltI' (cellI st 1) D.ls.length := rfl
  have e28 : Am.stV (D.ls.length : Int) st 28 = ltI' (cellI st 9) D.ls.length := rfl
  have e30 : Am.stV (D.ls.length : Int) st 30 = ltI' (cellI st 17) D.ls.length := rfl
  rw [e0, e4, e7, e27, e28, e30] at h2
  rcases h2.2.2 with k | k
  · exact absurd h0 k
  · refine ⟨(one_iff _).1 k.1, fun h4 => ?_, fun h4 h7 => ?_⟩
    · rcases k.2.1 with q | q
      · simp [h4] at q
      · exact (one_iff _).1 q
    · rcases k.2.2.1 with q | q
      · simp [h4] at q
      · rcases q with q | q
        · exact absurd q h7
        · exact (one_iff _).1 q
set_option maxRecDepth 100000 in
set_option maxHeartbeats 1600000 in
theorem of_c {w : World} {v : Value} {D : FnD} (h : FnOk' w v D) (hc : check.chkF D = 0) {b : BlkD} (hb : b ∈ D.bs) {el : List Value} (hs : el ∈ b.st) (h0 : cellI el 0 = 1) (n loan : Nat) (hl : D.ls.length ≤ loan) :
    Calls Tryz.prog 43 #[v, .agg el.toArray, .int .i64 (n : Nat), .int .i64 (loan : Nat)] w (OfE D loan n el w) := by
  have hkk := (h.blk b hb).skd el hs
  have hve : okStE.val el = true := by
    have := check.okB_of (size.of_chk hc).2.1 b hb
    unfold made.okB at this
    rw [Bool.and_eq_true] at this
    exact List.all_eq_true.1 this.1 el hs
  have hR := fun (j : Nat) (hj : j < D.ls.length) w1 (hb : Below w.heap.size w w1) => ref_c (h.frz hb.block) hj
  obtain ⟨n1, n17, n9⟩ := near_17 hc hb hs h0
  have r1 := (st_range hkk hve (c := 1) (by simp)).1
  have r17 := (st_range hkk hve (c := 17) (by simp)).1
  have r9 := (st_range hkk hve (c := 9) (by simp)).1
  obtain ⟨u7, hu7, ⟨x7, rfl, _⟩⟩ := All2.nth hkk (n := 7) (x := .i .u8) rfl
  obtain ⟨u8, hu8, ⟨x8, rfl, _⟩⟩ := All2.nth hkk (n := 8) (x := .i .i64) rfl
  obtain ⟨u9, hu9, ⟨x9, rfl, _⟩⟩ := All2.nth hkk (n := 9) (x := .i .i64) rfl
  obtain ⟨u10, hu10, ⟨d10, rfl⟩⟩ := All2.nth hkk (n := 10) (x := .b) rfl
  obtain ⟨u11, hu11, ⟨x11, rfl, _⟩⟩ := All2.nth hkk (n := 11) (x := .i .u8) rfl
  obtain ⟨x0, x1, x3, x4, x6, x17, x19, d2, d18, v5, v7, v8, v9, v10, v11, v12, v13, v14, v15, v16, v20, v21, v22, v23, v24, v25, hel, hone⟩ := stm_open hkk
  have h26 : el.length = 26 := hkk.len.symm
  have e9 : cellI el 9 = x9 := by unfold cellI; rw [hu9]; rfl
  have e7 : cellI el 7 = x7 := by unfold cellI; rw [hu7]; rfl
  rw [e9] at n9 r9
  rw [e7] at n9
  have e1 : cellI el 1 = x1 := by rw [hel]; rfl
  have e4 : cellI el 4 = x4 := by rw [hel]; rfl
  have e17 : cellI el 17 = x17 := by rw [hel]; rfl
  rw [e1] at n1 r1
  rw [e17, e4] at n17
  rw [e17] at r17
  rw [e4] at n9
  obtain ⟨j1, rfl⟩ : ∃ j : Nat, x1 = (j : Int) := ⟨x1.toNat, by omega⟩
  obtain ⟨j17, rfl⟩ : ∃ j : Nat, x17 = (j : Int) := ⟨x17.toNat, by omega⟩
  obtain ⟨j9, rfl⟩ : ∃ j : Nat, x9 = (j : Int) := ⟨x9.toNat, by omega⟩
  have hwh : whole el = (decide (codeI (.bool d2) = 0) && decide (x3 = 0)) := by rw [hel]; rfl
  have hrf : isRef el = decide (x4 = 4) := by
    have : isRef el = (decide (cellI el 0 = 1) && decide (cellI el 4 = 4)) := rfl
    rw [this, h0, e4]
    rfl
  have HWH := Lib.hid hwh
  have HRF := Lib.hid hrf
  have HE1 := Lib.hid e1
  have N1 := Lib.hid n1
  have N17 := Lib.hid n17
  have N9 := Lib.hid n9
  rw [h.eq] at hR ⊢
  have HR := Lib.hid hR
  have HW := Lib.hid cwhole_c
  obtain ⟨wa, hwa⟩ : ∃ wa, wa = (w.alloc (.cells #[.int .i64 D.p, .bool D.u, D.lv, D.bv] 25)).alloc (.cells el.toArray 51) := ⟨_, rfl⟩
  have b0 : Below w.heap.size w wa := by rw [hwa]; exact ((Below.refl _ _).alloc (Nat.le_refl _) _).alloc (by simp) _
  have B0 : Box wa w.heap.size tF (.int .i64 D.p) (.bool D.u) D.lv D.bv := by rw [hwa]; exact (Box.mk rfl).more
  have sa : wa.heap.size = w.heap.size + 2 := by rw [hwa]; simp
  have hce : ∀ f u, el[f]? = some u → wa.cell? ⟨w.heap.size + 1, f, none⟩ = some u := fun f u hu => by
    rw [hwa, cell_of_row _ (w.heap.size + 1) f _ tS (0, 0) (at_alloc (by simp))]
    simpa using hu
  have c1 := hce 1 (.int .i64 (j1 : Nat)) (by rw [hel]; rfl)
  have c2 := hce 2 (.bool d2) (by rw [hel]; rfl)
  have c3 := hce 3 (.int .u8 x3) (by rw [hel]; rfl)
  have c4 := hce 4 (.int .u8 x4) (by rw [hel]; rfl)
  have c7 := hce 7 _ hu7
  have c8 := hce 8 _ hu8
  have c9 := hce 9 _ hu9
  have c10 := hce 10 _ hu10
  have c11 := hce 11 _ hu11
  have c17 := hce 17 (.int .i64 (j17 : Nat)) (by rw [hel]; rfl)
  have c18 := hce 18 (.bool d18) (by rw [hel]; rfl)
  have c19 := hce 19 (.int .u8 x19) (by rw [hel]; rfl)
  have hlt : w.heap.size + 1 < wa.heap.size := by omega
  have fnil : (isRef el && whole el) = false → ∀ w', Below w.heap.size w w' → OfE D loan n el w (.returned (.slice none 0 0)) w' := fun hq w' hb => ⟨_, [], rfl, ⟨World.ownsRow_nil _ _ _ _, hb⟩, OfOk.none hq⟩
  have HNIL := Lib.hid fnil
  have H1 := Lib.hid (fun f (u : Value) w' (hb : Below wa.heap.size wa w') (hu : wa.cell? ⟨w.heap.size + 1, f, none⟩ = some u) => (hb.cell (p := ⟨w.heap.size + 1, f, none⟩) hlt).trans hu)
  clear h hb hs hc hkk hve hR n1 n17 n9 r1 r17 r9 hu7 hu8 hu9 hu10 hu11 hel hone h26 e9 e7 e1 e4 e17 hwh hrf hce fnil h0
  go_enter Tryz.func43, Tryz.ntmps43
  go_upto_region 1 with fail
  rw [← hwa]
  clear hwa
  have HWN := Lib.hid (show (!d2 && decide (x3 = 0)) = whole el by rw [HWH.out]; cases d2 <;> rfl)
  cases hwl : whole el with
  | false =>
    have HQ := Lib.hid (show (isRef el && whole el) = false by rw [hwl, Bool.and_false])
    rw [hwl] at HWN
    have HWX := Lib.hid (fun W => (HWN.out ▸ HW.out W (j1 : Int) d2 x3 : Calls Tryz.prog 66 #[.agg #[.int .i64 (j1 : Nat), .bool d2, .int .u8 x3]] W (Ans1 W (.bool false))))
    clear hwl HW
    go_wp2_with (go_at_call 66; refine (HWX.out _).mono ?_; rintro e w1 ⟨rfl, b1⟩)
    go_ret
    exact HNIL.out HQ.out _ (b0.trans (b1.mono b0.size))
  | true =>
    have HWL := Lib.hid hwl
    rw [hwl] at HWN
    have HWX := Lib.hid (fun W => (HWN.out ▸ HW.out W (j1 : Int) d2 x3 : Calls Tryz.prog 66 #[.agg #[.int .i64 (j1 : Nat), .bool d2, .int .u8 x3]] W (Ans1 W (.bool true))))
    clear hwl
    go_upto_region 3 with (go_at_call 66; refine (HWX.out _).mono ?_; rintro e w1 ⟨rfl, b1⟩)
    have g1 := H1.out _ _ _ b1 c1
    have g4 := H1.out _ _ _ b1 c4
    have g7 := H1.out _ _ _ b1 c7
    have g8 := H1.out _ _ _ b1 c8
    have g9 := H1.out _ _ _ b1 c9
    have g10 := H1.out _ _ _ b1 c10
    have g11 := H1.out _ _ _ b1 c11
    have g17 := H1.out _ _ _ b1 c17
    have g18 := H1.out _ _ _ b1 c18
    have g19 := H1.out _ _ _ b1 c19
    have B1 := B0.below b1
    have b01 := b0.trans (b1.mono b0.size)
    obtain ⟨y0, y1, y2, y3⟩ := B1.cells
    have hlt1 := B1.lt
    have hlt2 : w.heap.size + 1 < w1.heap.size := Nat.lt_of_lt_of_le hlt b1.size
    have HB1 := Lib.hid B1
    have H01 := Lib.hid b01
    clear c1 c2 c3 c4 c7 c8 c9 c10 c11 c17 c18 c19 B0 b0 b1 B1 b01 H1
    by_cases h4 : x4 = 4
    · subst h4
      have n17 := N17.out rfl
      have HFR := Lib.hid (show (isRef el && whole el) = true by rw [HRF.out, HWL.out]; rfl)
      have OK1 := Lib.hid (show OfOk D.ls.length loan n el [[.int .i64 (loan : Nat), .int .i64 (j1 : Nat), .int .i64 (n : Nat), .int .u8 2]] from OfOk.mk (fun x hx => (by obtain rfl := List.mem_singleton.1 hx; exact ⟨_, _, _, _, rfl⟩)) (by rw [HFR.out, HE1.out]; simp [cellI, codeI]) (fun x hx => (by obtain rfl := List.mem_singleton.1 hx; exact .inl rfl)) (by simp))
      cases d18 with
      | false =>
        go_wp2
        go_ret
        exact ⟨_, [[.int .i64 (loan : Nat), .int .i64 (j1 : Nat), .int .i64 (n : Nat), .int .u8 2]], rfl, ⟨by simpa using owns_one (cs := #[.int .i64 (loan : Nat), .int .i64 (j1 : Nat), .int .i64 (n : Nat), .int .u8 2]) (at_more (at_alloc rfl)) (by have := H01.out.size; omega) rfl, go_al (go_al H01.out _) _⟩, OK1.out⟩
      | true =>
        have hR17 := HR.out j17 (by omega)
        cases hq : isRf D j17 with
        | false =>
          rw [hq] at hR17
          have HRX := Lib.hid hR17
          clear hR17 hq
          go_wp2_with (go_at_call 67; refine (HRX.out _ (go_al (go_al H01.out _) _)).mono ?_; rintro e w2 ⟨rfl, b2⟩)
          go_ret
          exact ⟨_, [[.int .i64 (loan : Nat), .int .i64 (j1 : Nat), .int .i64 (n : Nat), .int .u8 2]], rfl, ⟨owns_below (by simpa using owns_one (cs := #[.int .i64 (loan : Nat), .int .i64 (j1 : Nat), .int .i64 (n : Nat), .int .u8 2]) (at_more (at_alloc rfl)) (by have := H01.out.size; omega) rfl) b2, go_on (go_al (go_al H01.out _) _) b2⟩, OK1.out⟩
        | true =>
          rw [hq] at hR17
          have HRX := Lib.hid hR17
          clear hR17 hq
          have hn17 : (j17 : Int) ≠ (loan : Int) := by omega
          have OK2 := Lib.hid (show OfOk D.ls.length loan n el [[.int .i64 (loan : Nat), .int .i64 (j1 : Nat), .int .i64 (n : Nat), .int .u8 2], [.int .i64 (j17 : Nat), .int .i64 (j1 : Nat), .int .i64 (n : Nat), .int .u8 3]] from OfOk.mk (fun x hx => (by
            rcases List.mem_cons.1 hx with rfl | hx
            · exact ⟨_, _, _, _, rfl⟩
            · obtain rfl := List.mem_singleton.1 hx
              exact ⟨_, _, _, _, rfl⟩)) (by rw [HFR.out, HE1.out]; simp [cellI, codeI]; omega) (fun x hx => (by
            rcases List.mem_cons.1 hx with rfl | hx
            · exact .inl rfl
            · obtain rfl := List.mem_singleton.1 hx
              exact .inr n17)) (by simp))
          go_upto_region 9 with (go_at_call 67; refine (HRX.out _ (go_al (go_al H01.out _) _)).mono ?_; rintro e w2 ⟨rfl, b2⟩)
          have hown : w2.ownsRow w.heap.size tC 4 (.slice (some ⟨w1.heap.size, 0, none⟩) 1 1) 1 [.int .i64 (loan : Nat), .int .i64 (j1 : Nat), .int .i64 (n : Nat), .int .u8 2] := owns_below (by simpa using owns_one (cs := #[.int .i64 (loan : Nat), .int .i64 (j1 : Nat), .int .i64 (n : Nat), .int .u8 2]) (at_more (at_alloc rfl)) (by have := H01.out.size; omega) rfl) b2
          have hb2 := go_on (go_al (go_al H01.out _) _) b2
          have k17 := (b2.cell (p := ⟨w1.heap.size + 1, 0, none⟩) (by simp)).trans (cell_of_row _ (w1.heap.size + 1) 0 _ 45 (0, 0) (at_alloc (by simp)))
          have k17 : w2.cell? ⟨w1.heap.size + 1, 0, none⟩ = some (.int .i64 (j17 : Nat)) := k17
          have hs2 := hb2.size
          clear b2
          go_wp2_with (at_builtin; refine wpList_appendN (w0 := w) rfl _ _ 72 rfl w.heap.size tC (.agg #[.int .i64 0, .int .i64 0, .int .i64 0, .int .u8 0]) 4 32 Tryz.underlying72 cR rfl (by decide) _ _ _ rfl (hown.alloc _) [.int .i64 (j17 : Nat), .int .i64 (j1 : Nat), .int .i64 (n : Nat), .int .u8 3] _ 1 rfl (at_alloc rfl) rfl (by simp [Value.oneCell']) (by omega) (by omega) (go_al hb2 _) (by simp; omega) ?_; intro v5 w5 hown5 hbel5)
          go_ret
          exact ⟨_, [[.int .i64 (loan : Nat), .int .i64 (j1 : Nat), .int .i64 (n : Nat), .int .u8 2], [.int .i64 (j17 : Nat), .int .i64 (j1 : Nat), .int .i64 (n : Nat), .int .u8 3]], rfl, ⟨by simpa using hown5, hbel5⟩, OK2.out⟩
    · have n4 : (x4 == 4) = false := by simpa using h4
      have HQ := Lib.hid (show (isRef el && whole el) = false by rw [HRF.out, decide_eq_false h4]; rfl)
      by_cases h1 : x4 = 1
      · subst h1
        by_cases h7 : x7 = 1
        · subst h7
          go_wp2
          go_ret
          exact HNIL.out HQ.out _ (go_al H01.out _)
        · have n7 : (x7 != 1) = true := by simpa using h7
          have n9 := N9.out rfl h7
          have hWA := fun W => HW.out W (j9 : Int) d10 x11
          cases hwa : (!d10 && decide (x11 = 0)) with
          | false =>
            rw [hwa] at hWA
            have HWA := Lib.hid hWA
            clear hWA hwa
            go_wp2_with (go_at_call 66; refine (HWA.out _).mono ?_; rintro e w2 ⟨rfl, b2⟩)
            go_ret
            exact HNIL.out HQ.out _ (go_on (go_al H01.out _) b2)
          | true =>
            rw [hwa] at hWA
            have HWA := Lib.hid hWA
            clear hWA hwa
            have hj9 : j9 < D.ls.length := by omega
            have hj1 : j1 < D.ls.length := by have := N1.out; omega
            cases hq9 : isRf D j9 with
            | false =>
              go_wp2_with (first | (go_at_call 66; refine (HWA.out _).mono ?_; rintro e w2 ⟨rfl, b2⟩; have hbk := go_on (go_al H01.out _) b2; have hbx := (HB1.out.more).below b2; obtain ⟨z0, z1, z2, z3⟩ := hbx.cells; have k9 : w2.cell? ⟨w1.heap.size, 2, none⟩ = some (.int .i64 (j9 : Nat)) := (b2.cell (p := ⟨w1.heap.size, 2, none⟩) (by simp)).trans (cell_of_row _ w1.heap.size 2 _ 47 (0, 0) (at_alloc rfl)); have hlt9 : w1.heap.size < w2.heap.size := (by have := b2.size; simp at this; omega); clear b2) | (go_at_call 67; refine (HR.out _ (by first | exact hj9 | exact hj1) _ hbk).mono ?_; rintro e w3 ⟨rfl, b3⟩; have hbk := go_on hbk b3; have hbx := hbx.below b3; clear z0 z1 z2 z3; obtain ⟨z0, z1, z2, z3⟩ := hbx.cells; have k9 := (b3.cell (p := ⟨w1.heap.size, 2, none⟩) hlt9).trans k9; have hlt9 := Nat.lt_of_lt_of_le hlt9 b3.size; clear b3))
              go_ret
              exact HNIL.out HQ.out _ hbk
            | true =>
              cases hq1 : isRf D j1 with
              | false =>
                go_wp2_with (first | (go_at_call 66; refine (HWA.out _).mono ?_; rintro e w2 ⟨rfl, b2⟩; have hbk := go_on (go_al H01.out _) b2; have hbx := (HB1.out.more).below b2; obtain ⟨z0, z1, z2, z3⟩ := hbx.cells; have k9 : w2.cell? ⟨w1.heap.size, 2, none⟩ = some (.int .i64 (j9 : Nat)) := (b2.cell (p := ⟨w1.heap.size, 2, none⟩) (by simp)).trans (cell_of_row _ w1.heap.size 2 _ 47 (0, 0) (at_alloc rfl)); have hlt9 : w1.heap.size < w2.heap.size := (by have := b2.size; simp at this; omega); clear b2) | (go_at_call 67; refine (HR.out _ (by first | exact hj9 | exact hj1) _ hbk).mono ?_; rintro e w3 ⟨rfl, b3⟩; have hbk := go_on hbk b3; have hbx := hbx.below b3; clear z0 z1 z2 z3; obtain ⟨z0, z1, z2, z3⟩ := hbx.cells; have k9 := (b3.cell (p := ⟨w1.heap.size, 2, none⟩) hlt9).trans k9; have hlt9 := Nat.lt_of_lt_of_le hlt9 b3.size; clear b3))
                go_ret
                exact HNIL.out HQ.out _ hbk
              | true =>
                have OK3 := Lib.hid (show OfOk D.ls.length loan n el [[.int .i64 (j9 : Nat), .int .i64 (j1 : Nat), .int .i64 (n : Nat), .int .u8 1]] from OfOk.mk (fun x hx => (by obtain rfl := List.mem_singleton.1 hx; exact ⟨_, _, _, _, rfl⟩)) (by rw [HQ.out]; simp [cellI, codeI]; omega) (fun x hx => (by obtain rfl := List.mem_singleton.1 hx; exact .inr n9)) (by simp))
                go_wp2_with (first | (go_at_call 66; refine (HWA.out _).mono ?_; rintro e w2 ⟨rfl, b2⟩; have hbk := go_on (go_al H01.out _) b2; have hbx := (HB1.out.more).below b2; obtain ⟨z0, z1, z2, z3⟩ := hbx.cells; have k9 : w2.cell? ⟨w1.heap.size, 2, none⟩ = some (.int .i64 (j9 : Nat)) := (b2.cell (p := ⟨w1.heap.size, 2, none⟩) (by simp)).trans (cell_of_row _ w1.heap.size 2 _ 47 (0, 0) (at_alloc rfl)); have hlt9 : w1.heap.size < w2.heap.size := (by have := b2.size; simp at this; omega); clear b2) | (go_at_call 67; refine (HR.out _ (by first | exact hj9 | exact hj1) _ hbk).mono ?_; rintro e w3 ⟨rfl, b3⟩; have hbk := go_on hbk b3; have hbx := hbx.below b3; clear z0 z1 z2 z3; obtain ⟨z0, z1, z2, z3⟩ := hbx.cells; have k9 := (b3.cell (p := ⟨w1.heap.size, 2, none⟩) hlt9).trans k9; have hlt9 := Nat.lt_of_lt_of_le hlt9 b3.size; clear b3))
                go_ret
                exact ⟨_, [[.int .i64 (j9 : Nat), .int .i64 (j1 : Nat), .int .i64 (n : Nat), .int .u8 1]], rfl, ⟨by simpa using owns_one (cs := #[.int .i64 (j9 : Nat), .int .i64 (j1 : Nat), .int .i64 (n : Nat), .int .u8 1]) (at_alloc rfl) (by have := hbk.size; omega) rfl, go_al hbk _⟩, OK3.out⟩
      · have n1 : (x4 == 1) = false := by simpa using h1
        go_wp2
        go_ret
        exact HNIL.out HQ.out _ H01.out
end Go.Proofs.YthdcahkedlijpaaGreat.loan
