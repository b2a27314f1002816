/- stmt.Sets, lively.deeds and lively.Uses, by their contracts: which local a point sets. -/
import Derived.Test.YthdcahkedlijpaaGreatLoanF
import Derived.Test.YthdcahkedlijpaaGreatStU
import Derived.Test.YthdcahkedlijpaaGreatTargJ
namespace Go.Proofs.YthdcahkedlijpaaGreat.loan
open Go.RowKit Go.Proofs.YthdcahkedlijpaaGreat Go.Proofs.YthdcahkedlijpaaGreat.Am
set_option linter.unusedVariables false
def setI (el : List Value) : Int := if cellI el 0 = 3 then cellI el 25 else if cellI el 0 = 1 ∧ whole el = true then cellI el 1 else -1
theorem part_c (W : World) (x : Int) (d : Bool) (y : Int) (hy0 : 0 ≤ y) : Calls Tryz.prog 85 #[.agg #[.int .i64 x, .bool d, .int .u8 y]] W (Ans1 W (.bool (d || !decide (y = 0)))) := by
  cases d with
  | true =>
    go_enter Tryz.func85, Tryz.ntmps85
    go_wp2
    go_ret
    exact ⟨rfl, (Below.refl _ _).alloc (Nat.le_refl _) _⟩
  | false =>
    by_cases hy : y = 0
    · subst hy
      go_enter Tryz.func85, Tryz.ntmps85
      go_wp2
      go_ret
      exact ⟨rfl, (Below.refl _ _).alloc (Nat.le_refl _) _⟩
    · have hy' : 0 < y := by omega
      rw [decide_eq_false hy]
      go_enter Tryz.func85, Tryz.ntmps85
      go_wp2
      go_ret
      exact ⟨by simp, (Below.refl _ _).alloc (Nat.le_refl _) _⟩
set_option maxRecDepth 100000 in
set_option maxHeartbeats 4000000 in
theorem sets_c {W : World} {el : List Value} (h : All2 Kd.ok kS26 el) (hv : okStE.val el = true) : Calls Tryz.prog 59 #[.agg el.toArray] W (Ans1 W (.tuple #[.int .i64 (setI el), .int .i64 0])) := by
  have hC : ∀ W1, Calls Tryz.prog 70 #[.agg el.toArray] W1 (Ans1 W1 (.int .i64 0)) := fun W1 => by
    have := stA_tests el h W1 trivial
    rw [hv] at this
    exact this
  obtain ⟨u25, hu, hk25⟩ := All2.nth h (n := 25) (x := .i .i64) rfl
  obtain ⟨x25, rfl, _⟩ := hk25
  obtain ⟨x0, x1, x3, x4, x6, x17, x19, d2, d18, v5, v7, v8, v9, v10, v11, v12, v13, v14, v15, v16, v20, v21, v22, v23, v24, v25, hel, hone⟩ := stm_open h
  have hx3 : 0 ≤ x3 := by
    obtain ⟨u3, hu3, hk3⟩ := All2.nth h (n := 3) (x := .i .u8) rfl
    obtain ⟨y3, rfl, hy3, _⟩ := hk3
    rw [hel] at hu3
    have hu3 : some (Value.int .u8 x3) = some (Value.int .u8 y3) := hu3
    cases hu3
    exact hy3
  have h26 : el.length = 26 := h.len.symm
  have hs : setI el = if x0 = 3 then x25 else if x0 = 1 ∧ (decide (codeI (.bool d2) = 0) && decide (x3 = 0)) = true then x1 else -1 := by
    have e25 : cellI el 25 = x25 := by unfold cellI; rw [hu]; rfl
    unfold setI
    rw [e25, hel]
    rfl
  generalize setI el = R at hs ⊢
  have HC := Lib.hid hC
  have HP := Lib.hid part_c
  obtain ⟨wa, hwa⟩ : ∃ wa, wa = W.alloc (.cells el.toArray 51) := ⟨_, rfl⟩
  have b0 : Below W.heap.size W wa := by rw [hwa]; exact (Below.refl _ _).alloc (Nat.le_refl _) _
  have hlt : W.heap.size < wa.heap.size := by rw [hwa]; simp
  have hce : ∀ f u, el[f]? = some u → wa.cell? ⟨W.heap.size, f, none⟩ = some u := fun f u hu => by
    rw [hwa, cell_of_row _ W.heap.size f _ tS (0, 0) (at_alloc rfl)]
    simpa using hu
  have hrg : wa.rangeAt W.heap.size 0 el := fun j u hj => by rw [Nat.zero_add]; exact hce j u hj
  have e0 := hce 0 (.int .u8 x0) (by rw [hel]; rfl)
  have e1 := hce 1 (.int .i64 x1) (by rw [hel]; rfl)
  have e2 := hce 2 (.bool d2) (by rw [hel]; rfl)
  have e3 := hce 3 (.int .u8 x3) (by rw [hel]; rfl)
  have e25 := hce 25 (.int .i64 x25) hu
  have HR := Lib.hid hrg
  clear hC hce hrg hel hone hu h hv
  have fin : ∀ (r : Int) (w' : World), Below wa.heap.size wa w' → R = r → Ans1 W (.tuple #[.int .i64 R, .int .i64 0]) (.returned (.tuple #[.int .i64 r, .int .i64 0])) w' := fun r w' hb hr => ⟨by rw [hr], b0.trans (hb.mono b0.size)⟩
  have HRS := Lib.hid hs
  clear hs
  have HFIN := Lib.hid fin
  clear fin
  go_enter Tryz.func59, Tryz.ntmps59
  go_upto_region 1 with fail
  rw [← hwa]
  clear hwa
  go_upto_region 2 with (first | (refine wpList_load_mid rfl 51 _ rfl W.heap.size 0 rfl el _ HR.out Tryz.underlying51 rfl (by rw [h26]; exact sR) ?_) | (go_at_call 70; refine (HC.out _).mono ?_; rintro e w1 ⟨rfl, b1⟩))
  have f0 := (b1.cell (p := ⟨W.heap.size, 0, none⟩) hlt).trans e0
  have f1 := (b1.cell (p := ⟨W.heap.size, 1, none⟩) hlt).trans e1
  have f2 := (b1.cell (p := ⟨W.heap.size, 2, none⟩) hlt).trans e2
  have f3 := (b1.cell (p := ⟨W.heap.size, 3, none⟩) hlt).trans e3
  have f25 := (b1.cell (p := ⟨W.heap.size, 25, none⟩) hlt).trans e25
  have hlt1 : W.heap.size < w1.heap.size := Nat.lt_of_lt_of_le hlt b1.size
  have HB1 := Lib.hid b1
  clear e0 e1 e2 e3 e25 b1 hlt
  by_cases h3 : x0 = 3
  · subst h3
    go_wp2
    go_ret2
    exact HFIN.out _ _ HB1.out (by rw [HRS.out]; rfl)
  · have n3 : (x0 == 3) = false := by simpa using h3
    by_cases h1 : x0 = 1
    · subst h1
      cases d2 with
      | true =>
        go_wp2_with (go_at_call 85; refine (HP.out _ _ _ _ (by first | exact hx3 | exact Int.le_refl _)).mono ?_; rintro e w2 ⟨rfl, b2⟩)
        go_ret2
        exact HFIN.out _ _ (HB1.out.trans (b2.mono HB1.out.size)) (by rw [HRS.out]; rfl)
      | false =>
        by_cases hz : x3 = 0
        · subst hz
          go_wp2_with (go_at_call 85; refine (HP.out _ _ _ _ (by first | exact hx3 | exact Int.le_refl _)).mono ?_; rintro e w2 ⟨rfl, b2⟩; have g1 := (b2.cell (p := ⟨W.heap.size, 1, none⟩) hlt1).trans f1)
          go_ret2
          exact HFIN.out _ _ (HB1.out.trans (b2.mono HB1.out.size)) (by rw [HRS.out]; rfl)
        · have nz : decide (x3 = 0) = false := decide_eq_false hz
          have nz2 : (x3 == 0) = false := by simpa using hz
          have nz3 : ¬ x3 = 0 := hz
          go_wp2_with (go_at_call 85; refine (HP.out _ _ _ _ (by first | exact hx3 | exact Int.le_refl _)).mono ?_; rintro e w2 ⟨rfl, b2⟩)
          go_ret2
          exact HFIN.out _ _ (HB1.out.trans (b2.mono HB1.out.size)) (by rw [HRS.out, if_neg (by decide), if_neg (by rw [nz]; simp)])
    · have n1 : (x0 == 1) = false := by simpa using h1
      go_wp2
      go_ret2
      exact HFIN.out _ _ HB1.out (by rw [HRS.out, if_neg h3, if_neg (fun q => h1 q.1)])
def NewI (W W' : World) (s : Value) (l : List Int) : Prop := ∃ A c, s = .slice A l.length c ∧ (l.length : Int) ≤ 9223372036854775807 ∧ ∀ n x, l[n]? = some x → ∃ g, A = some ⟨g, 0, none⟩ ∧ g < W'.heap.size ∧ W'.cell? ⟨g, n, none⟩ = some (.int .i64 x)
theorem new_i {W W' : World} {s : Value} {l : List Int} (h : NewRow W W' s (l.map (Value.int .i64))) : NewI W W' s l := by
  generalize hl : l.map (Value.int .i64) = us at h
  cases h with
  | none =>
    have : l = [] := by simpa using hl
    subst this
    exact ⟨none, 0, rfl, by simp, fun n x h => by simp at h⟩
  | @row g cap C T fz _ hp hg hnew hfz hn hmx hcap hus =>
    have hlen : us.length = l.length := by rw [← hl]; simp
    refine ⟨some ⟨g, 0, none⟩, cap, by rw [hlen], by unfold maxLen at hmx; omega, fun n x hx => ⟨g, rfl, (Array.getElem?_eq_some_iff.1 hnew).1, ?_⟩⟩
    rw [cell_of_row W' g n C T fz hnew]
    have hj' : us[n]? = some (.int .i64 x) := by rw [← hl, List.getElem?_map, hx]; rfl
    rw [← hus, List.getElem?_take] at hj'
    split at hj'
    · simpa using hj'
    · cases hj'
def AnsN (W : World) (l : List Int) (e : Ending) (w' : World) : Prop := ∃ s, e = .returned (.tuple #[s, .int .i64 0]) ∧ NewI W w' s l ∧ Below W.heap.size W w'
def useS (el : List Value) : List Int := stU (stOf el)
def useJ (b : BlkD) : List Int := incT (usesJ b.pre b.ops b.post)
theorem suse_c {W : World} {el : List Value} (h : All2 Kd.ok kS26 el) (hv : okStE.val el = true) : Calls Tryz.prog 58 #[.agg el.toArray] W (AnsN W (useS el)) :=
  (tusA_lists el h hv W ⟨Nat.le_refl _⟩).mono fun e w' ⟨s, h1, h2, h3⟩ => ⟨s, h1, new_i h2, h3⟩
theorem juse_c {W : World} {b : BlkD} (h : JumpIs W (.agg (b.pre ++ b.a :: b.post).toArray) b.pre b.a b.post b.ops) (hok : okJF b = true) : Calls Tryz.prog 60 #[.agg (b.pre ++ b.a :: b.post).toArray] W (AnsN W (useJ b)) :=
  (jUsesA W _ b.pre b.a b.post b.ops h hok).mono fun e w' ⟨s, h1, h2, h3⟩ => ⟨s, h1, new_i h2, h3⟩
theorem mem_incr : ∀ (bs : List Bool) (i : Nat) {x : Int}, x ∈ incr i bs → 0 ≤ x
  | [], _, x, h => by cases h
  | b :: bs, i, x, h => by
    rcases List.mem_append.1 (show x ∈ (bif b then [(i : Int)] else []) ++ incr (i + 1) bs from h) with k | k
    · cases b
      · cases k
      · have := List.mem_singleton.1 k
        omega
    · exact mem_incr bs (i + 1) k
theorem useJ_0 (b : BlkD) {x : Int} (h : x ∈ useJ b) : 0 ≤ x := mem_incr _ _ h
theorem useS_0 {st : List Value} (h : All2 Kd.ok kS26 st) (hv : okStE.val st = true) {x : Int} (hx : x ∈ useS st) : 0 ≤ x := by
  have r1 := (st_range h hv (c := 1) (by simp)).1
  have r9 := (st_range h hv (c := 9) (by simp)).1
  have r14 := (st_range h hv (c := 14) (by simp)).1
  have r17 := (st_range h hv (c := 17) (by simp)).1
  have r22 := (st_range h hv (c := 22) (by simp)).1
  have hop : ∀ o : Opd, 0 ≤ o.l → ∀ y, y ∈ opU o → 0 ≤ y := fun o ho y hy => by
    unfold opU at hy
    split at hy
    · cases hy
    · rw [List.mem_singleton.1 hy]; exact ho
  have hrv : ∀ y, y ∈ rvU (stOf st).r → 0 ≤ y := fun y hy => by
    unfold rvU at hy
    split at hy
    · exact hop _ r9 y hy
    · split at hy
      · rcases List.mem_append.1 (srtU_mem.1 hy) with k | k
        · exact hop _ r9 y k
        · exact hop _ r14 y k
      · rw [List.mem_singleton.1 hy]; exact r17
  unfold useS stU at hx
  split at hx
  · split at hx
    · rcases insU_mem.1 hx with k | k
      · rw [k]; exact r1
      · exact hrv _ k
    · exact hrv _ hx
  · split at hx
    · cases hx
    · exact hop _ r22 x hx
def setB (b : BlkD) (k : Nat) : Int := match b.st[k]? with | some el => setI el | none => setJ b.pre b.post
def setP (bs : List BlkD) (p : Nat × Nat) : Int := setB (bs.getD p.1 b0) p.2
def setN (bs : List BlkD) (n : Nat) : Int := match (ptsTo bs bs.length)[n]? with | some p => setP bs p | none => -1
theorem IsPt.set {D : FnD} {n i k : Nat} (h : IsPt D n i k) : setN D.bs n = setB (D.bs.getD i b0) k := by
  unfold setN
  rw [h.eq, pt_get h.lt h.le]
  rfl
theorem blk_okJ {D : FnD} (hc : check.chkF D = 0) {b : BlkD} (hb : b ∈ D.bs) : okJF b = true ∧ ∀ st ∈ b.st, okStE.val st = true := by
  have := check.okB_of (size.of_chk hc).2.1 b hb
  unfold made.okB at this
  rw [Bool.and_eq_true] at this
  exact ⟨this.2, List.all_eq_true.1 this.1⟩
theorem BlkOk.frz {w w' : World} {b : BlkD} (h : BlkOk w b) (hb : Below w.heap.size w w') : BlkOk w' b := ⟨h.sts.frz hb.block, h.skd, h.prek, h.opl.frz hb.block, h.okd, h.postk⟩
theorem BlkOk.jump {w : World} {b : BlkD} (hk : BlkOk w b) : JumpIs w (.agg (b.pre ++ b.a :: b.post).toArray) b.pre b.a b.post b.ops :=
  ⟨rfl, hk.prek, hk.postk, ⟨hk.opl.sl, hk.opl.most, hk.opl.at_, fun i el he => hk.okd el (List.mem_of_getElem? he), hk.opl.cap⟩⟩
theorem jset_c {W : World} {b : BlkD} (h : JumpIs W (.agg (b.pre ++ b.a :: b.post).toArray) b.pre b.a b.post b.ops) (hok : okJF b = true) : Calls Tryz.prog 61 #[.agg (b.pre ++ b.a :: b.post).toArray] W (Ans1 W (.tuple #[.int .i64 (setJ b.pre b.post), .int .i64 0])) := jSetA W _ b.pre b.a b.post b.ops h hok
theorem jszR : (Tryz.prog.info? 56).map (·.size) = some 13 := by kernel_rfl
def Deed (W : World) (r : Int) (e : Ending) (W' : World) : Prop := ∃ m : Int, e = .returned (.tuple #[.int .u32 m, .int .i64 r, .int .i64 0]) ∧ Below W.heap.size W W'
set_option maxRecDepth 100000 in
set_option maxHeartbeats 8000000 in
theorem deeds_c {w : World} {v : Value} {D : FnD} (h : FnOk' w v D) (hc : check.chkF D = 0) {n i k : Nat} (hp : IsPt D n i k) : Calls Tryz.prog 41 #[v, .agg #[.int .i64 (i : Nat), .int .i64 (k : Nat)]] w (Deed w (setN D.bs n)) := by
  obtain ⟨A, c, e, hm, hr⟩ := FnOk'.blks h
  obtain ⟨b, hb⟩ : ∃ b, D.bs[i]? = some b := ⟨_, List.getElem?_eq_getElem hp.lt⟩
  have hbm := List.mem_of_getElem? hb
  have hbk := h.blk b hbm
  obtain ⟨hokj, hoks⟩ := blk_okJ hc hbm
  have hset : setN D.bs n = setB b k := by rw [hp.set, getD_mem hb]
  have hk : k ≤ b.st.length := by have := hp.le; rwa [lenB_of hb] at this
  obtain ⟨As, cs, es, hms, hrs⟩ := BlkOk.stms hbk
  obtain ⟨gb, ob, eA, hgb, hcb⟩ := hr i b.cells (by rw [List.getElem?_map, hb]; rfl)
  subst eA
  have hiI : (i : Int) < (D.bs.length : Int) := by have := hp.lt; omega
  have h0I : (0 : Int) ≤ (i : Int) := Int.natCast_nonneg _
  have h0K : (0 : Int) ≤ (k : Int) := Int.natCast_nonneg _
  have hbl := cells_len hbk
  have hb1 := blk_ones hbk
  have l1 := hbk.prek.len
  have l2 := hbk.postk.len
  rw [h.eq, e, hset]
  obtain ⟨w1, hw1⟩ : ∃ w1, w1 = (w.alloc (.cells #[.int .i64 D.p, .bool D.u, D.lv, .slice (some ⟨gb, ob, none⟩) D.bs.length c] 25)).alloc (.cells #[.int .i64 (i : Nat), .int .i64 (k : Nat)] 83) := ⟨_, rfl⟩
  have b01 : Below w.heap.size w w1 := by rw [hw1]; exact ((Below.refl _ _).alloc (Nat.le_refl _) _).alloc (by simp) _
  have B0 : Box w1 w.heap.size tF (.int .i64 D.p) (.bool D.u) D.lv (.slice (some ⟨gb, ob, none⟩) D.bs.length c) := by rw [hw1]; exact (Box.mk rfl).more
  have q0 : w1.cell? ⟨w.heap.size + 1, 0, none⟩ = some (.int .i64 (i : Nat)) := by rw [hw1, cell_of_row _ (w.heap.size + 1) 0 _ tP (0, 0) (at_alloc (by simp))]; rfl
  have q1 : w1.cell? ⟨w.heap.size + 1, 1, none⟩ = some (.int .i64 (k : Nat)) := by rw [hw1, cell_of_row _ (w.heap.size + 1) 1 _ tP (0, 0) (at_alloc (by simp))]; rfl
  have s1 : w1.heap.size = w.heap.size + 2 := by rw [hw1]; simp
  obtain ⟨y0, y1, y2, y3⟩ := B0.cells
  have hcb1 : w1.rangeAt gb (ob + i * 14) b.cells := fun j u hj => (b01.cell (p := ⟨gb, ob + i * 14 + j, none⟩) hgb).trans (hcb j u hj)
  have hsto : (storeCells ⟨w.heap.size + 2, 0, none⟩ b.cells).run Tryz.prog (w1.alloc (.cells #[.slice none 0 0, .int .u8 0, .int .u8 0, .int .i64 0, .int .i64 0, .bool false, .int .u8 0, .int .i64 0, .int .i64 0, .int .i64 0, .slice none 0 0, .int .i64 0, .bool false, .int .u8 0] 58)) = .ok () (w1.alloc (.cells b.cells.toArray 58)) := run_store_fresh s1 (by rw [hbl]; rfl) hb1
  have HCB := Lib.hid hcb1
  have HBK := Lib.hid hbk
  have HRS := Lib.hid hrs
  have HES := Lib.hid es
  have HOJ := Lib.hid hokj
  have HOS := Lib.hid hoks
  have HB01 := Lib.hid b01
  clear h e hr hcb hcb1 hb hbm hbk hset hp es hrs b01 hokj hoks hc
  go_enter Tryz.func41, Tryz.ntmps41
  go_upto_region 1 with fail
  rw [← hw1]
  clear hw1
  go_upto_region 5 with (refine wpList_load_mid rfl tB _ rfl gb (ob + i * 14) rfl b.cells _ HCB.out Tryz.underlying58 rfl (by rw [hbl]; exact bR) ?_)
  generalize hwa : (w1.alloc (.cells b.cells.toArray tB)) = wa
  have hba : Below w1.heap.size w1 wa := by rw [← hwa]; exact (Below.refl _ _).alloc (Nat.le_refl _) _
  have sa : wa.heap.size = w.heap.size + 3 := by rw [← hwa]; simp [s1]
  have hca : ∀ f u, b.cells[f]? = some u → wa.cell? ⟨w.heap.size + 2, f, none⟩ = some u := fun f u hu => by
    rw [← hwa, cell_of_row _ (w.heap.size + 2) f _ tB (0, 0) (at_alloc s1)]
    simpa using hu
  have p0 := (hba.cell (p := ⟨w.heap.size + 1, 0, none⟩) (by show w.heap.size + 1 < w1.heap.size; omega)).trans q0
  have p1 := (hba.cell (p := ⟨w.heap.size + 1, 1, none⟩) (by show w.heap.size + 1 < w1.heap.size; omega)).trans q1
  have p2 := hca 0 b.s rfl
  rw [HES.out] at p2
  have hrj : wa.rangeAt (w.heap.size + 2) 1 (b.pre ++ b.a :: b.post) := fun j u hj => by
    show wa.cell? ⟨w.heap.size + 2, 1 + j, none⟩ = some u
    rw [Nat.add_comm 1 j]
    exact hca (j + 1) u hj
  have h0a := HB01.out.trans (hba.mono HB01.out.size)
  clear hwa q0 q1 y0 y1 y2 y3 hsto hca B0 HCB hba
  have HRJ := Lib.hid hrj
  clear hrj
  rcases Nat.lt_or_ge k b.st.length with hkl | hkg
  · have hklI : (k : Int) < (b.st.length : Int) := by omega
    obtain ⟨el, hel⟩ : ∃ el, b.st[k]? = some el := ⟨_, List.getElem?_eq_getElem hkl⟩
    have hkk := HBK.out.skd el (List.mem_of_getElem? hel)
    have hve := HOS.out el (List.mem_of_getElem? hel)
    have h26 : el.length = 26 := hkk.len.symm
    have h1s := stm_ones hkk
    obtain ⟨gs, os, eS, hgs, hrng⟩ := RowsAt.get HRS.out h0a hel
    subst eS
    have hsb : setB b k = setI el := by unfold setB; rw [hel]
    have HSB := Lib.hid hsb
    have hsto2 : (storeCells ⟨w.heap.size + 3, 0, none⟩ el).run Tryz.prog (wa.alloc (.cells #[.int .u8 0, .int .i64 0, .bool false, .int .u8 0, .int .u8 0, .int .u8 0, .int .u8 0, .int .u8 0, .int .i64 0, .int .i64 0, .bool false, .int .u8 0, .int .u8 0, .int .i64 0, .int .i64 0, .bool false, .int .u8 0, .int .i64 0, .bool false, .int .u8 0, .int .u8 0, .int .i64 0, .int .i64 0, .bool false, .int .u8 0, .int .i64 0] 51)) = .ok () (wa.alloc (.cells el.toArray 51)) := run_store_fresh sa (by rw [h26]; rfl) h1s
    have HRN := Lib.hid hrng
    have HKK := Lib.hid hkk
    have HVE := Lib.hid hve
    clear hrng hel hkk hve hsb
    go_upto_region 7 with (refine wpList_load_mid rfl tS _ rfl gs (os + k * 26) rfl el _ HRN.out Tryz.underlying51 rfl (by rw [h26]; exact sR) ?_)
    generalize hwb : (wa.alloc (.cells el.toArray tS)) = wb
    have hbb : Below wa.heap.size wa wb := by rw [← hwb]; exact (Below.refl _ _).alloc (Nat.le_refl _) _
    have h0b := h0a.trans (hbb.mono h0a.size)
    have hre : wb.rangeAt (w.heap.size + 3) 0 el := fun j u hj => by
      rw [Nat.zero_add, ← hwb, ← sa, cell_of_row _ wa.heap.size j _ tS (0, 0) (at_alloc rfl)]
      simpa using hj
    have sb : w.heap.size + 3 < wb.heap.size := by rw [← hwb]; simp [sa]
    have HRE := Lib.hid hre
    have H0B := Lib.hid h0b
    clear hwb hre hsto2 hbb h0b p0 p1 p2 h0a
    go_wp2_with (first | (refine wpList_load_mid rfl 51 _ rfl (w.heap.size + 3) 0 rfl el _ (by first | exact HRE.out | exact fun j u hj => (bu.cell (p := ⟨w.heap.size + 3, 0 + j, none⟩) sb).trans (HRE.out j u hj)) Tryz.underlying51 rfl (by rw [h26]; exact sR) ?_) | (go_at_call 58; refine (suse_c HKK.out HVE.out).mono ?_; rintro e wu ⟨sU, rfl, ⟨Au, cu, rfl, hmx, hrow⟩, bu⟩) | (go_at_call 59; refine (sets_c HKK.out HVE.out).mono ?_; rintro e wz ⟨rfl, bz⟩))
    have HL0 := Lib.hid (fun x hx => useS_0 HKK.out HVE.out (x := x) hx)
    have HRW := Lib.hid (show ∀ n x, (useS el)[n]? = some x → ∃ g, Au = some ⟨g, 0, none⟩ ∧ wz.cell? ⟨g, n, none⟩ = some (.int .i64 x) from fun n x hx => by
      obtain ⟨g, e, hg, hcx⟩ := hrow n x hx
      exact ⟨g, e, (bz.cell (p := ⟨g, n, none⟩) hg).trans hcx⟩)
    have HBE := Lib.hid ((H0B.out.trans (bu.mono H0B.out.size)).trans (bz.mono (H0B.out.trans (bu.mono H0B.out.size)).size))
    clear hrow bu bz
    generalize useS el = l at *
    go_loopg [13, 67] l.length (fun g s13 s67 wr => ∃ (n : Nat) (m : Int), s67 = .int .i64 n ∧ n ≤ l.length ∧ g = l.length - n ∧ s13 = .int .u32 m ∧ wr = wz)
    case atStart => exact ⟨0, 0, rfl, Nat.zero_le _, rfl, rfl, rfl⟩
    case round =>
      obtain ⟨n, m, rfl, hn, rfl, rfl, rfl⟩ := hrel
      rcases Nat.lt_or_ge n l.length with hlt | hge
      · have hltI : (n : Int) < (l.length : Int) := by omega
        have h0N : (0 : Int) ≤ (n : Int) := Int.natCast_nonneg _
        obtain ⟨x, hx⟩ : ∃ x, l[n]? = some x := ⟨_, List.getElem?_eq_getElem hlt⟩
        have hx0 := HL0.out x (List.mem_of_getElem? hx)
        obtain ⟨gx, rfl, hcx⟩ := HRW.out n x hx
        clear hx
        go_wp2
        go_roundg (l.length - (n + 1))
        case measure => omega
        case rel => exact ⟨n + 1, _, by simp, by omega, rfl, rfl, rfl⟩
      · obtain rfl : n = l.length := by omega
        go_wp2
        go_ret3
        exact ⟨m, by rw [HSB.out]; rfl, HBE.out⟩
  · obtain rfl : k = b.st.length := by omega
    have hkeq : ((b.st.length : Int) == (b.st.length : Int)) = true := by simp
    have hsb : setB b b.st.length = setJ b.pre b.post := by unfold setB; rw [List.getElem?_eq_none (Nat.le_refl _)]
    have HSB := Lib.hid hsb
    have hbka := BlkOk.frz HBK.out h0a
    have HJ := Lib.hid (BlkOk.jump hbka)
    have HBA := Lib.hid hbka
    have H0A := Lib.hid h0a
    have sg : w.heap.size + 2 < wa.heap.size := by omega
    have hj13 : (b.pre ++ b.a :: b.post).length = 13 := by
      have e1 : kPre.length = 9 := rfl
      have e2 : kPost.length = 3 := rfl
      simp
      omega
    clear hsb hbka h0a
    go_wp2_with (first | (refine wpList_load_mid rfl 56 _ rfl (w.heap.size + 2) 1 rfl (b.pre ++ b.a :: b.post) _ (by first | exact HRJ.out | exact fun j u hj => (bu.cell (p := ⟨w.heap.size + 2, 1 + j, none⟩) sg).trans (HRJ.out j u hj)) Tryz.underlying56 rfl (by rw [hj13]; exact jszR) ?_) | (go_at_call 60; refine (juse_c HJ.out HOJ.out).mono ?_; rintro e wu ⟨sU, rfl, ⟨Au, cu, rfl, hmx, hrow⟩, bu⟩) | (go_at_call 61; refine (jset_c (BlkOk.jump (BlkOk.frz HBA.out bu)) HOJ.out).mono ?_; rintro e wz ⟨rfl, bz⟩))
    have HL0 := Lib.hid (fun x hx => useJ_0 b (x := x) hx)
    have HRW := Lib.hid (show ∀ n x, (useJ b)[n]? = some x → ∃ g, Au = some ⟨g, 0, none⟩ ∧ wz.cell? ⟨g, n, none⟩ = some (.int .i64 x) from fun n x hx => by
      obtain ⟨g, e, hg, hcx⟩ := hrow n x hx
      exact ⟨g, e, (bz.cell (p := ⟨g, n, none⟩) hg).trans hcx⟩)
    have HBE := Lib.hid ((H0A.out.trans (bu.mono H0A.out.size)).trans (bz.mono (H0A.out.trans (bu.mono H0A.out.size)).size))
    clear hrow bu bz p0 p1 p2
    generalize useJ b = l at *
    go_loopg [13, 67] l.length (fun g s13 s67 wr => ∃ (n : Nat) (m : Int), s67 = .int .i64 n ∧ n ≤ l.length ∧ g = l.length - n ∧ s13 = .int .u32 m ∧ wr = wz)
    case atStart => exact ⟨0, 0, rfl, Nat.zero_le _, rfl, rfl, rfl⟩
    case round =>
      obtain ⟨n, m, rfl, hn, rfl, rfl, rfl⟩ := hrel
      rcases Nat.lt_or_ge n l.length with hlt | hge
      · have hltI : (n : Int) < (l.length : Int) := by omega
        have h0N : (0 : Int) ≤ (n : Int) := Int.natCast_nonneg _
        obtain ⟨x, hx⟩ : ∃ x, l[n]? = some x := ⟨_, List.getElem?_eq_getElem hlt⟩
        have hx0 := HL0.out x (List.mem_of_getElem? hx)
        obtain ⟨gx, rfl, hcx⟩ := HRW.out n x hx
        clear hx
        go_wp2
        go_roundg (l.length - (n + 1))
        case measure => omega
        case rel => exact ⟨n + 1, _, by simp, by omega, rfl, rfl, rfl⟩
      · obtain rfl : n = l.length := by omega
        go_wp2
        go_ret3
        exact ⟨m, by rw [HSB.out]; rfl, HBE.out⟩
set_option maxRecDepth 100000 in
set_option maxHeartbeats 8000000 in
theorem luses_c {w : World} {v : Value} {D : FnD} (h : FnOk' w v D) (hc : check.chkF D = 0) {n : Nat} (hn : n < sizeN D) : Calls Tryz.prog 26 #[v, .int .i64 (n : Nat)] w (Deed w (setN D.bs n)) := by
  obtain ⟨i, k, hp⟩ := IsPt.of hn
  have hsm := small_of hc
  have hC : ChkIs w v 0 := hc ▸ chk_is h
  have hP := fun w1 (hb : Below w.heap.size w w1) => points_c (h.frz hb.block) hsm (hC.more hb)
  have hD := fun w1 (hb : Below w.heap.size w w1) => deeds_c (h.frz hb.block) hc hp
  unfold ChkIs at hC
  rw [h.eq] at hC hP hD ⊢
  have HC := Lib.hid hC
  have HP := Lib.hid hP
  have HD := Lib.hid hD
  have hnI : (n : Int) < (sizeN D : Int) := by omega
  have h0N : (0 : Int) ≤ (n : Int) := Int.natCast_nonneg _
  have hpt : (ptsL D)[n]? = some [.int .i64 (i : Nat), .int .i64 (k : Nat)] := by unfold ptsL; rw [hp.eq, List.getElem?_map, pt_get hp.lt hp.le]; rfl
  have HPT := Lib.hid hpt
  clear hC hP hD h hp hpt hc hsm
  have B0 : Box (w.alloc (.cells #[.int .i64 D.p, .bool D.u, D.lv, D.bv] tF)) w.heap.size tF (.int .i64 D.p) (.bool D.u) D.lv D.bv := Box.mk rfl
  have b0 : Below w.heap.size w (w.alloc (.cells #[.int .i64 D.p, .bool D.u, D.lv, D.bv] tF)) := (Below.refl _ _).alloc (Nat.le_refl _) _
  go_enter Tryz.func26, Tryz.ntmps26
  go_upto_region 7 with (first | (go_at_call 30; refine (HC.out _ b0).mono ?_; rintro e w1 ⟨rfl, b1⟩; have B1 := B0.below b1; have b01 := b0.trans (b1.mono b0.size); obtain ⟨y0, y1, y2, y3⟩ := B1.cells) | (go_at_call 31; refine (HP.out _ b01).mono ?_; rintro e w2 ⟨s, rfl, hnl⟩))
  have b2 := hnl.2
  have b02 := b01.trans (b2.mono b01.size)
  obtain ⟨Ap, cp, rfl, hrp⟩ := hnl.read (by decide) (ptsL_2 D)
  obtain ⟨gp, op, eP, hgp, hcp⟩ := hrp n _ HPT.out
  subst eP
  have B2 := B1.below b2
  obtain ⟨z0, z1, z2, z3⟩ := B2.cells
  have p0 := hcp 0 _ rfl
  have p1 := hcp 1 _ rfl
  simp only [Nat.add_zero] at p0
  rw [ptsL_len] at *
  have hlt0 := B2.lt
  have hm1 : ¬ (n : Int) < 0 := by omega
  have hm2 : ¬ (sizeN D : Int) ≤ (n : Int) := by omega
  have hm3 : decide ((n : Int) ≥ (sizeN D : Int)) = false := decide_eq_false (by omega)
  clear hnl hrp hcp B0 b0 y0 y1 y2 y3 B1 b1 b01 b2 B2 HC HP
  go_upto_region 9 with fail
  refine region_cells [⟨w.heap.size, 0, none⟩, ⟨w.heap.size, 1, none⟩, ⟨w.heap.size, 2, none⟩, ⟨w.heap.size, 3, none⟩, ⟨gp, op + n * 2, none⟩, ⟨gp, op + n * 2 + 1, none⟩] [(0, true), (1, true), (2, true), (3, true), (4, true), (5, false), (6, true), (7, true), (8, true), (9, true), (10, true), (11, true)] (by kernel_rfl) (by kernel_rfl) (by decide) (by kernel_rfl) (fun _ _ _ _ _ h => h) ?_
  have z0 : w2.drew.cell? ⟨w.heap.size, 0, none⟩ = _ := z0
  have z1 : w2.drew.cell? ⟨w.heap.size, 1, none⟩ = _ := z1
  have z2 : w2.drew.cell? ⟨w.heap.size, 2, none⟩ = _ := z2
  have z3 : w2.drew.cell? ⟨w.heap.size, 3, none⟩ = _ := z3
  have p0 : w2.drew.cell? ⟨gp, op + n * 2, none⟩ = _ := p0
  have p1 : w2.drew.cell? ⟨gp, op + n * 2 + 1, none⟩ = _ := p1
  repeat (refine SeqC.take (v := ?_) rfl (by rfl) (fun W hW => ?_) ?_; rotate_left; (focus (have q0 := hW.get (by simp) z0; have q1 := hW.get (by simp) z1; have q2 := hW.get (by simp) z2; have q3 := hW.get (by simp) z3; have q4 := hW.get (by simp) p0; have q5 := hW.get (by simp) p1; go_simp; with_reducible rfl)); simp only [Act.put, List.setIfInBounds_toArray, List.set_cons_zero, List.set_cons_succ])
  refine SeqC.call (f := ?_) (args := ?_) rfl (by rfl) ?_ ?_
  rotate_left 2
  · (go_simp; first | with_reducible rfl | (refine ⟨?_, ?_⟩ <;> with_reducible rfl))
  refine (HD.out _ b02.drew).mono ?_
  rintro e w3 ⟨m, rfl, b3⟩
  refine ⟨_, rfl, Cells.of_ext b3 (by intro p hp; simp only [List.mem_cons, List.not_mem_nil, or_false] at hp; rcases hp with rfl | rfl | rfl | rfl | rfl | rfl <;> first | exact hlt0 | exact hgp), ?_⟩
  simp only [Act.put, List.setIfInBounds_toArray, List.set_cons_zero, List.set_cons_succ]
  have b03 := b02.drew.trans (b3.mono b02.size)
  clear z0 z1 z2 z3 p0 p1
  repeat (refine SeqC.take (v := ?_) rfl (by rfl) (fun W hW => ?_) ?_; rotate_left; (focus (go_simp; with_reducible rfl)); simp only [Act.put, List.setIfInBounds_toArray, List.set_cons_zero, List.set_cons_succ])
  refine SeqC.done ?_
  go_wp2
  go_ret3
  exact ⟨m, rfl, b03⟩
end Go.Proofs.YthdcahkedlijpaaGreat.loan
