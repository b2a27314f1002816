/- FnshapeBad: the law answers true for every function, two indices and every part. FnshapeBad: more cases. -/
import Derived.Test.YtbebbbclhgjcbaaMoreA
import Derived.Deep.DeepCutAuto
/-! FnshapeBad: the law answers true for every function, two indices and every part. -/
namespace Go.Proofs.Ytbebbbclhgjcbaa.bad
open Go.RowKit Go.Proofs.Ytbebbbclhgjcbaa Go.Proofs.Ytbebbbclhgjcbaa.Am Go.Proofs.Ytbebbbclhgjcbaa.twin Go.Proofs.Ytbebbbclhgjcbaa.own Go.Proofs.Ytbebbbclhgjcbaa.more
set_option linter.unusedVariables false
set_option linter.unusedSectionVars false
theorem chk_c {w w1 : World} {v : Value} {D : FnD} (h : FnOk' w v D) (hb : Below w.heap.size w w1) : Calls Try.prog 11 #[v] w1 (Ans w1 (.int .i64 (check.chkF D))) := check.check_ans (h.frz hb.block)
/-- the function that the law has made is bad -/
theorem chk_8 {w : World} {D : FnD} {base : Nat} (h : OwnFn base w D) (k : Kinds D) (h8 : check.chkF D = 8) : ∀ w1, Below w.heap.size w w1 → Calls Try.prog 11 #[valF D] w1 (Ans w1 (.int .i64 8)) := fun w1 hb => h8 ▸ chk_c (h.ok k) hb
theorem small_of {D : FnD} (hc : check.chkF D = 0) : 0 < D.ls.length ∧ D.ls.length ≤ 16 ∧ 0 < D.bs.length ∧ D.bs.length ≤ 24 ∧ ∀ b ∈ D.bs, b.st.length ≤ 24 := by
  obtain ⟨m1, m2, m3⟩ := check.small_of (size.of_chk hc).1
  have := (size.of_chk hc).2.1
  unfold made.madeF head.headF head.guard at this
  simp only [Bool.and_eq_true, decide_eq_true_eq] at this
  exact ⟨this.1.1.1, m1, this.2.1, m2, m3⟩
theorem u8_ok (m : Int) (h1 : 0 ≤ m) (h2 : m ≤ 255) : Kd.ok (.i .u8) (.int .u8 m) := ⟨m, rfl, h1, h2⟩
theorem i6_ok (m : Int) (h1 : -9223372036854775808 ≤ m) (h2 : m ≤ 9223372036854775807) : Kd.ok (.i .i64) (.int .i64 m) := ⟨m, rfl, h1, h2⟩
theorem core_set {D : FnD} {lv bv : Value} {Bs : List BlkD} {j : Nat} {bj b' : BlkD} {f : BlkD → BlkD} (hc : Bs.map BlkD.core = D.bs.map BlkD.core) (hj : Bs[j]? = some bj) (hf : b'.core = f bj.core) :
    (⟨D.p, D.u, lv, bv, D.ls, Bs.set j b', ⟨nilV, []⟩⟩ : FnD).core = D.core.setB j f ∧ D.core.bs[j]? = some bj.core := by
  have e : (D.bs.map BlkD.core)[j]? = some bj.core := by rw [← hc, List.getElem?_map, hj]; rfl
  refine ⟨?_, e⟩
  unfold FnD.core FnD.setB
  rw [modify_set e, List.map_set, hc, hf]
theorem core_loc {D : FnD} {lv bv : Value} {Bs : List BlkD} {t : Nat} {el : List Value} {f : List Value → List Value} (hc : Bs.map BlkD.core = D.bs.map BlkD.core) (ht : D.ls[t]? = some el) :
    (⟨D.p, D.u, lv, bv, D.ls.set t (f el), Bs, ⟨nilV, []⟩⟩ : FnD).core = D.core.setT t f := by
  unfold FnD.core FnD.setT
  rw [modify_set ht, hc]
theorem Kinds.setB {D : FnD} (k : Kinds D) {j : Nat} {b' : BlkD} (h : All2 Kd.ok kPre b'.pre ∧ All2 Kd.ok kPost b'.post ∧ (∀ st ∈ b'.st, All2 Kd.ok kS26 st) ∧ (∀ o ∈ b'.ops, All2 Kd.ok opK o)) : Kinds { D with bs := D.bs.set j b' } := by
  refine ⟨k.pk, k.lk, fun b hb => ?_⟩
  rcases List.mem_or_eq_of_mem_set hb with hb | rfl
  · exact k.bk b hb
  · exact h
theorem Kinds.setT {D : FnD} (k : Kinds D) {t : Nat} {el : List Value} (h : All2 Kd.ok [.i .u8, .i .u8] el) : Kinds { D with ls := D.ls.set t el } := by
  refine ⟨k.pk, fun x hx => ?_, k.bk⟩
  rcases List.mem_or_eq_of_mem_set hx with hx | rfl
  · exact k.lk x hx
  · exact h
theorem nd_own2 {base : Nat} {w : World} {D : FnD} {j : Nat} {bj : BlkD} (h : OwnFn base w D) (hj : D.bs[j]? = some bj) : (own2 bj).Nodup := by
  obtain ⟨F1, F2, e1, _⟩ := flatMap_set (f := own2) (b' := bj) hj
  have nd5 := (List.nodup_append.1 (List.nodup_append.1 h.nd).2.1).2.1
  rw [e1] at nd5
  exact (List.nodup_append.1 (List.nodup_append.1 nd5).2.1).1
theorem fresh_kind (n : Int) (hn : Kd.ok (.i .i64) (.int .i64 n)) : All2 Kd.ok kS26 (freshS n) := by
  have z : Kd.ok (.i .i64) (.int .i64 0) := i6_ok 0 (by decide) (by decide)
  have b : Kd.ok .b (.bool false) := ⟨false, rfl⟩
  have u0 := u8_ok 0 (by decide) (by decide)
  exact ⟨u8_ok 3 (by decide) (by decide), z, b, u0, u0, u0, u0, u0, z, z, b, u0, u0, z, z, b, u0, z, b, u0, u0, z, z, b, u0, hn, trivial⟩
set_option maxRecDepth 100000 in
set_option maxHeartbeats 4000000 in
theorem not_great {w : World} {v : Value} {D : FnD} (h : FnOk' w v D) (i k c : Int) (hc : great.greatF D = true ∨ (great.greatF D = false ∧ check.chkF D ≠ 0)) : Calls Try.prog 4 #[v, .int .i64 i, .int .i64 k, .int .i64 c] w (Yes w) := by
  have hG := fun w1 (hb : Below w.heap.size w w1) => great_c h hb
  have hC := fun w1 (hb : Below w.heap.size w w1) => check_c h hb
  have hX := fun w1 (hb : Below w.heap.size w w1) => chk_c h hb
  rw [h.eq] at hG hC hX ⊢
  clear h hX
  have B0 : Box (w.alloc (.cells #[.int .i64 D.p, .bool D.u, D.lv, D.bv] more.tF)) w.heap.size more.tF (.int .i64 D.p) (.bool D.u) D.lv D.bv := Box.mk rfl
  have b0 : Below w.heap.size w (w.alloc (.cells #[.int .i64 D.p, .bool D.u, D.lv, D.bv] more.tF)) := (Below.refl _ _).alloc (Nat.le_refl _) _
  rcases hc with hc | ⟨hc, hd⟩
  · rw [hc] at hG
    have HG := Lib.hid hG
    clear hG hC
    go_enter Try.func4, Try.ntmps4
    go_wp2_with (first | (go_at_call 18; refine (HG.out _ b0).mono ?_; rintro e w1 ⟨rfl, b1⟩; have B1 := B0.below b1; have b01 := b0.trans (b1.mono b0.size); obtain ⟨y0, y1, y2, y3⟩ := B1.cells) | (go_at_call 17; refine (alive_from b01).mono ?_; rintro e w9 ⟨rfl, hbE⟩))
    go_ret
    exact ⟨rfl, hbE⟩
  · rw [hc] at hG
    generalize check.chkF D = x at *
    have hd' : (x != 0) = true := by simpa using hd
    have HG := Lib.hid hG
    have HC := Lib.hid hC
    clear hG hC hc
    go_enter Try.func4, Try.ntmps4
    go_wp2_with (first | (go_at_call 18; refine (HG.out _ b0).mono ?_; rintro e w1 ⟨rfl, b1⟩; have B1 := B0.below b1; have b01 := b0.trans (b1.mono b0.size); obtain ⟨y0, y1, y2, y3⟩ := B1.cells) | (go_at_call 19; refine (HC.out _ b01).mono ?_; rintro e w2 ⟨rfl, b2⟩; have B2 := B1.below b2; have b02 := b01.trans (b2.mono b01.size); obtain ⟨z0, z1, z2, z3⟩ := B2.cells) | (go_at_call 17; refine (alive_from b02).mono ?_; rintro e w9 ⟨rfl, hbE⟩))
    go_ret
    exact ⟨rfl, hbE⟩
set_option maxRecDepth 100000 in
set_option maxHeartbeats 4000000 in
theorem not_index {w : World} {v : Value} {D : FnD} (h : FnOk' w v D) (i k c : Int) (hg : great.greatF D = false) (hc : check.chkF D = 0) (hn : i < 0 ∨ (¬ i < 0 ∧ k < 0)) : Calls Try.prog 4 #[v, .int .i64 i, .int .i64 k, .int .i64 c] w (Yes w) := by
  have hG := fun w1 (hb : Below w.heap.size w w1) => great_c h hb
  have hC := fun w1 (hb : Below w.heap.size w w1) => check_c h hb
  have hX := fun w1 (hb : Below w.heap.size w w1) => chk_c h hb
  rw [h.eq] at hG hC hX ⊢
  clear h
  have B0 : Box (w.alloc (.cells #[.int .i64 D.p, .bool D.u, D.lv, D.bv] more.tF)) w.heap.size more.tF (.int .i64 D.p) (.bool D.u) D.lv D.bv := Box.mk rfl
  have b0 : Below w.heap.size w (w.alloc (.cells #[.int .i64 D.p, .bool D.u, D.lv, D.bv] more.tF)) := (Below.refl _ _).alloc (Nat.le_refl _) _
  rw [hg] at hG
  rw [hc] at hC hX
  have HG := Lib.hid hG
  have HC := Lib.hid hC
  have HX := Lib.hid hX
  clear hG hC hX hg hc
  rcases hn with hn | ⟨hn, hk⟩
  · go_enter Try.func4, Try.ntmps4
    go_wp2_with (first | (go_at_call 18; refine (HG.out _ b0).mono ?_; rintro e w1 ⟨rfl, b1⟩; have B1 := B0.below b1; have b01 := b0.trans (b1.mono b0.size); obtain ⟨y0, y1, y2, y3⟩ := B1.cells) | (go_at_call 19; refine (HC.out _ b01).mono ?_; rintro e w2 ⟨rfl, b2⟩; have B2 := B1.below b2; have b02 := b01.trans (b2.mono b01.size); obtain ⟨z0, z1, z2, z3⟩ := B2.cells) | (go_at_call 11; refine (HX.out _ b02).mono ?_; rintro e w3 ⟨rfl, b3⟩; have B3 := B2.below b3; have b03 := b02.trans (b3.mono b02.size); obtain ⟨x0, x1, x2, x3⟩ := B3.cells) | (go_at_call 11; refine (HX.out _ b03).mono ?_; rintro e w4 ⟨rfl, b4⟩; have b04 := b03.trans (b4.mono b03.size)) | (go_at_call 17; refine (alive_from b04).mono ?_; rintro e w9 ⟨rfl, hbE⟩))
    go_ret
    exact ⟨rfl, hbE⟩
  · go_enter Try.func4, Try.ntmps4
    go_wp2_with (first | (go_at_call 18; refine (HG.out _ b0).mono ?_; rintro e w1 ⟨rfl, b1⟩; have B1 := B0.below b1; have b01 := b0.trans (b1.mono b0.size); obtain ⟨y0, y1, y2, y3⟩ := B1.cells) | (go_at_call 19; refine (HC.out _ b01).mono ?_; rintro e w2 ⟨rfl, b2⟩; have B2 := B1.below b2; have b02 := b01.trans (b2.mono b01.size); obtain ⟨z0, z1, z2, z3⟩ := B2.cells) | (go_at_call 11; refine (HX.out _ b02).mono ?_; rintro e w3 ⟨rfl, b3⟩; have B3 := B2.below b3; have b03 := b02.trans (b3.mono b02.size); obtain ⟨x0, x1, x2, x3⟩ := B3.cells) | (go_at_call 11; refine (HX.out _ b03).mono ?_; rintro e w4 ⟨rfl, b4⟩; have b04 := b03.trans (b4.mono b03.size)) | (go_at_call 17; refine (alive_from b04).mono ?_; rintro e w9 ⟨rfl, hbE⟩))
    go_ret
    exact ⟨rfl, hbE⟩
set_option maxRecDepth 100000 in
set_option maxHeartbeats 4000000 in
theorem main_1 {w : World} {v : Value} {D : FnD} (h : FnOk' w v D) (i k : Nat) (hi : (i : Int) ≤ 9223372036854775807) (hk : (k : Int) ≤ 9223372036854775807) (hg : great.greatF D = false) (hc : check.chkF D = 0) : Calls Try.prog 4 #[v, .int .i64 i, .int .i64 k, .int .i64 1] w (Yes w) := by
  have hG := fun w1 (hb : Below w.heap.size w w1) => great_c h hb
  have hC := fun w1 (hb : Below w.heap.size w w1) => check_c h hb
  have hX := fun w1 (hb : Below w.heap.size w w1) => chk_c h hb
  have hT := fun w1 (hb : Below w.heap.size w w1) => twin_c h hc hb
  rw [hg] at hG
  rw [hc] at hC hX
  have HK := Lib.hid (Kinds.of h)
  rw [h.eq] at hG hC hX hT ⊢
  obtain ⟨pL, mL, pB, mB, mS⟩ := small_of hc
  have hm8 := (size.of_chk hc).1
  have HM := Lib.hid hm8
  have h0i : ¬ ((i : Int) < 0) := by omega
  have h0k : ¬ ((k : Int) < 0) := by omega
  have B0 : Box (w.alloc (.cells #[.int .i64 D.p, .bool D.u, D.lv, D.bv] more.tF)) w.heap.size more.tF (.int .i64 D.p) (.bool D.u) D.lv D.bv := Box.mk rfl
  have b0 : Below w.heap.size w (w.alloc (.cells #[.int .i64 D.p, .bool D.u, D.lv, D.bv] more.tF)) := (Below.refl _ _).alloc (Nat.le_refl _) _
  have HG := Lib.hid hG
  have HC := Lib.hid hC
  have HX := Lib.hid hX
  have HT := Lib.hid hT
  clear hG hC hX hT hg hc h hm8
  go_enter Try.func4, Try.ntmps4
  go_upto_region 6 with (first | (go_at_call 18; refine (HG.out _ b0).mono ?_; rintro e w1 ⟨rfl, b1⟩; have B1 := B0.below b1; have b01 := b0.trans (b1.mono b0.size); obtain ⟨y0, y1, y2, y3⟩ := B1.cells) | (go_at_call 19; refine (HC.out _ b01).mono ?_; rintro e w2 ⟨rfl, b2⟩; have B2 := B1.below b2; have b02 := b01.trans (b2.mono b01.size); obtain ⟨z0, z1, z2, z3⟩ := B2.cells) | (go_at_call 11; refine (HX.out _ b02).mono ?_; rintro e w3 ⟨rfl, b3⟩; have B3 := B2.below b3; have b03 := b02.trans (b3.mono b02.size); obtain ⟨x0, x1, x2, x3⟩ := B3.cells) | (go_at_call 20; refine (HT.out _ b03).mono ?_; rintro e w4 ⟨gl, cl, gb, cB, Bs, rfl, hO, hcore, b4⟩; have B4 := B3.below b4; have b04 := b03.trans (b4.mono b03.size)))
  have hN : Bs.length = D.bs.length := by simpa using congrArg List.length hcore
  have T5 : Box (w4.alloc (.cells #[.int .i64 D.p, .bool D.u, .slice (some ⟨gl, 0, none⟩) D.ls.length cl, .slice (some ⟨gb, 0, none⟩) Bs.length cB] more.tF)) w4.heap.size more.tF _ _ _ _ := Box.mk rfl
  have b05 := b04.alloc b04.size (.cells #[.int .i64 D.p, .bool D.u, .slice (some ⟨gl, 0, none⟩) D.ls.length cl, .slice (some ⟨gb, 0, none⟩) Bs.length cB] more.tF)
  have hO5 := hO.below ((Below.refl _ _).alloc (Nat.le_refl _) (.cells #[.int .i64 D.p, .bool D.u, .slice (some ⟨gl, 0, none⟩) D.ls.length cl, .slice (some ⟨gb, 0, none⟩) Bs.length cB] more.tF))
  have hwT := b04.size
  have hw2 := B3.lt
  have hTO : w4.heap.size ∉ blkOf (.slice (some ⟨gl, 0, none⟩) D.ls.length cl) ++ (blkOf (.slice (some ⟨gb, 0, none⟩) Bs.length cB) ++ Bs.flatMap own2) := fun hm => by have := (hO.in_ hm).2; omega
  generalize w4.alloc (.cells #[.int .i64 D.p, .bool D.u, .slice (some ⟨gl, 0, none⟩) D.ls.length cl, .slice (some ⟨gb, 0, none⟩) Bs.length cB] more.tF) = W5 at *
  generalize w4.heap.size = T at *
  have hpos : 0 < Bs.length := by omega
  have hposI : (0 : Int) < (Bs.length : Int) := by omega
  have hNB : Bs.length ≤ 24 := by omega
  have HN := Lib.hid hN
  clear hN
  obtain ⟨t0, t1, t2, t3⟩ := T5.cells
  go_upto_region 7 with fail
  have hm : ((i : Int) % (Bs.length : Int)) = ((i % Bs.length : Nat) : Int) := by simp
  rw [hm]
  have hj : i % Bs.length < Bs.length := Nat.mod_lt _ hpos
  clear hm
  generalize i % Bs.length = j at *
  have hjI : (j : Int) < (Bs.length : Int) := by omega
  have k1 : Kinds (⟨D.p, D.u, .slice (some ⟨gl, 0, none⟩) D.ls.length cl, .slice (some ⟨gb, 0, none⟩) Bs.length cB, D.ls, Bs, ⟨nilV, []⟩⟩ : FnD) := HK.out.core (by unfold FnD.core; rw [hcore])
  obtain ⟨bj, hbj⟩ : ∃ bj, Bs[j]? = some bj := ⟨_, List.getElem?_eq_getElem hj⟩
  have hmj := List.mem_of_getElem? hbj
  have hfn := hO5.ok k1
  obtain ⟨b', off', c', eqB, hcell⟩ := hfn.blocks.at_ j bj.cells (by rw [List.getElem?_map, hbj]; rfl)
  rw [List.length_map] at eqB
  cases eqB
  have cg : W5.cell? ⟨gb, j * 14, none⟩ = some bj.s := by have := hcell 0 bj.s rfl; simpa using this
  have hbs := (hfn.blk bj hmj).sts
  obtain ⟨As, cs, es⟩ := hbs.sl
  have ES := Lib.hid es
  have HCL := Lib.hid hcell
  have HBS := Lib.hid hbs
  have HFN := Lib.hid hfn
  have hst24 : bj.st.length ≤ 24 := by
    have hm2 : bj.core ∈ D.bs.map BlkD.core := hcore ▸ List.mem_map.2 ⟨bj, hmj, rfl⟩
    obtain ⟨b2, hb2, e2⟩ := List.mem_map.1 hm2
    have e3 : b2.st = bj.st := (congrArg BlkD.st e2 : b2.core.st = bj.core.st)
    rw [← e3]
    exact mS b2 hb2
  have hcur : ∃ cur, W5.heap[gb]? = some (.cells cur tBl (0, 0)) ∧ Bs.length * 14 ≤ cur.size := owns_block hO5.ob
  have hgbF : gb ∉ blkOf bj.s := fun hm => (List.nodup_append.1 (List.nodup_append.1 hO5.nd).2.1).2.2 gb (by simp [blkOf, Value.ownBlock]) gb (List.mem_flatMap.2 ⟨bj, hmj, List.mem_append.2 (.inl hm)⟩) rfl
  have hTgb : T ≠ gb := fun e => hTO (by simp [blkOf, Value.ownBlock, e])
  have hTgl : T ≠ gl := fun e => hTO (by simp [blkOf, Value.ownBlock, e])
  have hTbs : T ∉ blkOf bj.s := fun hm => hTO (List.mem_append.2 (.inr (List.mem_append.2 (.inr (List.mem_flatMap.2 ⟨bj, hmj, List.mem_append.2 (.inl hm)⟩)))))
  rw [es] at cg
  clear es hcell hbs hfn
  have b5w : w.heap.size ≤ W5.heap.size := b05.size
  go_upto_region 14 with fail
  have f0 : W5.frozen? ⟨T, 0, none⟩ = false := frozen_none T5 0
  go_upto_region 27 with fail
  letI : Base := (⟨w, [], []⟩ : Env).b
  have T6 : Box (W5.setCell ⟨T, 0, none⟩ (.int .i64 D.ls.length)) T more.tF (.int .i64 D.ls.length) (.bool D.u) (.slice (some ⟨gl, 0, none⟩) D.ls.length cl) (.slice (some ⟨gb, 0, none⟩) Bs.length cB) := setCell_at T5
  have hO6 : OwnFn w3.heap.size (W5.setCell ⟨T, 0, none⟩ (.int .i64 D.ls.length)) { (⟨D.p, D.u, .slice (some ⟨gl, 0, none⟩) D.ls.length cl, .slice (some ⟨gb, 0, none⟩) Bs.length cB, D.ls, Bs, ⟨nilV, []⟩⟩ : FnD) with p := D.ls.length } := by
    have := hO5.other (w' := W5.setCell ⟨T, 0, none⟩ (.int .i64 D.ls.length)) (T := T) (fun q hq => setCell_off hq) hTO
    exact ⟨this.ol, this.ob, this.os, this.nd⟩
  have k6 : Kinds { (⟨D.p, D.u, .slice (some ⟨gl, 0, none⟩) D.ls.length cl, .slice (some ⟨gb, 0, none⟩) Bs.length cB, D.ls, Bs, ⟨nilV, []⟩⟩ : FnD) with p := D.ls.length } := ⟨i6_ok (D.ls.length : Int) (by omega) (by omega), k1.lk, k1.bk⟩
  have h8 : check.chkF { (⟨D.p, D.u, .slice (some ⟨gl, 0, none⟩) D.ls.length cl, .slice (some ⟨gb, 0, none⟩) Bs.length cB, D.ls, Bs, ⟨nilV, []⟩⟩ : FnD) with p := D.ls.length } = 8 := by
    rw [← chk_core]
    have e : FnD.core { (⟨D.p, D.u, .slice (some ⟨gl, 0, none⟩) D.ls.length cl, .slice (some ⟨gb, 0, none⟩) Bs.length cB, D.ls, Bs, ⟨nilV, []⟩⟩ : FnD) with p := D.ls.length } = { D.core with p := D.core.ls.length } := by unfold FnD.core; rw [hcore]
    rw [e]
    exact bad_par (by rw [many_core]; exact HM.out)
  have b06 := b05.setCell (p := ⟨T, 0, none⟩) hwT (.int .i64 D.ls.length)
  generalize W5.setCell ⟨T, 0, none⟩ (.int .i64 D.ls.length) = W6 at *
  have HE8 := Lib.hid (chk_8 hO6 k6 h8)
  obtain ⟨e0, e1, e2, e3⟩ := T6.cells
  clear hO6 k6 h8
  go_wp2_with (first | (go_at_call 11; refine (HE8.out _ (Below.refl _ _)).mono ?_; rintro e w7 ⟨rfl, b7⟩) | (go_at_call 17; refine (alive_from (b06.trans (b7.mono b06.size))).mono ?_; rintro e w8 ⟨rfl, hbE⟩))
  go_ret
  exact ⟨rfl, hbE⟩
set_option maxRecDepth 100000 in
set_option maxHeartbeats 4000000 in
theorem main_3 {w : World} {v : Value} {D : FnD} (h : FnOk' w v D) (i k : Nat) (hi : (i : Int) ≤ 9223372036854775807) (hk : (k : Int) ≤ 9223372036854775807) (hg : great.greatF D = false) (hc : check.chkF D = 0) : Calls Try.prog 4 #[v, .int .i64 i, .int .i64 k, .int .i64 3] w (Yes w) := by
  have hG := fun w1 (hb : Below w.heap.size w w1) => great_c h hb
  have hC := fun w1 (hb : Below w.heap.size w w1) => check_c h hb
  have hX := fun w1 (hb : Below w.heap.size w w1) => chk_c h hb
  have hT := fun w1 (hb : Below w.heap.size w w1) => twin_c h hc hb
  rw [hg] at hG
  rw [hc] at hC hX
  have HK := Lib.hid (Kinds.of h)
  rw [h.eq] at hG hC hX hT ⊢
  obtain ⟨pL, mL, pB, mB, mS⟩ := small_of hc
  have hm8 := (size.of_chk hc).1
  have HM := Lib.hid hm8
  have h0i : ¬ ((i : Int) < 0) := by omega
  have h0k : ¬ ((k : Int) < 0) := by omega
  have B0 : Box (w.alloc (.cells #[.int .i64 D.p, .bool D.u, D.lv, D.bv] more.tF)) w.heap.size more.tF (.int .i64 D.p) (.bool D.u) D.lv D.bv := Box.mk rfl
  have b0 : Below w.heap.size w (w.alloc (.cells #[.int .i64 D.p, .bool D.u, D.lv, D.bv] more.tF)) := (Below.refl _ _).alloc (Nat.le_refl _) _
  have HG := Lib.hid hG
  have HC := Lib.hid hC
  have HX := Lib.hid hX
  have HT := Lib.hid hT
  clear hG hC hX hT hg hc h hm8
  go_enter Try.func4, Try.ntmps4
  go_upto_region 6 with (first | (go_at_call 18; refine (HG.out _ b0).mono ?_; rintro e w1 ⟨rfl, b1⟩; have B1 := B0.below b1; have b01 := b0.trans (b1.mono b0.size); obtain ⟨y0, y1, y2, y3⟩ := B1.cells) | (go_at_call 19; refine (HC.out _ b01).mono ?_; rintro e w2 ⟨rfl, b2⟩; have B2 := B1.below b2; have b02 := b01.trans (b2.mono b01.size); obtain ⟨z0, z1, z2, z3⟩ := B2.cells) | (go_at_call 11; refine (HX.out _ b02).mono ?_; rintro e w3 ⟨rfl, b3⟩; have B3 := B2.below b3; have b03 := b02.trans (b3.mono b02.size); obtain ⟨x0, x1, x2, x3⟩ := B3.cells) | (go_at_call 20; refine (HT.out _ b03).mono ?_; rintro e w4 ⟨gl, cl, gb, cB, Bs, rfl, hO, hcore, b4⟩; have B4 := B3.below b4; have b04 := b03.trans (b4.mono b03.size)))
  have hN : Bs.length = D.bs.length := by simpa using congrArg List.length hcore
  have T5 : Box (w4.alloc (.cells #[.int .i64 D.p, .bool D.u, .slice (some ⟨gl, 0, none⟩) D.ls.length cl, .slice (some ⟨gb, 0, none⟩) Bs.length cB] more.tF)) w4.heap.size more.tF _ _ _ _ := Box.mk rfl
  have b05 := b04.alloc b04.size (.cells #[.int .i64 D.p, .bool D.u, .slice (some ⟨gl, 0, none⟩) D.ls.length cl, .slice (some ⟨gb, 0, none⟩) Bs.length cB] more.tF)
  have hO5 := hO.below ((Below.refl _ _).alloc (Nat.le_refl _) (.cells #[.int .i64 D.p, .bool D.u, .slice (some ⟨gl, 0, none⟩) D.ls.length cl, .slice (some ⟨gb, 0, none⟩) Bs.length cB] more.tF))
  have hwT := b04.size
  have hw2 := B3.lt
  have hTO : w4.heap.size ∉ blkOf (.slice (some ⟨gl, 0, none⟩) D.ls.length cl) ++ (blkOf (.slice (some ⟨gb, 0, none⟩) Bs.length cB) ++ Bs.flatMap own2) := fun hm => by have := (hO.in_ hm).2; omega
  generalize w4.alloc (.cells #[.int .i64 D.p, .bool D.u, .slice (some ⟨gl, 0, none⟩) D.ls.length cl, .slice (some ⟨gb, 0, none⟩) Bs.length cB] more.tF) = W5 at *
  generalize w4.heap.size = T at *
  have hpos : 0 < Bs.length := by omega
  have hposI : (0 : Int) < (Bs.length : Int) := by omega
  have hNB : Bs.length ≤ 24 := by omega
  have HN := Lib.hid hN
  clear hN
  obtain ⟨t0, t1, t2, t3⟩ := T5.cells
  go_upto_region 7 with fail
  have hm : ((i : Int) % (Bs.length : Int)) = ((i % Bs.length : Nat) : Int) := by simp
  rw [hm]
  have hj : i % Bs.length < Bs.length := Nat.mod_lt _ hpos
  clear hm
  generalize i % Bs.length = j at *
  have hjI : (j : Int) < (Bs.length : Int) := by omega
  have k1 : Kinds (⟨D.p, D.u, .slice (some ⟨gl, 0, none⟩) D.ls.length cl, .slice (some ⟨gb, 0, none⟩) Bs.length cB, D.ls, Bs, ⟨nilV, []⟩⟩ : FnD) := HK.out.core (by unfold FnD.core; rw [hcore])
  obtain ⟨bj, hbj⟩ : ∃ bj, Bs[j]? = some bj := ⟨_, List.getElem?_eq_getElem hj⟩
  have hmj := List.mem_of_getElem? hbj
  have hfn := hO5.ok k1
  obtain ⟨b', off', c', eqB, hcell⟩ := hfn.blocks.at_ j bj.cells (by rw [List.getElem?_map, hbj]; rfl)
  rw [List.length_map] at eqB
  cases eqB
  have cg : W5.cell? ⟨gb, j * 14, none⟩ = some bj.s := by have := hcell 0 bj.s rfl; simpa using this
  have hbs := (hfn.blk bj hmj).sts
  obtain ⟨As, cs, es⟩ := hbs.sl
  have ES := Lib.hid es
  have HCL := Lib.hid hcell
  have HBS := Lib.hid hbs
  have HFN := Lib.hid hfn
  have hst24 : bj.st.length ≤ 24 := by
    have hm2 : bj.core ∈ D.bs.map BlkD.core := hcore ▸ List.mem_map.2 ⟨bj, hmj, rfl⟩
    obtain ⟨b2, hb2, e2⟩ := List.mem_map.1 hm2
    have e3 : b2.st = bj.st := (congrArg BlkD.st e2 : b2.core.st = bj.core.st)
    rw [← e3]
    exact mS b2 hb2
  have hcur : ∃ cur, W5.heap[gb]? = some (.cells cur tBl (0, 0)) ∧ Bs.length * 14 ≤ cur.size := owns_block hO5.ob
  have hgbF : gb ∉ blkOf bj.s := fun hm => (List.nodup_append.1 (List.nodup_append.1 hO5.nd).2.1).2.2 gb (by simp [blkOf, Value.ownBlock]) gb (List.mem_flatMap.2 ⟨bj, hmj, List.mem_append.2 (.inl hm)⟩) rfl
  have hTgb : T ≠ gb := fun e => hTO (by simp [blkOf, Value.ownBlock, e])
  have hTgl : T ≠ gl := fun e => hTO (by simp [blkOf, Value.ownBlock, e])
  have hTbs : T ∉ blkOf bj.s := fun hm => hTO (List.mem_append.2 (.inr (List.mem_append.2 (.inr (List.mem_flatMap.2 ⟨bj, hmj, List.mem_append.2 (.inl hm)⟩)))))
  rw [es] at cg
  clear es hcell hbs hfn
  have b5w : w.heap.size ≤ W5.heap.size := b05.size
  obtain ⟨cur, hcu, hfit⟩ := hcur
  obtain ⟨x0', x1', x2', x3', b4', x5', x6', x7', x8', epre⟩ := pre9 (k1.bk bj hmj).1
  obtain ⟨y0', y1', y2', epost⟩ := post3 (k1.bk bj hmj).2.1
  have EP := Lib.hid epre
  have EQ := Lib.hid epost
  clear epre epost
  have c1 : W5.cell? ⟨gb, j * 14 + 1, none⟩ = some (.int .u8 x0') := by have := HCL.out 1 (.int .u8 x0') (by unfold BlkD.cells; rw [EP.out]; rfl); simpa using this
  have f1 := frozen_none hcu (j * 14 + 1)
  go_upto_region 27 with fail
  have ⟨hO6, bS, kS⟩ := OwnFn.setBlk (o := 1) (vs := [.int .u8 0]) (b' := { bj with pre := u8 0 :: bj.pre.drop 1 }) hO5 k1 hbj rfl (by simp) (by unfold BlkD.cells putL; rw [EP.out]; rfl) (hO5.os bj hmj) (show (own2 bj).Nodup from nd_own2 hO5 hbj) (fun q hq => hq)
  have T6 : Box (W5.setCells gb (j * 14 + 1) [.int .u8 0]) T more.tF _ _ _ _ := (kS T hTgb).trans T5
  have b06 := b05.trans (bS.mono (by omega : w.heap.size ≤ w3.heap.size))
  have k6 := Kinds.setB k1 (j := j) (b' := { bj with pre := u8 0 :: bj.pre.drop 1 }) ⟨by rw [EP.out]; have := (k1.bk bj hmj).1; rw [EP.out] at this; exact ⟨u8_ok 0 (by decide) (by decide), this.2⟩, (k1.bk bj hmj).2⟩
  have ⟨ec, ex⟩ := core_set (D := D) (lv := .slice (some ⟨gl, 0, none⟩) D.ls.length cl) (bv := .slice (some ⟨gb, 0, none⟩) Bs.length cB) (b' := { bj with pre := u8 0 :: bj.pre.drop 1 }) (f := fun y => { y with pre := u8 0 :: y.pre.drop 1 }) hcore hbj rfl
  have h8 : check.chkF (⟨D.p, D.u, .slice (some ⟨gl, 0, none⟩) D.ls.length cl, .slice (some ⟨gb, 0, none⟩) Bs.length cB, D.ls, Bs.set j { bj with pre := u8 0 :: bj.pre.drop 1 }, ⟨nilV, []⟩⟩ : FnD) = 8 := by
    rw [← chk_core, ec]
    exact bad_jump (by rw [many_core]; exact HM.out) ex
  change Code.wp _ _ _ _ (W5.setCells gb (j * 14 + 1) [.int .u8 0])
  generalize W5.setCells gb (j * 14 + 1) [.int .u8 0] = W6 at *
  have HE8 := Lib.hid (chk_8 hO6 k6 h8)
  obtain ⟨e0, e1, e2, e3⟩ := T6.cells
  clear hO6 k6 h8
  go_wp2_with (first | (go_at_call 11; refine (HE8.out _ (Below.refl _ _)).mono ?_; rintro e w7 ⟨rfl, b7⟩) | (go_at_call 17; refine (alive_from (b06.trans (b7.mono b06.size))).mono ?_; rintro e w8 ⟨rfl, hbE⟩))
  go_ret
  exact ⟨rfl, hbE⟩
set_option maxRecDepth 100000 in
set_option maxHeartbeats 4000000 in
theorem main_2 {w : World} {v : Value} {D : FnD} (h : FnOk' w v D) (i k : Nat) (hi : (i : Int) ≤ 9223372036854775807) (hk : (k : Int) ≤ 9223372036854775807) (hg : great.greatF D = false) (hc : check.chkF D = 0) : Calls Try.prog 4 #[v, .int .i64 i, .int .i64 k, .int .i64 2] w (Yes w) := by
  have hG := fun w1 (hb : Below w.heap.size w w1) => great_c h hb
  have hC := fun w1 (hb : Below w.heap.size w w1) => check_c h hb
  have hX := fun w1 (hb : Below w.heap.size w w1) => chk_c h hb
  have hT := fun w1 (hb : Below w.heap.size w w1) => twin_c h hc hb
  rw [hg] at hG
  rw [hc] at hC hX
  have HK := Lib.hid (Kinds.of h)
  rw [h.eq] at hG hC hX hT ⊢
  obtain ⟨pL, mL, pB, mB, mS⟩ := small_of hc
  have hm8 := (size.of_chk hc).1
  have HM := Lib.hid hm8
  have h0i : ¬ ((i : Int) < 0) := by omega
  have h0k : ¬ ((k : Int) < 0) := by omega
  have B0 : Box (w.alloc (.cells #[.int .i64 D.p, .bool D.u, D.lv, D.bv] more.tF)) w.heap.size more.tF (.int .i64 D.p) (.bool D.u) D.lv D.bv := Box.mk rfl
  have b0 : Below w.heap.size w (w.alloc (.cells #[.int .i64 D.p, .bool D.u, D.lv, D.bv] more.tF)) := (Below.refl _ _).alloc (Nat.le_refl _) _
  have HG := Lib.hid hG
  have HC := Lib.hid hC
  have HX := Lib.hid hX
  have HT := Lib.hid hT
  clear hG hC hX hT hg hc h hm8
  go_enter Try.func4, Try.ntmps4
  go_upto_region 6 with (first | (go_at_call 18; refine (HG.out _ b0).mono ?_; rintro e w1 ⟨rfl, b1⟩; have B1 := B0.below b1; have b01 := b0.trans (b1.mono b0.size); obtain ⟨y0, y1, y2, y3⟩ := B1.cells) | (go_at_call 19; refine (HC.out _ b01).mono ?_; rintro e w2 ⟨rfl, b2⟩; have B2 := B1.below b2; have b02 := b01.trans (b2.mono b01.size); obtain ⟨z0, z1, z2, z3⟩ := B2.cells) | (go_at_call 11; refine (HX.out _ b02).mono ?_; rintro e w3 ⟨rfl, b3⟩; have B3 := B2.below b3; have b03 := b02.trans (b3.mono b02.size); obtain ⟨x0, x1, x2, x3⟩ := B3.cells) | (go_at_call 20; refine (HT.out _ b03).mono ?_; rintro e w4 ⟨gl, cl, gb, cB, Bs, rfl, hO, hcore, b4⟩; have B4 := B3.below b4; have b04 := b03.trans (b4.mono b03.size)))
  have hN : Bs.length = D.bs.length := by simpa using congrArg List.length hcore
  have T5 : Box (w4.alloc (.cells #[.int .i64 D.p, .bool D.u, .slice (some ⟨gl, 0, none⟩) D.ls.length cl, .slice (some ⟨gb, 0, none⟩) Bs.length cB] more.tF)) w4.heap.size more.tF _ _ _ _ := Box.mk rfl
  have b05 := b04.alloc b04.size (.cells #[.int .i64 D.p, .bool D.u, .slice (some ⟨gl, 0, none⟩) D.ls.length cl, .slice (some ⟨gb, 0, none⟩) Bs.length cB] more.tF)
  have hO5 := hO.below ((Below.refl _ _).alloc (Nat.le_refl _) (.cells #[.int .i64 D.p, .bool D.u, .slice (some ⟨gl, 0, none⟩) D.ls.length cl, .slice (some ⟨gb, 0, none⟩) Bs.length cB] more.tF))
  have hwT := b04.size
  have hw2 := B3.lt
  have hTO : w4.heap.size ∉ blkOf (.slice (some ⟨gl, 0, none⟩) D.ls.length cl) ++ (blkOf (.slice (some ⟨gb, 0, none⟩) Bs.length cB) ++ Bs.flatMap own2) := fun hm => by have := (hO.in_ hm).2; omega
  generalize w4.alloc (.cells #[.int .i64 D.p, .bool D.u, .slice (some ⟨gl, 0, none⟩) D.ls.length cl, .slice (some ⟨gb, 0, none⟩) Bs.length cB] more.tF) = W5 at *
  generalize w4.heap.size = T at *
  have hpos : 0 < Bs.length := by omega
  have hposI : (0 : Int) < (Bs.length : Int) := by omega
  have hNB : Bs.length ≤ 24 := by omega
  have HN := Lib.hid hN
  clear hN
  obtain ⟨t0, t1, t2, t3⟩ := T5.cells
  go_upto_region 7 with fail
  have hm : ((i : Int) % (Bs.length : Int)) = ((i % Bs.length : Nat) : Int) := by simp
  rw [hm]
  have hj : i % Bs.length < Bs.length := Nat.mod_lt _ hpos
  clear hm
  generalize i % Bs.length = j at *
  have hjI : (j : Int) < (Bs.length : Int) := by omega
  have k1 : Kinds (⟨D.p, D.u, .slice (some ⟨gl, 0, none⟩) D.ls.length cl, .slice (some ⟨gb, 0, none⟩) Bs.length cB, D.ls, Bs, ⟨nilV, []⟩⟩ : FnD) := HK.out.core (by unfold FnD.core; rw [hcore])
  obtain ⟨bj, hbj⟩ : ∃ bj, Bs[j]? = some bj := ⟨_, List.getElem?_eq_getElem hj⟩
  have hmj := List.mem_of_getElem? hbj
  have hfn := hO5.ok k1
  obtain ⟨b', off', c', eqB, hcell⟩ := hfn.blocks.at_ j bj.cells (by rw [List.getElem?_map, hbj]; rfl)
  rw [List.length_map] at eqB
  cases eqB
  have cg : W5.cell? ⟨gb, j * 14, none⟩ = some bj.s := by have := hcell 0 bj.s rfl; simpa using this
  have hbs := (hfn.blk bj hmj).sts
  obtain ⟨As, cs, es⟩ := hbs.sl
  have ES := Lib.hid es
  have HCL := Lib.hid hcell
  have HBS := Lib.hid hbs
  have HFN := Lib.hid hfn
  have hst24 : bj.st.length ≤ 24 := by
    have hm2 : bj.core ∈ D.bs.map BlkD.core := hcore ▸ List.mem_map.2 ⟨bj, hmj, rfl⟩
    obtain ⟨b2, hb2, e2⟩ := List.mem_map.1 hm2
    have e3 : b2.st = bj.st := (congrArg BlkD.st e2 : b2.core.st = bj.core.st)
    rw [← e3]
    exact mS b2 hb2
  have hcur : ∃ cur, W5.heap[gb]? = some (.cells cur tBl (0, 0)) ∧ Bs.length * 14 ≤ cur.size := owns_block hO5.ob
  have hgbF : gb ∉ blkOf bj.s := fun hm => (List.nodup_append.1 (List.nodup_append.1 hO5.nd).2.1).2.2 gb (by simp [blkOf, Value.ownBlock]) gb (List.mem_flatMap.2 ⟨bj, hmj, List.mem_append.2 (.inl hm)⟩) rfl
  have hTgb : T ≠ gb := fun e => hTO (by simp [blkOf, Value.ownBlock, e])
  have hTgl : T ≠ gl := fun e => hTO (by simp [blkOf, Value.ownBlock, e])
  have hTbs : T ∉ blkOf bj.s := fun hm => hTO (List.mem_append.2 (.inr (List.mem_append.2 (.inr (List.mem_flatMap.2 ⟨bj, hmj, List.mem_append.2 (.inl hm)⟩)))))
  rw [es] at cg
  clear es hcell hbs hfn
  have b5w : w.heap.size ≤ W5.heap.size := b05.size
  obtain ⟨cur, hcu, hfit⟩ := hcur
  obtain ⟨x0', x1', x2', x3', b4', x5', x6', x7', x8', epre⟩ := pre9 (k1.bk bj hmj).1
  obtain ⟨y0', y1', y2', epost⟩ := post3 (k1.bk bj hmj).2.1
  have EP := Lib.hid epre
  have EQ := Lib.hid epost
  clear epre epost
  have hth : W5.there gb (j * 14 + 1) 13 := there_block hcu (by have : (j + 1) * 14 ≤ Bs.length * 14 := Nat.mul_le_mul_right _ hj; omega)
  go_upto_region 27 with (refine wpList_store_mid rfl 45 _ _ rfl gb (j * 14 + 1) #[.int .u8 1, .int .u8 0, .int .i64 0, .int .i64 0, .bool false, .int .u8 0, .int .i64 0, .int .i64 Bs.length, .int .i64 0, .slice none 0 0, .int .i64 0, .bool false, .int .u8 0] rfl rfl hth (by kernel_rfl) (by simp [Value.oneCell']) ?_)
  have ⟨hO6, bS, kS⟩ := OwnFn.setBlk (o := 1) (vs := [.int .u8 1, .int .u8 0, .int .i64 0, .int .i64 0, .bool false, .int .u8 0, .int .i64 0, .int .i64 Bs.length, .int .i64 0, .slice none 0 0, .int .i64 0, .bool false, .int .u8 0]) (b' := { bj with pre := gotoPre Bs.length, a := nilV, post := post0, ops := [] }) hO5 k1 hbj rfl (by simp) (by unfold BlkD.cells putL; rw [EP.out, EQ.out]; rfl) ⟨(hO5.os bj hmj).1, World.ownsRow_nil _ _ _ _⟩ (by have := nd_own2 hO5 hbj; exact (List.nodup_append.1 this).1 |> fun h => by simpa [own2, blkOf, Value.ownBlock, nilV] using h) (fun q hq => by rcases List.mem_append.1 hq with hq | hq; exact List.mem_append.2 (.inl hq); simp [blkOf, Value.ownBlock, nilV] at hq)
  have T6 : Box (W5.setCells gb (j * 14 + 1) [.int .u8 1, .int .u8 0, .int .i64 0, .int .i64 0, .bool false, .int .u8 0, .int .i64 0, .int .i64 Bs.length, .int .i64 0, .slice none 0 0, .int .i64 0, .bool false, .int .u8 0]) T more.tF _ _ _ _ := (kS T hTgb).trans T5
  have b06 := b05.trans (bS.mono (by omega : w.heap.size ≤ w3.heap.size))
  have k6 := Kinds.setB k1 (j := j) (b' := { bj with pre := gotoPre Bs.length, a := nilV, post := post0, ops := [] }) ⟨⟨u8_ok 1 (by decide) (by decide), u8_ok 0 (by decide) (by decide), i6_ok 0 (by decide) (by decide), i6_ok 0 (by decide) (by decide), ⟨false, rfl⟩, u8_ok 0 (by decide) (by decide), i6_ok 0 (by decide) (by decide), i6_ok _ (by omega) (by omega), i6_ok 0 (by decide) (by decide), trivial⟩, ⟨i6_ok 0 (by decide) (by decide), ⟨false, rfl⟩, u8_ok 0 (by decide) (by decide), trivial⟩, (k1.bk bj hmj).2.2.1, fun o ho => by simp at ho⟩
  have ⟨ec, ex⟩ := core_set (D := D) (lv := .slice (some ⟨gl, 0, none⟩) D.ls.length cl) (bv := .slice (some ⟨gb, 0, none⟩) Bs.length cB) (b' := { bj with pre := gotoPre Bs.length, a := nilV, post := post0, ops := [] }) (f := fun y => { y with pre := gotoPre D.core.bs.length, post := post0, ops := [] }) hcore hbj (by rw [show Bs.length = D.core.bs.length by simp [FnD.core, HN.out]]; rfl)
  have h8 : check.chkF (⟨D.p, D.u, .slice (some ⟨gl, 0, none⟩) D.ls.length cl, .slice (some ⟨gb, 0, none⟩) Bs.length cB, D.ls, Bs.set j { bj with pre := gotoPre Bs.length, a := nilV, post := post0, ops := [] }, ⟨nilV, []⟩⟩ : FnD) = 8 := by
    rw [← chk_core, ec]
    exact bad_goto (by rw [many_core]; exact HM.out) ex
  change Code.wp _ _ _ _ (W5.setCells gb (j * 14 + 1) [.int .u8 1, .int .u8 0, .int .i64 0, .int .i64 0, .bool false, .int .u8 0, .int .i64 0, .int .i64 Bs.length, .int .i64 0, .slice none 0 0, .int .i64 0, .bool false, .int .u8 0])
  generalize W5.setCells gb (j * 14 + 1) [.int .u8 1, .int .u8 0, .int .i64 0, .int .i64 0, .bool false, .int .u8 0, .int .i64 0, .int .i64 Bs.length, .int .i64 0, .slice none 0 0, .int .i64 0, .bool false, .int .u8 0] = W6 at *
  have HE8 := Lib.hid (chk_8 hO6 k6 h8)
  obtain ⟨e0, e1, e2, e3⟩ := T6.cells
  clear hO6 k6 h8
  go_wp2_with (first | (go_at_call 11; refine (HE8.out _ (Below.refl _ _)).mono ?_; rintro e w7 ⟨rfl, b7⟩) | (go_at_call 17; refine (alive_from (b06.trans (b7.mono b06.size))).mono ?_; rintro e w8 ⟨rfl, hbE⟩))
  go_ret
  exact ⟨rfl, hbE⟩
end Go.Proofs.Ytbebbbclhgjcbaa.bad
/-! FnshapeBad: more cases. -/
namespace Go.Proofs.Ytbebbbclhgjcbaa.bad
open Go.RowKit Go.Proofs.Ytbebbbclhgjcbaa Go.Proofs.Ytbebbbclhgjcbaa.Am Go.Proofs.Ytbebbbclhgjcbaa.twin Go.Proofs.Ytbebbbclhgjcbaa.own Go.Proofs.Ytbebbbclhgjcbaa.more
set_option linter.unusedVariables false
set_option linter.unusedSectionVars false
def Wrote (W wx : World) : Prop := wx.heap = W.heap
set_option maxRecDepth 100000 in
set_option maxHeartbeats 4000000 in
theorem main_6 {w : World} {v : Value} {D : FnD} (h : FnOk' w v D) (i k : Nat) (c : Int) (hi : (i : Int) ≤ 9223372036854775807) (hk : (k : Int) ≤ 9223372036854775807) (hg : great.greatF D = false) (hc : check.chkF D = 0) (hc0 : ¬ c = 0) (hc1 : ¬ c = 1) (hc2 : ¬ c = 2) (hc3 : ¬ c = 3) (hc4 : ¬ c = 4) (hc5 : ¬ c = 5) : Calls Try.prog 4 #[v, .int .i64 i, .int .i64 k, .int .i64 c] w (Yes w) := by
  have hG := fun w1 (hb : Below w.heap.size w w1) => great_c h hb
  have hC := fun w1 (hb : Below w.heap.size w w1) => check_c h hb
  have hX := fun w1 (hb : Below w.heap.size w w1) => chk_c h hb
  have hT := fun w1 (hb : Below w.heap.size w w1) => twin_c h hc hb
  rw [hg] at hG
  rw [hc] at hC hX
  have HK := Lib.hid (Kinds.of h)
  rw [h.eq] at hG hC hX hT ⊢
  obtain ⟨pL, mL, pB, mB, mS⟩ := small_of hc
  have hm8 := (size.of_chk hc).1
  have HM := Lib.hid hm8
  have h0i : ¬ ((i : Int) < 0) := by omega
  have h0k : ¬ ((k : Int) < 0) := by omega
  have B0 : Box (w.alloc (.cells #[.int .i64 D.p, .bool D.u, D.lv, D.bv] more.tF)) w.heap.size more.tF (.int .i64 D.p) (.bool D.u) D.lv D.bv := Box.mk rfl
  have b0 : Below w.heap.size w (w.alloc (.cells #[.int .i64 D.p, .bool D.u, D.lv, D.bv] more.tF)) := (Below.refl _ _).alloc (Nat.le_refl _) _
  have HG := Lib.hid hG
  have HC := Lib.hid hC
  have HX := Lib.hid hX
  have HT := Lib.hid hT
  clear hG hC hX hT hg hc h hm8
  go_enter Try.func4, Try.ntmps4
  go_upto_region 6 with (first | (go_at_call 18; refine (HG.out _ b0).mono ?_; rintro e w1 ⟨rfl, b1⟩; have B1 := B0.below b1; have b01 := b0.trans (b1.mono b0.size); obtain ⟨y0, y1, y2, y3⟩ := B1.cells) | (go_at_call 19; refine (HC.out _ b01).mono ?_; rintro e w2 ⟨rfl, b2⟩; have B2 := B1.below b2; have b02 := b01.trans (b2.mono b01.size); obtain ⟨z0, z1, z2, z3⟩ := B2.cells) | (go_at_call 11; refine (HX.out _ b02).mono ?_; rintro e w3 ⟨rfl, b3⟩; have B3 := B2.below b3; have b03 := b02.trans (b3.mono b02.size); obtain ⟨x0, x1, x2, x3⟩ := B3.cells) | (go_at_call 20; refine (HT.out _ b03).mono ?_; rintro e w4 ⟨gl, cl, gb, cB, Bs, rfl, hO, hcore, b4⟩; have B4 := B3.below b4; have b04 := b03.trans (b4.mono b03.size)))
  have hN : Bs.length = D.bs.length := by simpa using congrArg List.length hcore
  have T5 : Box (w4.alloc (.cells #[.int .i64 D.p, .bool D.u, .slice (some ⟨gl, 0, none⟩) D.ls.length cl, .slice (some ⟨gb, 0, none⟩) Bs.length cB] more.tF)) w4.heap.size more.tF _ _ _ _ := Box.mk rfl
  have b05 := b04.alloc b04.size (.cells #[.int .i64 D.p, .bool D.u, .slice (some ⟨gl, 0, none⟩) D.ls.length cl, .slice (some ⟨gb, 0, none⟩) Bs.length cB] more.tF)
  have hO5 := hO.below ((Below.refl _ _).alloc (Nat.le_refl _) (.cells #[.int .i64 D.p, .bool D.u, .slice (some ⟨gl, 0, none⟩) D.ls.length cl, .slice (some ⟨gb, 0, none⟩) Bs.length cB] more.tF))
  have hwT := b04.size
  have hw2 := B3.lt
  have hTO : w4.heap.size ∉ blkOf (.slice (some ⟨gl, 0, none⟩) D.ls.length cl) ++ (blkOf (.slice (some ⟨gb, 0, none⟩) Bs.length cB) ++ Bs.flatMap own2) := fun hm => by have := (hO.in_ hm).2; omega
  generalize w4.alloc (.cells #[.int .i64 D.p, .bool D.u, .slice (some ⟨gl, 0, none⟩) D.ls.length cl, .slice (some ⟨gb, 0, none⟩) Bs.length cB] more.tF) = W5 at *
  generalize w4.heap.size = T at *
  have hpos : 0 < Bs.length := by omega
  have hposI : (0 : Int) < (Bs.length : Int) := by omega
  have hNB : Bs.length ≤ 24 := by omega
  have HN := Lib.hid hN
  clear hN
  obtain ⟨t0, t1, t2, t3⟩ := T5.cells
  go_upto_region 7 with fail
  have hm : ((i : Int) % (Bs.length : Int)) = ((i % Bs.length : Nat) : Int) := by simp
  rw [hm]
  have hj : i % Bs.length < Bs.length := Nat.mod_lt _ hpos
  clear hm
  generalize i % Bs.length = j at *
  have hjI : (j : Int) < (Bs.length : Int) := by omega
  have k1 : Kinds (⟨D.p, D.u, .slice (some ⟨gl, 0, none⟩) D.ls.length cl, .slice (some ⟨gb, 0, none⟩) Bs.length cB, D.ls, Bs, ⟨nilV, []⟩⟩ : FnD) := HK.out.core (by unfold FnD.core; rw [hcore])
  obtain ⟨bj, hbj⟩ : ∃ bj, Bs[j]? = some bj := ⟨_, List.getElem?_eq_getElem hj⟩
  have hmj := List.mem_of_getElem? hbj
  have hfn := hO5.ok k1
  obtain ⟨b', off', c', eqB, hcell⟩ := hfn.blocks.at_ j bj.cells (by rw [List.getElem?_map, hbj]; rfl)
  rw [List.length_map] at eqB
  cases eqB
  have cg : W5.cell? ⟨gb, j * 14, none⟩ = some bj.s := by have := hcell 0 bj.s rfl; simpa using this
  have hbs := (hfn.blk bj hmj).sts
  obtain ⟨As, cs, es⟩ := hbs.sl
  have ES := Lib.hid es
  have HCL := Lib.hid hcell
  have HBS := Lib.hid hbs
  have HFN := Lib.hid hfn
  have hst24 : bj.st.length ≤ 24 := by
    have hm2 : bj.core ∈ D.bs.map BlkD.core := hcore ▸ List.mem_map.2 ⟨bj, hmj, rfl⟩
    obtain ⟨b2, hb2, e2⟩ := List.mem_map.1 hm2
    have e3 : b2.st = bj.st := (congrArg BlkD.st e2 : b2.core.st = bj.core.st)
    rw [← e3]
    exact mS b2 hb2
  have hcur : ∃ cur, W5.heap[gb]? = some (.cells cur tBl (0, 0)) ∧ Bs.length * 14 ≤ cur.size := owns_block hO5.ob
  have hgbF : gb ∉ blkOf bj.s := fun hm => (List.nodup_append.1 (List.nodup_append.1 hO5.nd).2.1).2.2 gb (by simp [blkOf, Value.ownBlock]) gb (List.mem_flatMap.2 ⟨bj, hmj, List.mem_append.2 (.inl hm)⟩) rfl
  have hTgb : T ≠ gb := fun e => hTO (by simp [blkOf, Value.ownBlock, e])
  have hTgl : T ≠ gl := fun e => hTO (by simp [blkOf, Value.ownBlock, e])
  have hTbs : T ∉ blkOf bj.s := fun hm => hTO (List.mem_append.2 (.inr (List.mem_append.2 (.inr (List.mem_flatMap.2 ⟨bj, hmj, List.mem_append.2 (.inl hm)⟩)))))
  rw [es] at cg
  clear es hcell hbs hfn
  have b5w : w.heap.size ≤ W5.heap.size := b05.size
  have hlsL := HFN.out.locals
  obtain ⟨cur2, hcu2, hfit2⟩ := owns_block hO5.ol
  obtain ⟨el, hel⟩ : ∃ el, D.ls[0]? = some el := ⟨_, List.getElem?_eq_getElem pL⟩
  obtain ⟨va, l0, rfl, ⟨xa, rfl, _⟩, q0⟩ := all2_cons' (k1.lk el (List.mem_of_getElem? hel))
  obtain ⟨vb, l1, rfl, ⟨xb, rfl, _⟩, q1⟩ := all2_cons' q0
  obtain rfl := all2_nil' q1
  have a0 : W5.cell? ⟨gl, 0, none⟩ = some (.int .u8 xa) := by
    obtain ⟨b2, o2, c2, e2, h2⟩ := hlsL.at_ 0 _ hel
    cases e2
    exact h2 0 _ rfl
  have a1 : W5.cell? ⟨gl, 1, none⟩ = some (.int .u8 xb) := by
    obtain ⟨b2, o2, c2, e2, h2⟩ := hlsL.at_ 0 _ hel
    cases e2
    exact h2 1 _ rfl
  have f0 := frozen_none hcu2 0
  have f1 := frozen_none hcu2 1
  have pLI : (0 : Int) < (D.ls.length : Int) := by omega
  have d0 : (c == 0) = false := by simpa using hc0
  have d1 : (c == 1) = false := by simpa using hc1
  have d2 : (c == 2) = false := by simpa using hc2
  have d3 : (c == 3) = false := by simpa using hc3
  have d4 : (c == 4) = false := by simpa using hc4
  have d5 : (c == 5) = false := by simpa using hc5
  go_upto_region 27 with fail
  have ⟨hO6, bS, kS⟩ := OwnFn.setLoc (o := 0) (vs := [.int .u8 4, .int .u8 2]) hO5 k1 rfl hel (by simp)
  have T6 : Box (W5.setCells gl (0 * 2 + 0) [.int .u8 4, .int .u8 2]) T more.tF _ _ _ _ := (kS T hTgl).trans T5
  have b06 := b05.trans (bS.mono (by omega : w.heap.size ≤ w3.heap.size))
  have k6 := Kinds.setT k1 (t := 0) (el := putL [.int .u8 xa, .int .u8 xb] 0 [.int .u8 4, .int .u8 2]) ⟨u8_ok 4 (by decide) (by decide), u8_ok 2 (by decide) (by decide), trivial⟩
  have ec := core_loc (D := D) (lv := .slice (some ⟨gl, 0, none⟩) D.ls.length cl) (bv := .slice (some ⟨gb, 0, none⟩) Bs.length cB) (f := fun _ => [u8 4, u8 2]) hcore hel
  have h8 : check.chkF (⟨D.p, D.u, .slice (some ⟨gl, 0, none⟩) D.ls.length cl, .slice (some ⟨gb, 0, none⟩) Bs.length cB, D.ls.set 0 (putL [.int .u8 xa, .int .u8 xb] 0 [.int .u8 4, .int .u8 2]), Bs, ⟨nilV, []⟩⟩ : FnD) = 8 := by
    rw [← chk_core]
    refine Eq.trans (congrArg check.chkF ec) ?_
    exact bad_ptr (by rw [many_core]; exact HM.out) hel
  have hll : (D.ls.set 0 (putL [.int .u8 xa, .int .u8 xb] 0 [.int .u8 4, .int .u8 2])).length = D.ls.length := List.length_set
  change Code.wp _ _ _ _ (W5.setCells gl (0 * 2 + 0) [.int .u8 4, .int .u8 2])
  generalize W5.setCells gl (0 * 2 + 0) [.int .u8 4, .int .u8 2] = W6 at *
  have HE8 := Lib.hid (chk_8 hO6 k6 h8)
  obtain ⟨e0, e1, e2, e3⟩ := T6.cells
  clear hO6 k6 h8
  go_wp2_with (first | (go_at_call 11; refine (HE8.out _ (Below.refl _ _)).mono ?_; rintro e w7 ⟨rfl, b7⟩) | (go_at_call 17; refine (alive_from (b06.trans (b7.mono b06.size))).mono ?_; rintro e w8 ⟨rfl, hbE⟩))
  go_ret
  exact ⟨rfl, hbE⟩
set_option maxRecDepth 100000 in
set_option maxHeartbeats 4000000 in
theorem main_0 {w : World} {v : Value} {D : FnD} (h : FnOk' w v D) (i k : Nat) (hi : (i : Int) ≤ 9223372036854775807) (hk : (k : Int) ≤ 9223372036854775807) (hg : great.greatF D = false) (hc : check.chkF D = 0) : Calls Try.prog 4 #[v, .int .i64 i, .int .i64 k, .int .i64 0] w (Yes w) := by
  have hG := fun w1 (hb : Below w.heap.size w w1) => great_c h hb
  have hC := fun w1 (hb : Below w.heap.size w w1) => check_c h hb
  have hX := fun w1 (hb : Below w.heap.size w w1) => chk_c h hb
  have hT := fun w1 (hb : Below w.heap.size w w1) => twin_c h hc hb
  rw [hg] at hG
  rw [hc] at hC hX
  have HK := Lib.hid (Kinds.of h)
  rw [h.eq] at hG hC hX hT ⊢
  obtain ⟨pL, mL, pB, mB, mS⟩ := small_of hc
  have hm8 := (size.of_chk hc).1
  have HM := Lib.hid hm8
  have h0i : ¬ ((i : Int) < 0) := by omega
  have h0k : ¬ ((k : Int) < 0) := by omega
  have B0 : Box (w.alloc (.cells #[.int .i64 D.p, .bool D.u, D.lv, D.bv] more.tF)) w.heap.size more.tF (.int .i64 D.p) (.bool D.u) D.lv D.bv := Box.mk rfl
  have b0 : Below w.heap.size w (w.alloc (.cells #[.int .i64 D.p, .bool D.u, D.lv, D.bv] more.tF)) := (Below.refl _ _).alloc (Nat.le_refl _) _
  have HG := Lib.hid hG
  have HC := Lib.hid hC
  have HX := Lib.hid hX
  have HT := Lib.hid hT
  clear hG hC hX hT hg hc h hm8
  go_enter Try.func4, Try.ntmps4
  go_upto_region 6 with (first | (go_at_call 18; refine (HG.out _ b0).mono ?_; rintro e w1 ⟨rfl, b1⟩; have B1 := B0.below b1; have b01 := b0.trans (b1.mono b0.size); obtain ⟨y0, y1, y2, y3⟩ := B1.cells) | (go_at_call 19; refine (HC.out _ b01).mono ?_; rintro e w2 ⟨rfl, b2⟩; have B2 := B1.below b2; have b02 := b01.trans (b2.mono b01.size); obtain ⟨z0, z1, z2, z3⟩ := B2.cells) | (go_at_call 11; refine (HX.out _ b02).mono ?_; rintro e w3 ⟨rfl, b3⟩; have B3 := B2.below b3; have b03 := b02.trans (b3.mono b02.size); obtain ⟨x0, x1, x2, x3⟩ := B3.cells) | (go_at_call 20; refine (HT.out _ b03).mono ?_; rintro e w4 ⟨gl, cl, gb, cB, Bs, rfl, hO, hcore, b4⟩; have B4 := B3.below b4; have b04 := b03.trans (b4.mono b03.size)))
  have hN : Bs.length = D.bs.length := by simpa using congrArg List.length hcore
  have T5 : Box (w4.alloc (.cells #[.int .i64 D.p, .bool D.u, .slice (some ⟨gl, 0, none⟩) D.ls.length cl, .slice (some ⟨gb, 0, none⟩) Bs.length cB] more.tF)) w4.heap.size more.tF _ _ _ _ := Box.mk rfl
  have b05 := b04.alloc b04.size (.cells #[.int .i64 D.p, .bool D.u, .slice (some ⟨gl, 0, none⟩) D.ls.length cl, .slice (some ⟨gb, 0, none⟩) Bs.length cB] more.tF)
  have hO5 := hO.below ((Below.refl _ _).alloc (Nat.le_refl _) (.cells #[.int .i64 D.p, .bool D.u, .slice (some ⟨gl, 0, none⟩) D.ls.length cl, .slice (some ⟨gb, 0, none⟩) Bs.length cB] more.tF))
  have hwT := b04.size
  have hw2 := B3.lt
  have hTO : w4.heap.size ∉ blkOf (.slice (some ⟨gl, 0, none⟩) D.ls.length cl) ++ (blkOf (.slice (some ⟨gb, 0, none⟩) Bs.length cB) ++ Bs.flatMap own2) := fun hm => by have := (hO.in_ hm).2; omega
  generalize w4.alloc (.cells #[.int .i64 D.p, .bool D.u, .slice (some ⟨gl, 0, none⟩) D.ls.length cl, .slice (some ⟨gb, 0, none⟩) Bs.length cB] more.tF) = W5 at *
  generalize w4.heap.size = T at *
  have hpos : 0 < Bs.length := by omega
  have hposI : (0 : Int) < (Bs.length : Int) := by omega
  have hNB : Bs.length ≤ 24 := by omega
  have HN := Lib.hid hN
  clear hN
  obtain ⟨t0, t1, t2, t3⟩ := T5.cells
  go_upto_region 7 with fail
  have hm : ((i : Int) % (Bs.length : Int)) = ((i % Bs.length : Nat) : Int) := by simp
  rw [hm]
  have hj : i % Bs.length < Bs.length := Nat.mod_lt _ hpos
  clear hm
  generalize i % Bs.length = j at *
  have hjI : (j : Int) < (Bs.length : Int) := by omega
  have k1 : Kinds (⟨D.p, D.u, .slice (some ⟨gl, 0, none⟩) D.ls.length cl, .slice (some ⟨gb, 0, none⟩) Bs.length cB, D.ls, Bs, ⟨nilV, []⟩⟩ : FnD) := HK.out.core (by unfold FnD.core; rw [hcore])
  obtain ⟨bj, hbj⟩ : ∃ bj, Bs[j]? = some bj := ⟨_, List.getElem?_eq_getElem hj⟩
  have hmj := List.mem_of_getElem? hbj
  have hfn := hO5.ok k1
  obtain ⟨b', off', c', eqB, hcell⟩ := hfn.blocks.at_ j bj.cells (by rw [List.getElem?_map, hbj]; rfl)
  rw [List.length_map] at eqB
  cases eqB
  have cg : W5.cell? ⟨gb, j * 14, none⟩ = some bj.s := by have := hcell 0 bj.s rfl; simpa using this
  have hbs := (hfn.blk bj hmj).sts
  obtain ⟨As, cs, es⟩ := hbs.sl
  have ES := Lib.hid es
  have HCL := Lib.hid hcell
  have HBS := Lib.hid hbs
  have HFN := Lib.hid hfn
  have hst24 : bj.st.length ≤ 24 := by
    have hm2 : bj.core ∈ D.bs.map BlkD.core := hcore ▸ List.mem_map.2 ⟨bj, hmj, rfl⟩
    obtain ⟨b2, hb2, e2⟩ := List.mem_map.1 hm2
    have e3 : b2.st = bj.st := (congrArg BlkD.st e2 : b2.core.st = bj.core.st)
    rw [← e3]
    exact mS b2 hb2
  have hcur : ∃ cur, W5.heap[gb]? = some (.cells cur tBl (0, 0)) ∧ Bs.length * 14 ≤ cur.size := owns_block hO5.ob
  have hgbF : gb ∉ blkOf bj.s := fun hm => (List.nodup_append.1 (List.nodup_append.1 hO5.nd).2.1).2.2 gb (by simp [blkOf, Value.ownBlock]) gb (List.mem_flatMap.2 ⟨bj, hmj, List.mem_append.2 (.inl hm)⟩) rfl
  have hTgb : T ≠ gb := fun e => hTO (by simp [blkOf, Value.ownBlock, e])
  have hTgl : T ≠ gl := fun e => hTO (by simp [blkOf, Value.ownBlock, e])
  have hTbs : T ∉ blkOf bj.s := fun hm => hTO (List.mem_append.2 (.inr (List.mem_append.2 (.inr (List.mem_flatMap.2 ⟨bj, hmj, List.mem_append.2 (.inl hm)⟩)))))
  rw [es] at cg
  clear es hcell hbs hfn
  have b5w : w.heap.size ≤ W5.heap.size := b05.size
  have hlsL := HFN.out.locals
  obtain ⟨cur2, hcu2, hfit2⟩ := owns_block hO5.ol
  obtain ⟨t, ht⟩ : ∃ t : Nat, ((i : Int) % (D.ls.length : Int)) = (t : Int) := ⟨i % D.ls.length, by simp⟩
  have htl : t < D.ls.length := by
    have h1 := Int.emod_lt_of_pos (i : Int) (show (0 : Int) < (D.ls.length : Int) by omega)
    omega
  obtain ⟨el, hel⟩ : ∃ el, D.ls[t]? = some el := ⟨_, List.getElem?_eq_getElem htl⟩
  obtain ⟨va, l0, rfl, ⟨xa, rfl, _⟩, q0⟩ := all2_cons' (k1.lk el (List.mem_of_getElem? hel))
  obtain ⟨vb, l1, rfl, ⟨xb, rfl, hxb⟩, q1⟩ := all2_cons' q0
  obtain rfl := all2_nil' q1
  have pLI : (0 : Int) < (D.ls.length : Int) := by omega
  have tI : (t : Int) < (D.ls.length : Int) := by omega
  have htm : ((i : Int).tmod (D.ls.length : Int)) = (t : Int) := by rw [Int.tmod_eq_emod_of_nonneg (Int.natCast_nonneg _)]; exact ht
  have hnil : ¬ D.ls = [] := fun e => by rw [e] at htl; simp at htl
  have t0I : (0 : Int) ≤ (t : Int) := Int.natCast_nonneg _
  go_upto_region 12 with fail
  refine region_held [T] (by kernel_rfl) ?_
  have t2 : W5.drew.cell? ⟨T, 2, none⟩ = _ := t2
  refine AnyH.take (i := 0) (v := ?_) (by kernel_rfl) rfl (by kernel_rfl) (by kernel_rfl) (fun _ _ _ _ _ h => h) (by rfl) (fun W hW => ?_) ?_
  rotate_left
  focus (have g2 := (hW.cell (by simp) t2); go_simp; with_reducible rfl)
  simp only [Act.put, List.setIfInBounds_toArray, List.set_cons_zero, List.set_cons_succ]
  refine AnyH.take (i := 1) (v := ?_) (by kernel_rfl) rfl (by kernel_rfl) (by kernel_rfl) (fun _ _ _ _ _ h => h) (by rfl) (fun W hW => ?_) ?_
  rotate_left
  focus (have g2 := (hW.cell (by simp) t2); go_simp; with_reducible rfl)
  simp only [Act.put, List.setIfInBounds_toArray, List.set_cons_zero, List.set_cons_succ]
  refine AnyH.take (i := 2) (v := ?_) (by kernel_rfl) rfl (by kernel_rfl) (by kernel_rfl) (fun _ _ _ _ _ h => h) (by rfl) (fun W hW => ?_) ?_
  rotate_left
  focus (have g2 := (hW.cell (by simp) t2); go_simp; with_reducible rfl)
  simp only [Act.put, List.setIfInBounds_toArray, List.set_cons_zero, List.set_cons_succ]
  refine AnyH.take (i := 3) (v := ?_) (by kernel_rfl) rfl (by kernel_rfl) (by kernel_rfl) (fun _ _ _ _ _ h => h) (by rfl) (fun W hW => ?_) ?_
  rotate_left
  focus (have g2 := (hW.cell (by simp) t2); go_simp; with_reducible rfl)
  simp only [Act.put, List.setIfInBounds_toArray, List.set_cons_zero, List.set_cons_succ]
  refine AnyH.take (i := 4) (v := ?_) (by kernel_rfl) rfl (by kernel_rfl) (by kernel_rfl) (fun _ _ _ _ _ h => h) (by rfl) (fun W hW => ?_) ?_
  rotate_left
  focus (have g2 := (hW.cell (by simp) t2); go_simp; with_reducible rfl)
  simp only [Act.put, List.setIfInBounds_toArray, List.set_cons_zero, List.set_cons_succ]
  refine AnyH.take (i := 5) (v := ?_) (by kernel_rfl) rfl (by kernel_rfl) (by kernel_rfl) (fun _ _ _ _ _ h => h) (by rfl) (fun W hW => ?_) ?_
  rotate_left
  focus (have g2 := (hW.cell (by simp) t2); go_simp; with_reducible rfl)
  simp only [Act.put, List.setIfInBounds_toArray, List.set_cons_zero, List.set_cons_succ]
  refine AnyH.take (i := 6) (v := ?_) (by kernel_rfl) rfl (by kernel_rfl) (by kernel_rfl) (fun _ _ _ _ _ h => h) (by rfl) (fun W hW => ?_) ?_
  rotate_left
  focus (have g2 := (hW.cell (by simp) t2); go_simp; with_reducible rfl)
  simp only [Act.put, List.setIfInBounds_toArray, List.set_cons_zero, List.set_cons_succ]
  refine AnyH.take (i := 7) (v := ?_) (by kernel_rfl) rfl (by kernel_rfl) (by kernel_rfl) (fun _ _ _ _ _ h => h) (by rfl) (fun W hW => ?_) ?_
  rotate_left
  focus (have g2 := (hW.cell (by simp) t2); go_simp; with_reducible rfl)
  simp only [Act.put, List.setIfInBounds_toArray, List.set_cons_zero, List.set_cons_succ]
  refine AnyH.take (i := 8) (v := ?_) (by kernel_rfl) rfl (by kernel_rfl) (by kernel_rfl) (fun _ _ _ _ _ h => h) (by rfl) (fun W hW => ?_) ?_
  rotate_left
  focus (have g2 := (hW.cell (by simp) t2); go_simp; with_reducible rfl)
  simp only [Act.put, List.setIfInBounds_toArray, List.set_cons_zero, List.set_cons_succ]
  refine AnyH.all (rs := [9]) (by kernel_rfl) rfl (fun i hi => ?_)
  obtain rfl := List.mem_singleton.1 hi
  refine hStore (by rfl) (by rfl) _ _ _ (by rfl) gl (t * 2) (.int .u8 9) #[.int .u8 9] (by rfl) (by rfl) rfl (w := W5.drew) hcu2 (by simp; have : (t + 1) * 2 ≤ D.ls.length * 2 := Nat.mul_le_mul_right _ htl; omega) (by kernel_rfl) (by simp [Value.oneCell']) (by simp; exact fun e => hTgl e.symm) ?_
  simp only [Act.put]
  refine AnyH.done (by kernel_rfl) ?_
  have hO5 : OwnFn w3.heap.size W5.drew _ := hO5.keep fun _ _ => rfl
  have T5 : Box W5.drew T more.tF _ _ _ _ := T5
  have b05 := b05.drew
  clear hcu2 ht
  have ⟨hO6, bS, kS⟩ := OwnFn.setLoc (o := 0) (vs := [.int .u8 9]) hO5 k1 rfl hel (by simp)
  have T6 : Box (W5.drew.setCells gl (t * 2 + 0) [.int .u8 9]) T more.tF _ _ _ _ := (kS T hTgl).trans T5
  have b06 := b05.trans (bS.mono (by omega : w.heap.size ≤ w3.heap.size))
  have k6 := Kinds.setT k1 (t := t) (el := putL [.int .u8 xa, .int .u8 xb] 0 [.int .u8 9]) ⟨u8_ok 9 (by decide) (by decide), ⟨xb, rfl, hxb⟩, trivial⟩
  have ec := core_loc (D := D) (lv := .slice (some ⟨gl, 0, none⟩) D.ls.length cl) (bv := .slice (some ⟨gb, 0, none⟩) Bs.length cB) (f := fun x => u8 9 :: x.drop 1) hcore hel
  have h8 : check.chkF (⟨D.p, D.u, .slice (some ⟨gl, 0, none⟩) D.ls.length cl, .slice (some ⟨gb, 0, none⟩) Bs.length cB, D.ls.set t (putL [.int .u8 xa, .int .u8 xb] 0 [.int .u8 9]), Bs, ⟨nilV, []⟩⟩ : FnD) = 8 := by
    rw [← chk_core]
    refine Eq.trans (congrArg check.chkF ec) ?_
    exact chk_setT_8 (by rw [many_core]; exact HM.out) hel (by rfl)
  have hll : (D.ls.set t (putL [.int .u8 xa, .int .u8 xb] 0 [.int .u8 9])).length = D.ls.length := List.length_set
  rw [show W5.drew.setCells gl (t * 2) (#[Value.int .u8 9]).toList = W5.drew.setCells gl (t * 2 + 0) [.int .u8 9] from rfl]
  generalize W5.drew.setCells gl (t * 2 + 0) [.int .u8 9] = W6 at *
  have HE8 := Lib.hid (chk_8 hO6 k6 h8)
  obtain ⟨e0, e1, e2, e3⟩ := T6.cells
  clear hO6 k6 h8
  go_wp2_with (first | (go_at_call 11; refine (HE8.out _ (Below.refl _ _)).mono ?_; rintro e w7 ⟨rfl, b7⟩) | (go_at_call 17; refine (alive_from (b06.trans (b7.mono b06.size))).mono ?_; rintro e w8 ⟨rfl, hbE⟩))
  go_ret
  exact ⟨rfl, hbE⟩
set_option maxRecDepth 100000 in
set_option maxHeartbeats 4000000 in
theorem main_4 {w : World} {v : Value} {D : FnD} (h : FnOk' w v D) (i k : Nat) (hi : (i : Int) ≤ 9223372036854775807) (hk : (k : Int) ≤ 9223372036854775807) (hg : great.greatF D = false) (hc : check.chkF D = 0) : Calls Try.prog 4 #[v, .int .i64 i, .int .i64 k, .int .i64 4] w (Yes w) := by
  have hG := fun w1 (hb : Below w.heap.size w w1) => great_c h hb
  have hC := fun w1 (hb : Below w.heap.size w w1) => check_c h hb
  have hX := fun w1 (hb : Below w.heap.size w w1) => chk_c h hb
  have hT := fun w1 (hb : Below w.heap.size w w1) => twin_c h hc hb
  rw [hg] at hG
  rw [hc] at hC hX
  have HK := Lib.hid (Kinds.of h)
  rw [h.eq] at hG hC hX hT ⊢
  obtain ⟨pL, mL, pB, mB, mS⟩ := small_of hc
  have hm8 := (size.of_chk hc).1
  have HM := Lib.hid hm8
  have h0i : ¬ ((i : Int) < 0) := by omega
  have h0k : ¬ ((k : Int) < 0) := by omega
  have B0 : Box (w.alloc (.cells #[.int .i64 D.p, .bool D.u, D.lv, D.bv] more.tF)) w.heap.size more.tF (.int .i64 D.p) (.bool D.u) D.lv D.bv := Box.mk rfl
  have b0 : Below w.heap.size w (w.alloc (.cells #[.int .i64 D.p, .bool D.u, D.lv, D.bv] more.tF)) := (Below.refl _ _).alloc (Nat.le_refl _) _
  have HG := Lib.hid hG
  have HC := Lib.hid hC
  have HX := Lib.hid hX
  have HT := Lib.hid hT
  clear hG hC hX hT hg hc h hm8
  go_enter Try.func4, Try.ntmps4
  go_upto_region 6 with (first | (go_at_call 18; refine (HG.out _ b0).mono ?_; rintro e w1 ⟨rfl, b1⟩; have B1 := B0.below b1; have b01 := b0.trans (b1.mono b0.size); obtain ⟨y0, y1, y2, y3⟩ := B1.cells) | (go_at_call 19; refine (HC.out _ b01).mono ?_; rintro e w2 ⟨rfl, b2⟩; have B2 := B1.below b2; have b02 := b01.trans (b2.mono b01.size); obtain ⟨z0, z1, z2, z3⟩ := B2.cells) | (go_at_call 11; refine (HX.out _ b02).mono ?_; rintro e w3 ⟨rfl, b3⟩; have B3 := B2.below b3; have b03 := b02.trans (b3.mono b02.size); obtain ⟨x0, x1, x2, x3⟩ := B3.cells) | (go_at_call 20; refine (HT.out _ b03).mono ?_; rintro e w4 ⟨gl, cl, gb, cB, Bs, rfl, hO, hcore, b4⟩; have B4 := B3.below b4; have b04 := b03.trans (b4.mono b03.size)))
  have hN : Bs.length = D.bs.length := by simpa using congrArg List.length hcore
  have T5 : Box (w4.alloc (.cells #[.int .i64 D.p, .bool D.u, .slice (some ⟨gl, 0, none⟩) D.ls.length cl, .slice (some ⟨gb, 0, none⟩) Bs.length cB] more.tF)) w4.heap.size more.tF _ _ _ _ := Box.mk rfl
  have b05 := b04.alloc b04.size (.cells #[.int .i64 D.p, .bool D.u, .slice (some ⟨gl, 0, none⟩) D.ls.length cl, .slice (some ⟨gb, 0, none⟩) Bs.length cB] more.tF)
  have hO5 := hO.below ((Below.refl _ _).alloc (Nat.le_refl _) (.cells #[.int .i64 D.p, .bool D.u, .slice (some ⟨gl, 0, none⟩) D.ls.length cl, .slice (some ⟨gb, 0, none⟩) Bs.length cB] more.tF))
  have hwT := b04.size
  have hw2 := B3.lt
  have hTO : w4.heap.size ∉ blkOf (.slice (some ⟨gl, 0, none⟩) D.ls.length cl) ++ (blkOf (.slice (some ⟨gb, 0, none⟩) Bs.length cB) ++ Bs.flatMap own2) := fun hm => by have := (hO.in_ hm).2; omega
  generalize w4.alloc (.cells #[.int .i64 D.p, .bool D.u, .slice (some ⟨gl, 0, none⟩) D.ls.length cl, .slice (some ⟨gb, 0, none⟩) Bs.length cB] more.tF) = W5 at *
  generalize w4.heap.size = T at *
  have hpos : 0 < Bs.length := by omega
  have hposI : (0 : Int) < (Bs.length : Int) := by omega
  have hNB : Bs.length ≤ 24 := by omega
  have HN := Lib.hid hN
  clear hN
  obtain ⟨t0, t1, t2, t3⟩ := T5.cells
  go_upto_region 7 with fail
  have hm : ((i : Int) % (Bs.length : Int)) = ((i % Bs.length : Nat) : Int) := by simp
  rw [hm]
  have hj : i % Bs.length < Bs.length := Nat.mod_lt _ hpos
  clear hm
  generalize i % Bs.length = j at *
  have hjI : (j : Int) < (Bs.length : Int) := by omega
  have k1 : Kinds (⟨D.p, D.u, .slice (some ⟨gl, 0, none⟩) D.ls.length cl, .slice (some ⟨gb, 0, none⟩) Bs.length cB, D.ls, Bs, ⟨nilV, []⟩⟩ : FnD) := HK.out.core (by unfold FnD.core; rw [hcore])
  obtain ⟨bj, hbj⟩ : ∃ bj, Bs[j]? = some bj := ⟨_, List.getElem?_eq_getElem hj⟩
  have hmj := List.mem_of_getElem? hbj
  have hfn := hO5.ok k1
  obtain ⟨b', off', c', eqB, hcell⟩ := hfn.blocks.at_ j bj.cells (by rw [List.getElem?_map, hbj]; rfl)
  rw [List.length_map] at eqB
  cases eqB
  have cg : W5.cell? ⟨gb, j * 14, none⟩ = some bj.s := by have := hcell 0 bj.s rfl; simpa using this
  have hbs := (hfn.blk bj hmj).sts
  obtain ⟨As, cs, es⟩ := hbs.sl
  have ES := Lib.hid es
  have HCL := Lib.hid hcell
  have HBS := Lib.hid hbs
  have HFN := Lib.hid hfn
  have hst24 : bj.st.length ≤ 24 := by
    have hm2 : bj.core ∈ D.bs.map BlkD.core := hcore ▸ List.mem_map.2 ⟨bj, hmj, rfl⟩
    obtain ⟨b2, hb2, e2⟩ := List.mem_map.1 hm2
    have e3 : b2.st = bj.st := (congrArg BlkD.st e2 : b2.core.st = bj.core.st)
    rw [← e3]
    exact mS b2 hb2
  have hcur : ∃ cur, W5.heap[gb]? = some (.cells cur tBl (0, 0)) ∧ Bs.length * 14 ≤ cur.size := owns_block hO5.ob
  have hgbF : gb ∉ blkOf bj.s := fun hm => (List.nodup_append.1 (List.nodup_append.1 hO5.nd).2.1).2.2 gb (by simp [blkOf, Value.ownBlock]) gb (List.mem_flatMap.2 ⟨bj, hmj, List.mem_append.2 (.inl hm)⟩) rfl
  have hTgb : T ≠ gb := fun e => hTO (by simp [blkOf, Value.ownBlock, e])
  have hTgl : T ≠ gl := fun e => hTO (by simp [blkOf, Value.ownBlock, e])
  have hTbs : T ∉ blkOf bj.s := fun hm => hTO (List.mem_append.2 (.inr (List.mem_append.2 (.inr (List.mem_flatMap.2 ⟨bj, hmj, List.mem_append.2 (.inl hm)⟩)))))
  rw [es] at cg
  clear es hcell hbs hfn
  have b5w : w.heap.size ≤ W5.heap.size := b05.size
  by_cases hz : bj.st.length = 0
  · go_wp2_with (go_at_call 17; refine (alive_from b05).mono ?_; rintro e w9 ⟨rfl, hbE⟩)
    go_ret
    exact ⟨rfl, hbE⟩
  have hzp : 0 < bj.st.length := by omega
  have hzI : (0 : Int) < (bj.st.length : Int) := by omega
  have hzz : ¬ ((bj.st.length : Int) = 0) := by omega
  obtain ⟨gs, c5, hs5, _⟩ := (hO5.os bj hmj).1.form hzp
  have hs6 := ES.out.symm.trans hs5
  cases hs6
  obtain ⟨m, hm⟩ : ∃ m : Nat, ((k : Int) % (bj.st.length : Int)) = (m : Int) := ⟨k % bj.st.length, by simp⟩
  have hml : m < bj.st.length := by
    have h1 := Int.emod_lt_of_pos (k : Int) hzI
    omega
  obtain ⟨el, hel⟩ : ∃ el, bj.st[m]? = some el := ⟨_, List.getElem?_eq_getElem hml⟩
  have hek := (k1.bk bj hmj).2.2.1 el (List.mem_of_getElem? hel)
  obtain ⟨va, l0, rfl, ⟨xa, rfl, hxa⟩, q0⟩ := all2_cons' hek
  have am : W5.cell? ⟨gs, m * 26, none⟩ = some (.int .u8 xa) := by
    obtain ⟨b2, o2, c2, e2, h2⟩ := HBS.out.at_ m _ hel
    have e3 := hs5.symm.trans e2
    cases e3
    have := h2 0 _ rfl
    simpa using this
  have hos5 := (hO5.os bj hmj).1
  rw [hs5] at hos5
  obtain ⟨cur3, hcu3, hfit3⟩ := owns_block hos5
  have fm := frozen_none hcu3 (m * 26)
  have mI : (m : Int) < (bj.st.length : Int) := by omega
  have m0I : (0 : Int) ≤ (m : Int) := Int.natCast_nonneg _
  have hTgs : T ≠ gs := fun e => hTbs (by rw [hs5]; simp [blkOf, Value.ownBlock, e])
  have HS5 := Lib.hid hs5
  clear hs5 hos5 hcu3
  go_upto_region 27 with fail
  have ⟨hO6, bS, kS⟩ := OwnFn.setStm (o := 0) (vs := [.int .u8 0]) hO5 k1 hbj HS5.out hel (by simp)
  have T6 : Box (W5.setCells gs (m * 26 + 0) [.int .u8 0]) T more.tF _ _ _ _ := (kS T hTgs).trans T5
  have b06 := b05.trans (bS.mono (by omega : w.heap.size ≤ w3.heap.size))
  have k6 := Kinds.setB k1 (j := j) (b' := { bj with st := bj.st.set m (putL (.int .u8 xa :: l0) 0 [.int .u8 0]) }) ⟨(k1.bk bj hmj).1, (k1.bk bj hmj).2.1, fun st hst => by
    rcases List.mem_or_eq_of_mem_set hst with hst | rfl
    · exact (k1.bk bj hmj).2.2.1 st hst
    · exact ⟨u8_ok 0 (by decide) (by decide), q0⟩, (k1.bk bj hmj).2.2.2⟩
  have ⟨ec, ex⟩ := core_set (D := D) (lv := .slice (some ⟨gl, 0, none⟩) D.ls.length cl) (bv := .slice (some ⟨gb, 0, none⟩) Bs.length cB) (b' := { bj with st := bj.st.set m (putL (.int .u8 xa :: l0) 0 [.int .u8 0]) }) (f := fun y => { y with st := y.st.modify m fun s => u8 0 :: s.drop 1 }) hcore hbj (by
    have := modify_set (f := fun s => u8 0 :: s.drop 1) hel
    unfold BlkD.core
    simp only
    rw [this]
    rfl)
  have h8 : check.chkF (⟨D.p, D.u, .slice (some ⟨gl, 0, none⟩) D.ls.length cl, .slice (some ⟨gb, 0, none⟩) Bs.length cB, D.ls, Bs.set j { bj with st := bj.st.set m (putL (.int .u8 xa :: l0) 0 [.int .u8 0]) }, ⟨nilV, []⟩⟩ : FnD) = 8 := by
    rw [← chk_core, ec]
    exact bad_stm (by rw [many_core]; exact HM.out) ex hel
  clear hm
  change Code.wp _ _ _ _ (W5.setCells gs (m * 26 + 0) [.int .u8 0])
  generalize W5.setCells gs (m * 26 + 0) [.int .u8 0] = W6 at *
  have HE8 := Lib.hid (chk_8 hO6 k6 h8)
  obtain ⟨e0, e1, e2, e3⟩ := T6.cells
  clear hO6 k6 h8
  go_wp2_with (first | (go_at_call 11; refine (HE8.out _ (Below.refl _ _)).mono ?_; rintro e w7 ⟨rfl, b7⟩) | (go_at_call 17; refine (alive_from (b06.trans (b7.mono b06.size))).mono ?_; rintro e w8 ⟨rfl, hbE⟩))
  go_ret
  exact ⟨rfl, hbE⟩
set_option maxRecDepth 100000 in
set_option maxHeartbeats 4000000 in
theorem main_5 {w : World} {v : Value} {D : FnD} (h : FnOk' w v D) (i k : Nat) (hi : (i : Int) ≤ 9223372036854775807) (hk : (k : Int) ≤ 9223372036854775807) (hg : great.greatF D = false) (hc : check.chkF D = 0) : Calls Try.prog 4 #[v, .int .i64 i, .int .i64 k, .int .i64 5] w (Yes w) := by
  have hG := fun w1 (hb : Below w.heap.size w w1) => great_c h hb
  have hC := fun w1 (hb : Below w.heap.size w w1) => check_c h hb
  have hX := fun w1 (hb : Below w.heap.size w w1) => chk_c h hb
  have hT := fun w1 (hb : Below w.heap.size w w1) => twin_c h hc hb
  rw [hg] at hG
  rw [hc] at hC hX
  have HK := Lib.hid (Kinds.of h)
  rw [h.eq] at hG hC hX hT ⊢
  obtain ⟨pL, mL, pB, mB, mS⟩ := small_of hc
  have hm8 := (size.of_chk hc).1
  have HM := Lib.hid hm8
  have h0i : ¬ ((i : Int) < 0) := by omega
  have h0k : ¬ ((k : Int) < 0) := by omega
  have B0 : Box (w.alloc (.cells #[.int .i64 D.p, .bool D.u, D.lv, D.bv] more.tF)) w.heap.size more.tF (.int .i64 D.p) (.bool D.u) D.lv D.bv := Box.mk rfl
  have b0 : Below w.heap.size w (w.alloc (.cells #[.int .i64 D.p, .bool D.u, D.lv, D.bv] more.tF)) := (Below.refl _ _).alloc (Nat.le_refl _) _
  have HG := Lib.hid hG
  have HC := Lib.hid hC
  have HX := Lib.hid hX
  have HT := Lib.hid hT
  clear hG hC hX hT hg hc h hm8
  go_enter Try.func4, Try.ntmps4
  go_upto_region 6 with (first | (go_at_call 18; refine (HG.out _ b0).mono ?_; rintro e w1 ⟨rfl, b1⟩; have B1 := B0.below b1; have b01 := b0.trans (b1.mono b0.size); obtain ⟨y0, y1, y2, y3⟩ := B1.cells) | (go_at_call 19; refine (HC.out _ b01).mono ?_; rintro e w2 ⟨rfl, b2⟩; have B2 := B1.below b2; have b02 := b01.trans (b2.mono b01.size); obtain ⟨z0, z1, z2, z3⟩ := B2.cells) | (go_at_call 11; refine (HX.out _ b02).mono ?_; rintro e w3 ⟨rfl, b3⟩; have B3 := B2.below b3; have b03 := b02.trans (b3.mono b02.size); obtain ⟨x0, x1, x2, x3⟩ := B3.cells) | (go_at_call 20; refine (HT.out _ b03).mono ?_; rintro e w4 ⟨gl, cl, gb, cB, Bs, rfl, hO, hcore, b4⟩; have B4 := B3.below b4; have b04 := b03.trans (b4.mono b03.size)))
  have hN : Bs.length = D.bs.length := by simpa using congrArg List.length hcore
  have T5 : Box (w4.alloc (.cells #[.int .i64 D.p, .bool D.u, .slice (some ⟨gl, 0, none⟩) D.ls.length cl, .slice (some ⟨gb, 0, none⟩) Bs.length cB] more.tF)) w4.heap.size more.tF _ _ _ _ := Box.mk rfl
  have b05 := b04.alloc b04.size (.cells #[.int .i64 D.p, .bool D.u, .slice (some ⟨gl, 0, none⟩) D.ls.length cl, .slice (some ⟨gb, 0, none⟩) Bs.length cB] more.tF)
  have hO5 := hO.below ((Below.refl _ _).alloc (Nat.le_refl _) (.cells #[.int .i64 D.p, .bool D.u, .slice (some ⟨gl, 0, none⟩) D.ls.length cl, .slice (some ⟨gb, 0, none⟩) Bs.length cB] more.tF))
  have hwT := b04.size
  have hw2 := B3.lt
  have hTO : w4.heap.size ∉ blkOf (.slice (some ⟨gl, 0, none⟩) D.ls.length cl) ++ (blkOf (.slice (some ⟨gb, 0, none⟩) Bs.length cB) ++ Bs.flatMap own2) := fun hm => by have := (hO.in_ hm).2; omega
  generalize w4.alloc (.cells #[.int .i64 D.p, .bool D.u, .slice (some ⟨gl, 0, none⟩) D.ls.length cl, .slice (some ⟨gb, 0, none⟩) Bs.length cB] more.tF) = W5 at *
  generalize w4.heap.size = T at *
  have hpos : 0 < Bs.length := by omega
  have hposI : (0 : Int) < (Bs.length : Int) := by omega
  have hNB : Bs.length ≤ 24 := by omega
  have HN := Lib.hid hN
  clear hN
  obtain ⟨t0, t1, t2, t3⟩ := T5.cells
  go_upto_region 7 with fail
  have hm : ((i : Int) % (Bs.length : Int)) = ((i % Bs.length : Nat) : Int) := by simp
  rw [hm]
  have hj : i % Bs.length < Bs.length := Nat.mod_lt _ hpos
  clear hm
  generalize i % Bs.length = j at *
  have hjI : (j : Int) < (Bs.length : Int) := by omega
  have k1 : Kinds (⟨D.p, D.u, .slice (some ⟨gl, 0, none⟩) D.ls.length cl, .slice (some ⟨gb, 0, none⟩) Bs.length cB, D.ls, Bs, ⟨nilV, []⟩⟩ : FnD) := HK.out.core (by unfold FnD.core; rw [hcore])
  obtain ⟨bj, hbj⟩ : ∃ bj, Bs[j]? = some bj := ⟨_, List.getElem?_eq_getElem hj⟩
  have hmj := List.mem_of_getElem? hbj
  have hfn := hO5.ok k1
  obtain ⟨b', off', c', eqB, hcell⟩ := hfn.blocks.at_ j bj.cells (by rw [List.getElem?_map, hbj]; rfl)
  rw [List.length_map] at eqB
  cases eqB
  have cg : W5.cell? ⟨gb, j * 14, none⟩ = some bj.s := by have := hcell 0 bj.s rfl; simpa using this
  have hbs := (hfn.blk bj hmj).sts
  obtain ⟨As, cs, es⟩ := hbs.sl
  have ES := Lib.hid es
  have HCL := Lib.hid hcell
  have HBS := Lib.hid hbs
  have HFN := Lib.hid hfn
  have hst24 : bj.st.length ≤ 24 := by
    have hm2 : bj.core ∈ D.bs.map BlkD.core := hcore ▸ List.mem_map.2 ⟨bj, hmj, rfl⟩
    obtain ⟨b2, hb2, e2⟩ := List.mem_map.1 hm2
    have e3 : b2.st = bj.st := (congrArg BlkD.st e2 : b2.core.st = bj.core.st)
    rw [← e3]
    exact mS b2 hb2
  have hcur : ∃ cur, W5.heap[gb]? = some (.cells cur tBl (0, 0)) ∧ Bs.length * 14 ≤ cur.size := owns_block hO5.ob
  have hgbF : gb ∉ blkOf bj.s := fun hm => (List.nodup_append.1 (List.nodup_append.1 hO5.nd).2.1).2.2 gb (by simp [blkOf, Value.ownBlock]) gb (List.mem_flatMap.2 ⟨bj, hmj, List.mem_append.2 (.inl hm)⟩) rfl
  have hTgb : T ≠ gb := fun e => hTO (by simp [blkOf, Value.ownBlock, e])
  have hTgl : T ≠ gl := fun e => hTO (by simp [blkOf, Value.ownBlock, e])
  have hTbs : T ∉ blkOf bj.s := fun hm => hTO (List.mem_append.2 (.inr (List.mem_append.2 (.inr (List.mem_flatMap.2 ⟨bj, hmj, List.mem_append.2 (.inl hm)⟩)))))
  rw [es] at cg
  clear es hcell hbs hfn
  have b5w : w.heap.size ≤ W5.heap.size := b05.size
  by_cases h15 : 15 < D.ls.length
  · have h15' : (15 : Int) < (D.ls.length : Int) := by omega
    go_wp2_with (go_at_call 17; refine (alive_from b05).mono ?_; rintro e w9 ⟨rfl, hbE⟩)
    go_ret
    exact ⟨rfl, hbE⟩
  have h15' : ¬ (15 : Int) < (D.ls.length : Int) := by omega
  by_cases h23 : 23 < bj.st.length
  · have h23' : (23 : Int) < (bj.st.length : Int) := by omega
    go_wp2_with (go_at_call 17; refine (alive_from b05).mono ?_; rintro e w9 ⟨rfl, hbE⟩)
    go_ret
    exact ⟨rfl, hbE⟩
  have h23' : ¬ (23 : Int) < (bj.st.length : Int) := by omega
  go_upto_region 26 with fail
  have hTs : some T ≠ bj.s.ownBlock := fun e => hTbs (mem_blkOf.2 e.symm)
  have hgS : ∀ k, (Value.slice (some ⟨gb, 0, none⟩) Bs.length cB).ownBlock = some k → some k ≠ bj.s.ownBlock := fun k e e2 => by
    obtain rfl : gb = k := by simpa [Value.ownBlock] using e
    exact hgbF (mem_blkOf.2 e2.symm)
  have hos : W5.drew.ownsRow w3.heap.size tSt 26 bj.s bj.st.length bj.st.flatten := (hO5.os bj hmj).1
  have hgb2 := hO5.in_ (k := gb) (by simp [blkOf, Value.ownBlock])
  have sz5 : w3.heap.size ≤ W5.drew.heap.size := by show w3.heap.size ≤ W5.heap.size; omega
  refine region_held [T] (by kernel_rfl) ?_
  have t2 : W5.drew.cell? ⟨T, 2, none⟩ = _ := t2
  have t3 : W5.drew.cell? ⟨T, 3, none⟩ = _ := t3
  refine AnyH.take (i := 0) (v := ?_) (by kernel_rfl) rfl (by kernel_rfl) (by kernel_rfl) (fun _ _ _ _ _ h => h) (by rfl) (fun W hW => ?_) ?_
  rotate_left
  focus (have g2 := (hW.cell (by simp) t2); have g3 := (hW.cell (by simp) t3); go_simp; with_reducible rfl)
  simp only [Act.put, List.setIfInBounds_toArray, List.set_cons_zero, List.set_cons_succ]
  refine AnyH.take (i := 1) (v := ?_) (by kernel_rfl) rfl (by kernel_rfl) (by kernel_rfl) (fun _ _ _ _ _ h => h) (by rfl) (fun W hW => ?_) ?_
  rotate_left
  focus (have g2 := (hW.cell (by simp) t2); have g3 := (hW.cell (by simp) t3); go_simp; with_reducible rfl)
  simp only [Act.put, List.setIfInBounds_toArray, List.set_cons_zero, List.set_cons_succ]
  refine AnyH.take (i := 2) (v := ?_) (by kernel_rfl) rfl (by kernel_rfl) (by kernel_rfl) (fun _ _ _ _ _ h => h) (by rfl) (fun W hW => ?_) ?_
  rotate_left
  focus (have g2 := (hW.cell (by simp) t2); have g3 := (hW.cell (by simp) t3); go_simp; with_reducible rfl)
  simp only [Act.put, List.setIfInBounds_toArray, List.set_cons_zero, List.set_cons_succ]
  refine AnyH.take (i := 3) (v := ?_) (by kernel_rfl) rfl (by kernel_rfl) (by kernel_rfl) (fun _ _ _ _ _ h => h) (by rfl) (fun W hW => ?_) ?_
  rotate_left
  focus (have g2 := (hW.cell (by simp) t2); have g3 := (hW.cell (by simp) t3); go_simp; with_reducible rfl)
  simp only [Act.put, List.setIfInBounds_toArray, List.set_cons_zero, List.set_cons_succ]
  refine AnyH.take (i := 4) (v := ?_) (by kernel_rfl) rfl (by kernel_rfl) (by kernel_rfl) (fun _ _ _ _ _ h => h) (by rfl) (fun W hW => ?_) ?_
  rotate_left
  focus (have g2 := (hW.cell (by simp) t2); have g3 := (hW.cell (by simp) t3); go_simp; with_reducible rfl)
  simp only [Act.put, List.setIfInBounds_toArray, List.set_cons_zero, List.set_cons_succ]
  refine AnyH.take (i := 5) (v := ?_) (by kernel_rfl) rfl (by kernel_rfl) (by kernel_rfl) (fun _ _ _ _ _ h => h) (by rfl) (fun W hW => ?_) ?_
  rotate_left
  focus (have g2 := (hW.cell (by simp) t2); have g3 := (hW.cell (by simp) t3); go_simp; with_reducible rfl)
  simp only [Act.put, List.setIfInBounds_toArray, List.set_cons_zero, List.set_cons_succ]
  refine AnyH.take (i := 6) (v := ?_) (by kernel_rfl) rfl (by kernel_rfl) (by kernel_rfl) (fun _ _ _ _ _ h => h) (by rfl) (fun W hW => ?_) ?_
  rotate_left
  focus (have g2 := (hW.cell (by simp) t2); have g3 := (hW.cell (by simp) t3); go_simp; with_reducible rfl)
  simp only [Act.put, List.setIfInBounds_toArray, List.set_cons_zero, List.set_cons_succ]
  refine AnyH.take (i := 7) (v := ?_) (by kernel_rfl) rfl (by kernel_rfl) (by kernel_rfl) (fun _ _ _ _ _ h => h) (by rfl) (fun W hW => ?_) ?_
  rotate_left
  focus (have g2 := (hW.cell (by simp) t2); have g3 := (hW.cell (by simp) t3); go_simp; with_reducible rfl)
  simp only [Act.put, List.setIfInBounds_toArray, List.set_cons_zero, List.set_cons_succ]
  refine AnyH.all (rs := [8]) (by kernel_rfl) rfl (fun i hi => ?_)
  obtain rfl := List.mem_singleton.1 hi
  refine hNew (by rfl) (by rfl) (fun H => .slice (some ⟨H, 0, none⟩) 1 1) #[.int .u8 3, .int .i64 0, .bool false, .int .u8 0, .int .u8 0, .int .u8 0, .int .u8 0, .int .u8 0, .int .i64 0, .int .i64 0, .bool false, .int .u8 0, .int .u8 0, .int .i64 0, .int .i64 0, .bool false, .int .u8 0, .int .i64 0, .bool false, .int .u8 0, .int .u8 0, .int .i64 0, .int .i64 0, .bool false, .int .u8 0, .int .i64 D.ls.length] tSt (by go_simp) fun H w5 eH hH kH bH sH => ?_
  simp only [Act.put, List.setIfInBounds_toArray, List.set_cons_zero, List.set_cons_succ]
  have ho5 := kH.owns hos (fun _ _ => by simp)
  refine AnyH.all (rs := [9]) (by kernel_rfl) rfl (fun i hi => ?_)
  obtain rfl := List.mem_singleton.1 hi
  refine hApp (by rfl) (by rfl) _ _ w3.heap.size _ tSt zS 26 152 (by rfl) Try.underlying38 rowS (by rfl) (by omega) (by rfl) (show w5.ownsRow w3.heap.size tSt 26 (.slice As bj.st.length cs) bj.st.length bj.st.flatten from ES.out ▸ ho5) (by rfl) (ListAt.of_block hH (by rfl) ⟨Nat.le_refl _, by unfold maxLen; omega⟩) (by simp [Value.oneCell']) (by simp; omega) (by omega) (by omega) (.inr (by simp)) (fun k hk => by obtain rfl := List.mem_singleton.1 hk; exact ES.out ▸ hTs) fun g7 c7 w6 o6 k6 b6 s6 at6 lt6 => ?_
  simp only [Act.put, List.setIfInBounds_toArray, List.set_cons_zero, List.set_cons_succ]
  refine AnyH.take (i := 10) (v := ?_) (by kernel_rfl) rfl (by kernel_rfl) (by kernel_rfl) (fun _ _ _ _ _ h => h) (by rfl) (fun W hW => ?_) ?_
  rotate_left
  focus (go_simp; with_reducible rfl)
  simp only [Act.put, List.setIfInBounds_toArray, List.set_cons_zero, List.set_cons_succ]
  refine AnyH.take (i := 11) (v := ?_) (by kernel_rfl) rfl (by kernel_rfl) (by kernel_rfl) (fun _ _ _ _ _ h => h) (by rfl) (fun W hW => ?_) ?_
  rotate_left
  focus (go_simp; with_reducible rfl)
  simp only [Act.put, List.setIfInBounds_toArray, List.set_cons_zero, List.set_cons_succ]
  refine AnyH.all (rs := [12]) (by kernel_rfl) rfl (fun i hi => ?_)
  obtain rfl := List.mem_singleton.1 hi
  rw [← ES.out] at k6 at6
  have hK : Kept bj.s.ownBlock W5 w6 := Kept.trans kH k6
  have o6' : w6.ownsRow w3.heap.size tSt 26 (.slice (some ⟨g7, 0, none⟩) (bj.st.length + 1) c7) (bj.st.length + 1) (bj.st.flatten ++ freshS D.ls.length) := by simpa [freshS, u8, i6, bo] using o6
  have at6' : bj.s.ownBlock = some g7 ∨ W5.heap.size ≤ g7 := at6.imp id fun (e : g7 = w5.heap.size) => by rw [e]; exact bH.size
  obtain ⟨cur4, hcu4, hfit4⟩ := owns_block (k6.owns (kH.owns hO5.ob (fun _ _ => by simp)) hgS)
  have hfit5 : Bs.length * 14 ≤ cur4.size := hfit4
  obtain ⟨hO6, p2, p3⟩ := OwnFn.push (x := freshS D.ls.length) (w := W5) hO5 k1 hbj rfl hK o6' at6'
  refine hStore (by rfl) (by rfl) _ _ _ (by rfl) gb (j * 14) (.slice (some ⟨g7, 0, none⟩) (bj.st.length + 1) c7) #[.slice (some ⟨g7, 0, none⟩) (bj.st.length + 1) c7] (by rfl) (by rfl) rfl hcu4 (by simp; have : (j + 1) * 14 ≤ Bs.length * 14 := Nat.mul_le_mul_right _ hj; omega) (by kernel_rfl) (by simp [Value.oneCell']) (by simp; exact fun e => hTgb e.symm) ?_
  simp only [Act.put]
  refine AnyH.done (by kernel_rfl) ?_
  have T6 : Box (w6.setCells gb (j * 14) [.slice (some ⟨g7, 0, none⟩) (bj.st.length + 1) c7]) T more.tF _ _ _ _ := (p3 T hTgb).trans ((T5.kept kH (by simp)).kept k6 hTs)
  have b06 : Below w.heap.size w (w6.setCells gb (j * 14) [.slice (some ⟨g7, 0, none⟩) (bj.st.length + 1) c7]) := ((b05.drew.trans (bH.mono b05.size)).trans (b6.mono (by omega))).trans (p2.mono (by omega))
  have k6 := Kinds.setB k1 (j := j) (b' := { bj with s := .slice (some ⟨g7, 0, none⟩) (bj.st.length + 1) c7, st := bj.st ++ [freshS D.ls.length] }) ⟨(k1.bk bj hmj).1, (k1.bk bj hmj).2.1, fun st hst => by
    rcases List.mem_append.1 hst with hst | hst
    · exact (k1.bk bj hmj).2.2.1 st hst
    · obtain rfl := List.mem_singleton.1 hst
      exact fresh_kind _ (i6_ok _ (by omega) (by omega)), (k1.bk bj hmj).2.2.2⟩
  have ec := core_push (D := D) (lv := .slice (some ⟨gl, 0, none⟩) D.ls.length cl) (bv := .slice (some ⟨gb, 0, none⟩) Bs.length cB) (s' := .slice (some ⟨g7, 0, none⟩) (bj.st.length + 1) c7) (x := freshS D.ls.length) hcore hbj
  have ex : D.core.bs[j]? = some bj.core := by show (D.bs.map BlkD.core)[j]? = _; rw [← hcore, List.getElem?_map, hbj]; rfl
  have h8 : check.chkF (⟨D.p, D.u, .slice (some ⟨gl, 0, none⟩) D.ls.length cl, .slice (some ⟨gb, 0, none⟩) Bs.length cB, D.ls, Bs.set j { bj with s := .slice (some ⟨g7, 0, none⟩) (bj.st.length + 1) c7, st := bj.st ++ [freshS D.ls.length] }, ⟨nilV, []⟩⟩ : FnD) = 8 := by
    rw [← chk_core, ec]
    exact bad_fresh (by rw [many_core]; exact HM.out) ex (show bj.st.length ≤ 23 by omega)
  clear eH sH s6 at6 at6' hcu4 hfit4 hfit5
  rw [show w6.setCells gb (j * 14) (#[Value.slice (some ⟨g7, 0, none⟩) (bj.st.length + 1) c7]).toList = w6.setCells gb (j * 14) [.slice (some ⟨g7, 0, none⟩) (bj.st.length + 1) c7] from rfl]
  generalize w6.setCells gb (j * 14) [.slice (some ⟨g7, 0, none⟩) (bj.st.length + 1) c7] = W6 at *
  have HE8 := Lib.hid (chk_8 hO6 k6 h8)
  obtain ⟨e0, e1, e2, e3⟩ := T6.cells
  clear hO6 k6 h8
  go_wp2_with (first | (go_at_call 11; refine (HE8.out _ (Below.refl _ _)).mono ?_; rintro e w7 ⟨rfl, b7⟩) | (go_at_call 17; refine (alive_from (b06.trans (b7.mono b06.size))).mono ?_; rintro e w8 ⟨rfl, hbE⟩))
  go_ret
  exact ⟨rfl, hbE⟩
theorem walkK {w : World} {v v1 v2 v3 : Value} {D : FnD} (h : FnOk' w v D) (h1 : Kd.ok (.i .i64) v1) (h2 : Kd.ok (.i .i64) v2) (h3 : Kd.ok (.i .i64) v3) : Calls Try.prog 4 #[v, v1, v2, v3] w fun e w' => e = .returned (.bool true) ∧ Below w.heap.size w w' := by
  obtain ⟨i, rfl, i1, i2⟩ := h1
  obtain ⟨k, rfl, k1, k2⟩ := h2
  obtain ⟨c, rfl, _⟩ := h3
  by_cases hg : great.greatF D = true
  · exact not_great h i k c (.inl hg)
  have hg : great.greatF D = false := by simpa using hg
  by_cases hc : check.chkF D = 0
  · by_cases h0 : i < 0
    · exact not_index h i k c hg hc (.inl h0)
    by_cases h1 : k < 0
    · exact not_index h i k c hg hc (.inr ⟨h0, h1⟩)
    obtain ⟨a, rfl⟩ := Int.eq_ofNat_of_zero_le (by omega : 0 ≤ i)
    obtain ⟨b, rfl⟩ := Int.eq_ofNat_of_zero_le (by omega : 0 ≤ k)
    by_cases c0 : c = 0
    · subst c0; exact main_0 h a b i2 k2 hg hc
    by_cases c1 : c = 1
    · subst c1; exact main_1 h a b i2 k2 hg hc
    by_cases c2 : c = 2
    · subst c2; exact main_2 h a b i2 k2 hg hc
    by_cases c3 : c = 3
    · subst c3; exact main_3 h a b i2 k2 hg hc
    by_cases c4 : c = 4
    · subst c4; exact main_4 h a b i2 k2 hg hc
    by_cases c5 : c = 5
    · subst c5; exact main_5 h a b i2 k2 hg hc
    exact main_6 h a b c i2 k2 hg hc c0 c1 c2 c3 c4 c5
  · exact not_great h i k c (.inr ⟨hg, hc⟩)
end Go.Proofs.Ytbebbbclhgjcbaa.bad
