/- FnshapeMore: the law answers true for every function, index and number. -/
import Derived.Test.YtbebbbclhgjcbaaOwn
import Derived.Test.YtbebbbclhgjcbaaTwinA
import Derived.Test.YtbebbbclhgjcbaaListT
import Derived.Test.YtbebbbclhgjcbaaAlive07
import Derived.Deep.DeepCutAuto
namespace Go.Proofs.Ytbebbbclhgjcbaa.more
open Go.RowKit Go.Proofs.Ytbebbbclhgjcbaa Go.Proofs.Ytbebbbclhgjcbaa.Am Go.Proofs.Ytbebbbclhgjcbaa.twin Go.Proofs.Ytbebbbclhgjcbaa.own
set_option linter.unusedVariables false
set_option linter.unusedSectionVars false
/-- true, and nothing that was there has changed -/
def Yes (w : World) (e : Ending) (w' : World) : Prop := e = .returned (.bool true) ∧ Below w.heap.size w w'
theorem alive_from {w w1 : World} (hb : Below w.heap.size w w1) : Calls Try.prog 17 #[] w1 (Yes w) := (alive07 w1).mono fun e w' ⟨h1, h2⟩ => ⟨h1, hb.trans (h2.mono hb.size)⟩
/-- an answer; what was there when it was called has not changed -/
def Ans (w1 : World) (v : Value) (e : Ending) (w' : World) : Prop := e = .returned v ∧ Below w1.heap.size w1 w'
theorem great_c {w w1 : World} {v : Value} {D : FnD} (h : FnOk' w v D) (hb : Below w.heap.size w w1) : Calls Try.prog 18 #[v] w1 (Ans w1 (.bool (great.greatF D))) := great.great_ans (h.frz hb.block)
theorem check_c {w w1 : World} {v : Value} {D : FnD} (h : FnOk' w v D) (hb : Below w.heap.size w w1) : Calls Try.prog 19 #[v] w1 (Ans w1 (.int .i64 (check.chkF D))) := refC.check_same (h.frz hb.block)
abbrev tF : TypeId := 31
set_option maxRecDepth 100000 in
set_option maxHeartbeats 2000000 in
/-- what the law does not look at -/
theorem not_any {w : World} {v : Value} {D : FnD} (h : FnOk' w v D) (i n : Int) (hc : great.greatF D = true ∨ (great.greatF D = false ∧ (check.chkF D ≠ 0 ∨ (check.chkF D = 0 ∧ i < 0)))) : Calls Try.prog 5 #[v, .int .i64 i, .int .i64 n] w (Yes w) := by
  have hG := fun w1 (hb : Below w.heap.size w w1) => great_c h hb
  have hC := fun w1 (hb : Below w.heap.size w w1) => check_c h hb
  rw [h.eq] at hG hC ⊢
  clear h
  have B0 : Box (w.alloc (.cells #[.int .i64 D.p, .bool D.u, D.lv, D.bv] tF)) w.heap.size tF (.int .i64 D.p) (.bool D.u) D.lv D.bv := Box.mk rfl
  have b0 : Below w.heap.size w (w.alloc (.cells #[.int .i64 D.p, .bool D.u, D.lv, D.bv] tF)) := (Below.refl _ _).alloc (Nat.le_refl _) _
  rcases hc with hc | ⟨hc, hd | ⟨hd, hi⟩⟩
  · rw [hc] at hG
    have HG := Lib.hid hG
    clear hG hC
    go_enter Try.func5, Try.ntmps5
    go_wp2_with (first | (go_at_call 18; refine (HG.out _ b0).mono ?_; rintro e w1 ⟨rfl, b1⟩) | (go_at_call 17; refine (alive_from (b0.trans (b1.mono b0.size))).mono ?_; rintro e w2 ⟨rfl, hb2⟩))
    go_ret
    exact ⟨rfl, hb2⟩
  · rw [hc] at hG
    generalize check.chkF D = x at *
    have hd' : (x != 0) = true := by simpa using hd
    have HG := Lib.hid hG
    have HC := Lib.hid hC
    clear hG hC hc
    go_enter Try.func5, Try.ntmps5
    go_wp2_with (first | (go_at_call 18; refine (HG.out _ b0).mono ?_; rintro e w1 ⟨rfl, b1⟩; obtain ⟨y0, y1, y2, y3⟩ := (B0.below b1).cells) | (go_at_call 19; refine (HC.out _ (b0.trans (b1.mono b0.size))).mono ?_; rintro e w2 ⟨rfl, b2⟩) | (go_at_call 17; refine (alive_from ((b0.trans (b1.mono b0.size)).trans (b2.mono (b0.trans (b1.mono b0.size)).size))).mono ?_; rintro e w3 ⟨rfl, hb3⟩))
    go_ret
    exact ⟨rfl, hb3⟩
  · rw [hc] at hG
    rw [hd] at hC
    have HG := Lib.hid hG
    have HC := Lib.hid hC
    clear hG hC hc hd
    go_enter Try.func5, Try.ntmps5
    go_wp2_with (first | (go_at_call 18; refine (HG.out _ b0).mono ?_; rintro e w1 ⟨rfl, b1⟩; obtain ⟨y0, y1, y2, y3⟩ := (B0.below b1).cells) | (go_at_call 19; refine (HC.out _ (b0.trans (b1.mono b0.size))).mono ?_; rintro e w2 ⟨rfl, b2⟩) | (go_at_call 17; refine (alive_from ((b0.trans (b1.mono b0.size)).trans (b2.mono (b0.trans (b1.mono b0.size)).size))).mono ?_; rintro e w3 ⟨rfl, hb3⟩))
    go_ret
    exact ⟨rfl, hb3⟩
theorem one_of {k : Kd} {v : Value} (h : k.ok v) : v.oneCell' = true := by
  cases k with
  | i x => obtain ⟨n, rfl, _⟩ := h; rfl
  | b => obtain ⟨b, rfl⟩ := h; rfl
  | s => obtain ⟨s, rfl, _⟩ := h; rfl
theorem ones {ks : List Kd} {us : List Value} (h : All2 Kd.ok ks us) : ∀ u ∈ us, u.oneCell' = true := fun u hu => by
  obtain ⟨i, hi⟩ := List.getElem?_of_mem hu
  have hl := (List.getElem?_eq_some_iff.1 hi).1
  obtain ⟨k, hk⟩ : ∃ k, ks[i]? = some k := ⟨_, List.getElem?_eq_getElem (by have := h.len; omega)⟩
  obtain ⟨v', hv', ok⟩ := All2.nth h (n := i) (x := k) (by rw [nth_eq]; exact hk)
  rw [hi] at hv'
  cases hv'
  exact one_of ok
/-- the copy, as the law has it -/
def Copied (w : World) (D : FnD) (e : Ending) (w' : World) : Prop :=
  ∃ (gl cl gb cB : Nat) (Bs : List BlkD), e = .returned (.agg #[.int .i64 D.p, .bool D.u, .slice (some ⟨gl, 0, none⟩) D.ls.length cl, .slice (some ⟨gb, 0, none⟩) Bs.length cB]) ∧ OwnFn w.heap.size w' ⟨D.p, D.u, .slice (some ⟨gl, 0, none⟩) D.ls.length cl, .slice (some ⟨gb, 0, none⟩) Bs.length cB, D.ls, Bs, ⟨nilV, []⟩⟩ ∧ Bs.map BlkD.core = D.bs.map BlkD.core ∧ Below w.heap.size w w'
theorem twin_c {w w1 : World} {v : Value} {D : FnD} (h : FnOk' w v D) (hc : check.chkF D = 0) (hb : Below w.heap.size w w1) : Calls Try.prog 20 #[v] w1 (Copied w1 D) := by
  have h' := h.frz hb.block
  have hs := size.sm h hc
  obtain ⟨m1, m2, m3⟩ := check.small_of (size.of_chk hc).1
  have hpos : 0 < D.bs.length := by
    have := (size.of_chk hc).2.1
    unfold made.madeF at this
    simp only [Bool.and_eq_true, decide_eq_true_eq] at this
    exact this.2.1
  refine (twin.any h' (by omega) (by omega) (fun el he => ones (h'.lkd el he)) (fun b hb el he => ones (hb.skd el he)) (fun b hb el he => ones (hb.okd el he)) (fun b hb => by have := (hs.s b hb).1; omega) (fun b hb => by have := (hs.s b hb).2; omega)).mono ?_
  rintro e w' ⟨g, c, bv', Bs, he, hf, hb'⟩
  have hlen : Bs.length = D.bs.length := by simpa using congrArg List.length hf.core
  obtain ⟨gb, cap, hbv, _⟩ := hf.ob.form (by omega)
  subst hbv
  exact ⟨g, c, gb, cap, Bs, he, (of_fresh hf).1, hf.core, hb'⟩
/-- a list of numbers and no error -/
def AnsL (w1 : World) (l : List Int) (e : Ending) (w' : World) : Prop := ∃ s, e = .returned (.tuple #[s, .int .i64 0]) ∧ sameI.Ints w' s l ∧ Below w1.heap.size w1 w'
theorem size_c {w w1 : World} {v : Value} {D : FnD} (h : FnOk' w v D) (hc : check.chkF D = 0) (hb : Below w.heap.size w w1) : Calls Try.prog 10 #[v] w1 (Ans w1 (.tuple #[.int .i64 (size.sizeF D), .int .i64 0])) := size.size_ans (h.frz hb.block) hc
theorem calls_c {w w1 : World} {v : Value} {D : FnD} (h : FnOk' w v D) (hc : check.chkF D = 0) (hb : Below w.heap.size w w1) : Calls Try.prog 9 #[v] w1 (AnsL w1 (callsF.lits (callsF.vec D))) :=
  (callsF.calls_ans (h.frz hb.block) hc).mono fun e w' ⟨s, h1, h2, h3⟩ => ⟨s, h1, sameI.Ints.new h2, h3⟩
theorem twos_c {w w1 : World} {v : Value} {D : FnD} (h : FnOk' w v D) (hc : check.chkF D = 0) (hb : Below w.heap.size w w1) : Calls Try.prog 8 #[v] w1 (AnsL w1 (twosL.locs D)) :=
  (twosL.twos_list (h.frz hb.block) hc).mono fun e w' ⟨s, h1, h2, h3⟩ => ⟨s, h1, sameI.Ints.own h2, h3⟩
theorem size_lo {w : World} {v : Value} {D : FnD} (h : FnOk' w v D) (hc : check.chkF D = 0) : (D.bs.length : Int) ≤ size.sizeF D ∧ size.sizeF D ≤ 1000 := by
  have hs := size.sm h hc
  have := acc_le (fun b : BlkD => (b.st.length : Int)) 24 D.bs fun b hb => by
    have := (hs.s b hb).1
    omega
  have hb := hs.b
  unfold size.sizeF
  omega
theorem modify_set {α : Type} {f : α → α} {l : List α} {j : Nat} {x : α} (h : l[j]? = some x) : l.modify j f = l.set j (f x) := by
  obtain ⟨hl, rfl⟩ := List.getElem?_eq_some_iff.1 h
  apply List.ext_getElem?
  intro i
  rw [List.getElem?_modify, List.getElem?_set]
  by_cases hij : j = i
  · subst hij
    simp [hl]
  · simp [hij]
theorem locs_core {D D' : FnD} {j : Nat} {n : Int} (h : D'.core = D.core.setB j (BlkD.push (printS n))) : twosL.locs D' = twosL.locs D := by
  unfold twosL.locs twosL.bits
  rw [← ct_core D', h, print_ct, ct_core]
theorem print_kind (n : Int) (hn : Kd.ok (.i .i64) (.int .i64 n)) : All2 Kd.ok kS26 (printS n) := by
  have u : ∀ m : Int, 0 ≤ m → m ≤ 255 → Kd.ok (.i .u8) (.int .u8 m) := fun m h1 h2 => ⟨m, rfl, h1, h2⟩
  have z : Kd.ok (.i .i64) (.int .i64 0) := ⟨0, rfl, by decide, by decide⟩
  have b : Kd.ok .b (.bool false) := ⟨false, rfl⟩
  have u0 := u 0 (by decide) (by decide)
  exact ⟨u 2 (by decide) (by decide), z, b, u0, u0, u0, u0, u0, z, z, b, u0, u0, z, z, b, u0, z, b, u0, u 1 (by decide) (by decide), hn, z, b, u0, z, trivial⟩
/-- what the new function's core is -/
theorem core_push {D : FnD} {lv bv s' : Value} {Bs : List BlkD} {j : Nat} {bj : BlkD} {x : List Value} (hc : Bs.map BlkD.core = D.bs.map BlkD.core) (hj : Bs[j]? = some bj) :
    (⟨D.p, D.u, lv, bv, D.ls, Bs.set j { bj with s := s', st := bj.st ++ [x] }, ⟨nilV, []⟩⟩ : FnD).core = D.core.setB j (BlkD.push x) := by
  have e : (D.bs.map BlkD.core)[j]? = some bj.core := by rw [← hc, List.getElem?_map, hj]; rfl
  unfold FnD.core FnD.setB
  rw [modify_set e, List.map_set, hc]
  rfl
/-- a statement stands behind the others of a block -/
def Pushed (base : Nat) (w W4 : World) (T : Nat) (D D1 : FnD) (j : Nat) (bj : BlkD) (x : List Value) (wx : World) : Prop :=
  ∃ s' : Value, OwnFn base wx { D1 with bs := D1.bs.set j { bj with s := s', st := bj.st ++ [x] } } ∧ Box wx T tF (.int .i64 D1.p) (.bool D1.u) D1.lv D1.bv ∧ Box wx w.heap.size tF (.int .i64 D.p) (.bool D.u) D.lv D.bv ∧ Below w.heap.size w wx
set_option maxRecDepth 100000 in
set_option maxHeartbeats 8000000 in
theorem main_any {w : World} {v : Value} {D : FnD} (h : FnOk' w v D) (i : Nat) (n : Int) (hi : (i : Int) ≤ 9223372036854775807) (hn : Kd.ok (.i .i64) (.int .i64 n)) (hg : great.greatF D = false) (hc : check.chkF D = 0) : Calls Try.prog 5 #[v, .int .i64 i, .int .i64 n] w (Yes w) := by
  have hG := fun w1 (hb : Below w.heap.size w w1) => great_c h hb
  have hC := fun w1 (hb : Below w.heap.size w w1) => check_c h hb
  have hT := fun w1 (hb : Below w.heap.size w w1) => twin_c h hc hb
  rw [hg] at hG
  rw [hc] at hC
  have HK := Lib.hid (Kinds.of h)
  have HF := Lib.hid h
  rw [h.eq] at hG hC hT ⊢
  have h0 : ¬ ((i : Int) < 0) := by omega
  have B0 : Box (w.alloc (.cells #[.int .i64 D.p, .bool D.u, D.lv, D.bv] tF)) w.heap.size tF (.int .i64 D.p) (.bool D.u) D.lv D.bv := Box.mk rfl
  have b0 : Below w.heap.size w (w.alloc (.cells #[.int .i64 D.p, .bool D.u, D.lv, D.bv] tF)) := (Below.refl _ _).alloc (Nat.le_refl _) _
  have HG := Lib.hid hG
  have HC := Lib.hid hC
  have HT := Lib.hid hT
  have Hg := Lib.hid hg
  have Hc := Lib.hid hc
  clear hG hC hT hg hc h
  go_enter Try.func5, Try.ntmps5
  go_upto_region 4 with (first | (go_at_call 18; refine (HG.out _ b0).mono ?_; rintro e w1 ⟨rfl, b1⟩; have B1 := B0.below b1; have b01 := b0.trans (b1.mono b0.size); obtain ⟨y0, y1, y2, y3⟩ := B1.cells) | (go_at_call 19; refine (HC.out _ b01).mono ?_; rintro e w2 ⟨rfl, b2⟩; have B2 := B1.below b2; have b02 := b01.trans (b2.mono b01.size); obtain ⟨z0, z1, z2, z3⟩ := B2.cells) | (go_at_call 20; refine (HT.out _ b02).mono ?_; rintro e w3 ⟨gl, cl, gb, cB, Bs, rfl, hO, hcore, b3⟩; have B3 := B2.below b3; have b03 := b02.trans (b3.mono b02.size)))
  have hN : Bs.length = D.bs.length := by simpa using congrArg List.length hcore
  have B4 := B3.more (o := .cells #[.int .i64 D.p, .bool D.u, .slice (some ⟨gl, 0, none⟩) D.ls.length cl, .slice (some ⟨gb, 0, none⟩) Bs.length cB] tF)
  have T4 : Box (w3.alloc (.cells #[.int .i64 D.p, .bool D.u, .slice (some ⟨gl, 0, none⟩) D.ls.length cl, .slice (some ⟨gb, 0, none⟩) Bs.length cB] tF)) w3.heap.size tF _ _ _ _ := Box.mk rfl
  have b04 := b03.alloc b03.size (.cells #[.int .i64 D.p, .bool D.u, .slice (some ⟨gl, 0, none⟩) D.ls.length cl, .slice (some ⟨gb, 0, none⟩) Bs.length cB] tF)
  have hO4 := hO.below ((Below.refl _ _).alloc (Nat.le_refl _) (.cells #[.int .i64 D.p, .bool D.u, .slice (some ⟨gl, 0, none⟩) D.ls.length cl, .slice (some ⟨gb, 0, none⟩) Bs.length cB] tF))
  have hwT := b03.size
  have hw2 := B2.lt
  have hTO : ∀ k ∈ _, k < w3.heap.size := fun k hk => (hO.in_ hk).2
  generalize w3.alloc (.cells #[.int .i64 D.p, .bool D.u, .slice (some ⟨gl, 0, none⟩) D.ls.length cl, .slice (some ⟨gb, 0, none⟩) Bs.length cB] tF) = W4 at *
  generalize w3.heap.size = T at *
  have hpos : 0 < Bs.length := by
    have := (size.of_chk Hc.out).2.1
    unfold made.madeF at this
    simp only [Bool.and_eq_true, decide_eq_true_eq] at this
    omega
  have hposI : (0 : Int) < (Bs.length : Int) := by omega
  have HN := Lib.hid hN
  clear hN
  obtain ⟨t0, t1, t2, t3⟩ := T4.cells
  go_upto_region 5 with fail
  have hm : ((i : Int) % (Bs.length : Int)) = ((i % Bs.length : Nat) : Int) := by simp
  rw [hm]
  have hj : i % Bs.length < Bs.length := Nat.mod_lt _ hpos
  clear hm
  generalize i % Bs.length = j at *
  have hjI : (j : Int) < (Bs.length : Int) := by omega
  have k1 : Kinds (⟨D.p, D.u, .slice (some ⟨gl, 0, none⟩) D.ls.length cl, .slice (some ⟨gb, 0, none⟩) Bs.length cB, D.ls, Bs, ⟨nilV, []⟩⟩ : FnD) := HK.out.core (by unfold FnD.core; rw [hcore])
  obtain ⟨bj, hbj⟩ : ∃ bj, Bs[j]? = some bj := ⟨_, List.getElem?_eq_getElem hj⟩
  have hfn := hO4.ok k1
  obtain ⟨b', off', c', eqB, hcell⟩ := hfn.blocks.at_ j bj.cells (by rw [List.getElem?_map, hbj]; rfl)
  rw [List.length_map] at eqB
  cases eqB
  have cg : W4.cell? ⟨gb, j * 14, none⟩ = some bj.s := by have := hcell 0 bj.s rfl; simpa using this
  have hbs := (hfn.blk bj (List.mem_of_getElem? hbj)).sts
  obtain ⟨As, cs, es⟩ := hbs.sl
  have ES := Lib.hid es
  have hos := hO4.os bj (List.mem_of_getElem? hbj)
  have HC5 := Lib.hid hcell
  have HBS := Lib.hid hbs
  clear hcell hbs
  have hNm : Bs.length = D.bs.length := HN.out
  have hst24 : bj.st.length ≤ 24 := by
    have e := (size.of_chk Hc.out).1
    obtain ⟨_, _, h3⟩ := check.small_of e
    have hmem : bj.core ∈ D.bs.map BlkD.core := hcore ▸ List.mem_map.2 ⟨bj, List.mem_of_getElem? hbj, rfl⟩
    obtain ⟨b2, hb2, e2⟩ := List.mem_map.1 hmem
    have e3 : b2.st = bj.st := (congrArg BlkD.st e2 : b2.core.st = bj.core.st)
    rw [← e3]
    exact h3 b2 hb2
  clear hNm
  by_cases h23 : 23 < bj.st.length
  · have h23' : (23 : Int) < (bj.st.length : Int) := by omega
    rw [es] at cg
    clear es
    go_wp2_with (go_at_call 17; refine (alive_from b04).mono ?_; rintro e w6 ⟨rfl, hb6⟩)
    go_ret
    exact ⟨rfl, hb6⟩
  · have h23' : ¬ (23 : Int) < (bj.st.length : Int) := by omega
    have cg' := cg
    rw [es] at cg
    clear es
    go_upto_region 7 with fail
    go_cut [] from 49 to 64 (fun wx => Pushed w2.heap.size w W4 T D ⟨D.p, D.u, .slice (some ⟨gl, 0, none⟩) D.ls.length cl, .slice (some ⟨gb, 0, none⟩) Bs.length cB, D.ls, Bs, ⟨nilV, []⟩⟩ j bj (printS n) wx)
    case first =>
      refine region_held [T] (by kernel_rfl) ?_
      have hTs : some T ≠ bj.s.ownBlock := fun e => by
        have := hTO T (by simp only [List.mem_append, List.mem_flatMap]; exact .inr (.inr ⟨bj, List.mem_of_getElem? hbj, List.mem_append.2 (.inl (mem_blkOf.2 e.symm))⟩))
        omega
      have hw2le : w.heap.size ≤ w2.heap.size := by omega
      have hgb2 := hO4.in_ (k := gb) (by simp [blkOf, Value.ownBlock])
      have hTg : T ≠ gb := fun e => by have := hTO gb (by simp [blkOf, Value.ownBlock]); omega
      have hgT : ¬ gb = T := fun e => hTg e.symm
      have hBg : w.heap.size ≠ gb := by omega
      have hBs : some w.heap.size ≠ bj.s.ownBlock := fun e => by
        have := hO4.in_ (k := w.heap.size) (by simp only [List.mem_append, List.mem_flatMap]; exact .inr (.inr ⟨bj, List.mem_of_getElem? hbj, List.mem_append.2 (.inl (mem_blkOf.2 e.symm))⟩))
        omega
      have hgS : ∀ k, (Value.slice (some ⟨gb, 0, none⟩) Bs.length cB).ownBlock = some k → some k ≠ bj.s.ownBlock := fun k e e2 => by
        obtain rfl : gb = k := by simpa [Value.ownBlock] using e
        have nd := hO4.nd
        exact (List.nodup_append.1 (List.nodup_append.1 nd).2.1).2.2 gb (by simp [blkOf, Value.ownBlock]) gb (List.mem_flatMap.2 ⟨bj, List.mem_of_getElem? hbj, List.mem_append.2 (.inl (mem_blkOf.2 e2.symm))⟩) rfl
      have cg : W4.drew.cell? ⟨gb, j * 14, none⟩ = _ := cg
      have sz4 : w2.heap.size ≤ W4.drew.heap.size := by have := (hO4.in_ (k := gb) (by simp [blkOf, Value.ownBlock])); show w2.heap.size ≤ W4.heap.size; omega
      have t0 : W4.drew.cell? ⟨T, 0, none⟩ = _ := t0
      have t3 : W4.drew.cell? ⟨T, 3, none⟩ = _ := t3
      refine AnyH.take (i := 0) (v := ?_) (by kernel_rfl) rfl (by kernel_rfl) (by kernel_rfl) (fun _ _ _ _ _ h => h) (by rfl) (fun W hW => ?_) ?_
      rotate_left
      focus (have c0 := (hW.cell (by simp) t0); have c3 := (hW.cell (by simp) t3); go_simp; with_reducible rfl)
      simp only [Act.put, List.setIfInBounds_toArray, List.set_cons_zero, List.set_cons_succ]
      refine AnyH.take (i := 1) (v := ?_) (by kernel_rfl) rfl (by kernel_rfl) (by kernel_rfl) (fun _ _ _ _ _ h => h) (by rfl) (fun W hW => ?_) ?_
      rotate_left
      focus (have c0 := (hW.cell (by simp) t0); have c3 := (hW.cell (by simp) t3); go_simp; with_reducible rfl)
      simp only [Act.put, List.setIfInBounds_toArray, List.set_cons_zero, List.set_cons_succ]
      refine AnyH.take (i := 2) (v := ?_) (by kernel_rfl) rfl (by kernel_rfl) (by kernel_rfl) (fun _ _ _ _ _ h => h) (by rfl) (fun W hW => ?_) ?_
      rotate_left
      focus (have c0 := (hW.cell (by simp) t0); have c3 := (hW.cell (by simp) t3); go_simp; with_reducible rfl)
      simp only [Act.put, List.setIfInBounds_toArray, List.set_cons_zero, List.set_cons_succ]
      refine AnyH.take (i := 3) (v := ?_) (by kernel_rfl) rfl (by kernel_rfl) (by kernel_rfl) (fun _ _ _ _ _ h => h) (by rfl) (fun W hW => ?_) ?_
      rotate_left
      focus (have c0 := (hW.cell (by simp) t0); have c3 := (hW.cell (by simp) t3); go_simp; with_reducible rfl)
      simp only [Act.put, List.setIfInBounds_toArray, List.set_cons_zero, List.set_cons_succ]
      refine AnyH.take (i := 4) (v := ?_) (by kernel_rfl) rfl (by kernel_rfl) (by kernel_rfl) (fun _ _ _ _ _ h => h) (by rfl) (fun W hW => ?_) ?_
      rotate_left
      focus (have c0 := (hW.cell (by simp) t0); have c3 := (hW.cell (by simp) t3); go_simp; with_reducible rfl)
      simp only [Act.put, List.setIfInBounds_toArray, List.set_cons_zero, List.set_cons_succ]
      refine AnyH.take (i := 5) (v := ?_) (by kernel_rfl) rfl (by kernel_rfl) (by kernel_rfl) (fun _ _ _ _ _ h => h) (by rfl) (fun W hW => ?_) ?_
      rotate_left
      focus (have c0 := (hW.cell (by simp) t0); have c3 := (hW.cell (by simp) t3); go_simp; with_reducible rfl)
      simp only [Act.put, List.setIfInBounds_toArray, List.set_cons_zero, List.set_cons_succ]
      refine AnyH.take (i := 6) (v := ?_) (by kernel_rfl) rfl (by kernel_rfl) (by kernel_rfl) (fun _ _ _ _ _ h => h) (by rfl) (fun W hW => ?_) ?_
      rotate_left
      focus (have c0 := (hW.cell (by simp) t0); have c3 := (hW.cell (by simp) t3); go_simp; with_reducible rfl)
      simp only [Act.put, List.setIfInBounds_toArray, List.set_cons_zero, List.set_cons_succ]
      refine AnyH.take (i := 7) (v := ?_) (by kernel_rfl) rfl (by kernel_rfl) (by kernel_rfl) (fun _ _ _ _ _ h => h) (by rfl) (fun W hW => ?_) ?_
      rotate_left
      focus (have c0 := (hW.cell (by simp) t0); have c3 := (hW.cell (by simp) t3); go_simp; with_reducible rfl)
      simp only [Act.put, List.setIfInBounds_toArray, List.set_cons_zero, List.set_cons_succ]
      refine AnyH.take (i := 9) (v := ?_) (by kernel_rfl) rfl (by kernel_rfl) (by kernel_rfl) (fun _ _ _ _ _ h => h) (by rfl) (fun W hW => ?_) ?_
      rotate_left
      focus (have c0 := (hW.cell (by simp) t0); have c3 := (hW.cell (by simp) t3); go_simp; with_reducible rfl)
      simp only [Act.put, List.setIfInBounds_toArray, List.set_cons_zero, List.set_cons_succ]
      refine AnyH.take (i := 10) (v := ?_) (by kernel_rfl) rfl (by kernel_rfl) (by kernel_rfl) (fun _ _ _ _ _ h => h) (by rfl) (fun W hW => ?_) ?_
      rotate_left
      focus (have c0 := (hW.cell (by simp) t0); have c3 := (hW.cell (by simp) t3); go_simp; with_reducible rfl)
      simp only [Act.put, List.setIfInBounds_toArray, List.set_cons_zero, List.set_cons_succ]
      refine AnyH.take (i := 11) (v := ?_) (by kernel_rfl) rfl (by kernel_rfl) (by kernel_rfl) (fun _ _ _ _ _ h => h) (by rfl) (fun W hW => ?_) ?_
      rotate_left
      focus (have c0 := (hW.cell (by simp) t0); have c3 := (hW.cell (by simp) t3); go_simp; with_reducible rfl)
      simp only [Act.put, List.setIfInBounds_toArray, List.set_cons_zero, List.set_cons_succ]
      refine AnyH.all (rs := [8, 12]) (by kernel_rfl) rfl (fun i hi => ?_)
      simp only [List.mem_cons, List.not_mem_nil, or_false] at hi
      rcases hi with rfl | rfl
      · refine hVal (w' := W4.drew) (v := .slice As bj.st.length cs) (by rfl) (by rfl) (by go_simp) (Held.refl _ _) ?_
        simp only [Act.put, List.setIfInBounds_toArray, List.set_cons_zero, List.set_cons_succ]
        refine AnyH.all (rs := [12]) (by kernel_rfl) rfl (fun i hi => ?_)
        obtain rfl := List.mem_singleton.1 hi
        refine hNew (by rfl) (by rfl) (fun H => .slice (some ⟨H, 0, none⟩) 1 1) #[.int .u8 2, .int .i64 0, .bool false, .int .u8 0, .int .u8 0, .int .u8 0, .int .u8 0, .int .u8 0, .int .i64 0, .int .i64 0, .bool false, .int .u8 0, .int .u8 0, .int .i64 0, .int .i64 0, .bool false, .int .u8 0, .int .i64 0, .bool false, .int .u8 0, .int .u8 1, .int .i64 n, .int .i64 0, .bool false, .int .u8 0, .int .i64 0] tSt (by go_simp) fun H w5 eH hH kH bH sH => ?_
        simp only [Act.put, List.setIfInBounds_toArray, List.set_cons_zero, List.set_cons_succ]
        have ho5 := kH.owns hos.1 (fun _ _ => by simp)
        refine AnyH.all (rs := [13]) (by kernel_rfl) rfl (fun i hi => ?_)
        obtain rfl := List.mem_singleton.1 hi
        refine hApp (by rfl) (by rfl) _ _ w2.heap.size _ tSt zS 26 152 (by rfl) Try.underlying38 rowS (by rfl) (by omega) (by rfl) (show w5.ownsRow w2.heap.size tSt 26 (.slice As bj.st.length cs) bj.st.length bj.st.flatten from ES.out ▸ ho5) (by rfl) (ListAt.of_block hH (by rfl) ⟨Nat.le_refl _, by unfold maxLen; omega⟩) (by simp [Value.oneCell']) (by simp; omega) (by omega) (by omega) (.inr (by simp)) (fun k hk => by obtain rfl := List.mem_singleton.1 hk; exact ES.out ▸ hTs) fun g7 c7 w6 o6 k6 b6 s6 at6 lt6 => ?_
        simp only [Act.put, List.setIfInBounds_toArray, List.set_cons_zero, List.set_cons_succ]
        refine AnyH.take (i := 14) (v := ?_) (by kernel_rfl) rfl (by kernel_rfl) (by kernel_rfl) (fun _ _ _ _ _ h => h) (by rfl) (fun W hW => ?_) ?_
        rotate_left
        focus (go_simp; with_reducible rfl)
        simp only [Act.put, List.setIfInBounds_toArray, List.set_cons_zero, List.set_cons_succ]
        refine AnyH.take (i := 15) (v := ?_) (by kernel_rfl) rfl (by kernel_rfl) (by kernel_rfl) (fun _ _ _ _ _ h => h) (by rfl) (fun W hW => ?_) ?_
        rotate_left
        focus (go_simp; with_reducible rfl)
        simp only [Act.put, List.setIfInBounds_toArray, List.set_cons_zero, List.set_cons_succ]
        refine AnyH.all (rs := [16]) (by kernel_rfl) rfl (fun i hi => ?_)
        obtain rfl := List.mem_singleton.1 hi
        rw [← ES.out] at k6 at6
        have hK : Kept bj.s.ownBlock W4 w6 := Kept.trans kH k6
        have o6' : w6.ownsRow w2.heap.size tSt 26 (.slice (some ⟨g7, 0, none⟩) (bj.st.length + 1) c7) (bj.st.length + 1) (bj.st.flatten ++ printS n) := by simpa [printS, u8, i6, bo] using o6
        have at6' : bj.s.ownBlock = some g7 ∨ W4.heap.size ≤ g7 := at6.imp id fun (e : g7 = w5.heap.size) => by rw [e]; exact bH.size
        obtain ⟨cur, hcur, hfit'⟩ := owns_block (k6.owns (kH.owns hO4.ob (fun _ _ => by simp)) hgS)
        have hfit : Bs.length * 14 ≤ cur.size := hfit'
        clear hfit'
        obtain ⟨p1, p2, p3⟩ := OwnFn.push (x := printS n) (w := W4) hO4 k1 hbj rfl hK o6' at6'
        refine hStore (by rfl) (by rfl) _ _ _ (by rfl) gb (j * 14) (.slice (some ⟨g7, 0, none⟩) (bj.st.length + 1) c7) #[.slice (some ⟨g7, 0, none⟩) (bj.st.length + 1) c7] (by rfl) (by rfl) rfl hcur (by simp; have : (j + 1) * 14 ≤ Bs.length * 14 := Nat.mul_le_mul_right _ hj; omega) (by kernel_rfl) (by simp [Value.oneCell']) (by simp; exact hgT) ?_
        simp only [Act.put]
        have T7 := (p3 T hTg).trans ((T4.kept kH (by simp)).kept k6 hTs)
        have B7 := (p3 w.heap.size hBg).trans ((B4.kept kH (by simp)).kept k6 hBs)
        have b7 : Below w.heap.size w (w6.setCells gb (j * 14) [.slice (some ⟨g7, 0, none⟩) (bj.st.length + 1) c7]) := ((b04.drew.trans (bH.mono b04.size)).trans (b6.mono hw2le)).trans (p2.mono hw2le)
        have HP := Lib.hid p1
        clear eH sH s6 at6 at6' hcur hfit p1
        refine AnyH.done (by kernel_rfl) ?_
        go_wp2_with fail
        go_meet
        exact ⟨_, HP.out, T7, B7, b7⟩
      · refine hNew (by rfl) (by rfl) (fun H => .slice (some ⟨H, 0, none⟩) 1 1) #[.int .u8 2, .int .i64 0, .bool false, .int .u8 0, .int .u8 0, .int .u8 0, .int .u8 0, .int .u8 0, .int .i64 0, .int .i64 0, .bool false, .int .u8 0, .int .u8 0, .int .i64 0, .int .i64 0, .bool false, .int .u8 0, .int .i64 0, .bool false, .int .u8 0, .int .u8 1, .int .i64 n, .int .i64 0, .bool false, .int .u8 0, .int .i64 0] tSt (by go_simp) fun H w5 eH hH kH bH sH => ?_
        simp only [Act.put, List.setIfInBounds_toArray, List.set_cons_zero, List.set_cons_succ]
        have ho5 := kH.owns hos.1 (fun _ _ => by simp)
        have cg : w5.cell? ⟨gb, j * 14, none⟩ = some (.slice As bj.st.length cs) := kH.cell cg (by simp)
        refine AnyH.all (rs := [8]) (by kernel_rfl) rfl (fun i hi => ?_)
        obtain rfl := List.mem_singleton.1 hi
        refine hVal (w' := w5) (v := .slice As bj.st.length cs) (by rfl) (by rfl) (by go_simp) (Held.refl _ _) ?_
        simp only [Act.put, List.setIfInBounds_toArray, List.set_cons_zero, List.set_cons_succ]
        refine AnyH.all (rs := [13]) (by kernel_rfl) rfl (fun i hi => ?_)
        obtain rfl := List.mem_singleton.1 hi
        refine hApp (by rfl) (by rfl) _ _ w2.heap.size _ tSt zS 26 152 (by rfl) Try.underlying38 rowS (by rfl) (by omega) (by rfl) (show w5.ownsRow w2.heap.size tSt 26 (.slice As bj.st.length cs) bj.st.length bj.st.flatten from ES.out ▸ ho5) (by rfl) (ListAt.of_block hH (by rfl) ⟨Nat.le_refl _, by unfold maxLen; omega⟩) (by simp [Value.oneCell']) (by simp; omega) (by omega) (by omega) (.inr (by simp)) (fun k hk => by obtain rfl := List.mem_singleton.1 hk; exact ES.out ▸ hTs) fun g7 c7 w6 o6 k6 b6 s6 at6 lt6 => ?_
        simp only [Act.put, List.setIfInBounds_toArray, List.set_cons_zero, List.set_cons_succ]
        refine AnyH.take (i := 14) (v := ?_) (by kernel_rfl) rfl (by kernel_rfl) (by kernel_rfl) (fun _ _ _ _ _ h => h) (by rfl) (fun W hW => ?_) ?_
        rotate_left
        focus (go_simp; with_reducible rfl)
        simp only [Act.put, List.setIfInBounds_toArray, List.set_cons_zero, List.set_cons_succ]
        refine AnyH.take (i := 15) (v := ?_) (by kernel_rfl) rfl (by kernel_rfl) (by kernel_rfl) (fun _ _ _ _ _ h => h) (by rfl) (fun W hW => ?_) ?_
        rotate_left
        focus (go_simp; with_reducible rfl)
        simp only [Act.put, List.setIfInBounds_toArray, List.set_cons_zero, List.set_cons_succ]
        refine AnyH.all (rs := [16]) (by kernel_rfl) rfl (fun i hi => ?_)
        obtain rfl := List.mem_singleton.1 hi
        rw [← ES.out] at k6 at6
        have hK : Kept bj.s.ownBlock W4 w6 := Kept.trans kH k6
        have o6' : w6.ownsRow w2.heap.size tSt 26 (.slice (some ⟨g7, 0, none⟩) (bj.st.length + 1) c7) (bj.st.length + 1) (bj.st.flatten ++ printS n) := by simpa [printS, u8, i6, bo] using o6
        have at6' : bj.s.ownBlock = some g7 ∨ W4.heap.size ≤ g7 := at6.imp id fun (e : g7 = w5.heap.size) => by rw [e]; exact bH.size
        obtain ⟨cur, hcur, hfit'⟩ := owns_block (k6.owns (kH.owns hO4.ob (fun _ _ => by simp)) hgS)
        have hfit : Bs.length * 14 ≤ cur.size := hfit'
        clear hfit'
        obtain ⟨p1, p2, p3⟩ := OwnFn.push (x := printS n) (w := W4) hO4 k1 hbj rfl hK o6' at6'
        refine hStore (by rfl) (by rfl) _ _ _ (by rfl) gb (j * 14) (.slice (some ⟨g7, 0, none⟩) (bj.st.length + 1) c7) #[.slice (some ⟨g7, 0, none⟩) (bj.st.length + 1) c7] (by rfl) (by rfl) rfl hcur (by simp; have : (j + 1) * 14 ≤ Bs.length * 14 := Nat.mul_le_mul_right _ hj; omega) (by kernel_rfl) (by simp [Value.oneCell']) (by simp; exact hgT) ?_
        simp only [Act.put]
        have T7 := (p3 T hTg).trans ((T4.kept kH (by simp)).kept k6 hTs)
        have B7 := (p3 w.heap.size hBg).trans ((B4.kept kH (by simp)).kept k6 hBs)
        have b7 : Below w.heap.size w (w6.setCells gb (j * 14) [.slice (some ⟨g7, 0, none⟩) (bj.st.length + 1) c7]) := ((b04.drew.trans (bH.mono b04.size)).trans (b6.mono hw2le)).trans (p2.mono hw2le)
        have HP := Lib.hid p1
        clear eH sH s6 at6 at6' hcur hfit p1
        refine AnyH.done (by kernel_rfl) ?_
        go_wp2_with fail
        go_meet
        exact ⟨_, HP.out, T7, B7, b7⟩
    case rest =>
      obtain ⟨s', hO7, T7, B7, b7⟩ := hcut
      have hcore2 := core_push (D := D) (lv := .slice (some ⟨gl, 0, none⟩) D.ls.length cl) (bv := .slice (some ⟨gb, 0, none⟩) Bs.length cB) (s' := s') (x := printS n) hcore hbj
      have k2 : Kinds (⟨D.p, D.u, .slice (some ⟨gl, 0, none⟩) D.ls.length cl, .slice (some ⟨gb, 0, none⟩) Bs.length cB, D.ls, Bs.set j { bj with s := s', st := bj.st ++ [printS n] }, ⟨nilV, []⟩⟩ : FnD) := by
        refine ⟨k1.pk, k1.lk, fun b hb => ?_⟩
        rcases List.mem_or_eq_of_mem_set hb with hb | rfl
        · exact k1.bk b hb
        · obtain ⟨g1, g2, g3, g4⟩ := k1.bk bj (List.mem_of_getElem? hbj)
          refine ⟨g1, g2, fun st hst => ?_, g4⟩
          rcases List.mem_append.1 hst with hst | hst
          · exact g3 st hst
          · obtain rfl := List.mem_singleton.1 hst
            exact print_kind n hn
      have hc2 : check.chkF (⟨D.p, D.u, .slice (some ⟨gl, 0, none⟩) D.ls.length cl, .slice (some ⟨gb, 0, none⟩) Bs.length cB, D.ls, Bs.set j { bj with s := s', st := bj.st ++ [printS n] }, ⟨nilV, []⟩⟩ : FnD) = 0 := by
        rw [← chk_core, hcore2]
        refine print_chk n (by rw [chk_core]; exact Hc.out) fun y hy => ?_
        have hy' : (D.bs.map BlkD.core)[j]? = some y := hy
        rw [← hcore, List.getElem?_map, hbj] at hy'
        cases hy'
        show bj.st.length ≤ 23
        omega
      have hF2 := hO7.ok k2
      have hS2 := fun W hb => size_c hF2 hc2 (w1 := W) hb
      have hL2 := fun W hb => calls_c hF2 hc2 (w1 := W) hb
      have hM2 := fun W hb => twos_c hF2 hc2 (w1 := W) hb
      rw [← size_core, hcore2, print_size n (by show j < (D.bs.map BlkD.core).length; rw [← hcore]; simpa using hj), size_core] at hS2
      rw [← vec_core, hcore2, print_vec, vec_core] at hL2
      rw [locs_core hcore2] at hM2
      have hS1 := fun W hb => size_c HF.out Hc.out (w1 := W) hb
      have hL1 := fun W hb => calls_c HF.out Hc.out (w1 := W) hb
      have hM1 := fun W hb => twos_c HF.out Hc.out (w1 := W) hb
      rw [HF.out.eq] at hS1 hL1 hM1
      obtain ⟨z1, z2⟩ := size_lo HF.out Hc.out
      obtain ⟨Ab, cb, eb⟩ := HF.out.blocks.sl
      rw [List.length_map] at eb
      have EB := Lib.hid eb
      generalize size.sizeF D = z at *
      generalize callsF.lits (callsF.vec D) = lc at *
      generalize twosL.locs D = ll at *
      have HS1 := Lib.hid hS1
      have HS2 := Lib.hid hS2
      have HL1 := Lib.hid hL1
      have HL2 := Lib.hid hL2
      have HM1 := Lib.hid hM1
      have HM2 := Lib.hid hM2
      have D7 := Lib.hid hO7
      clear hS1 hS2 hL1 hL2 hM1 hM2 eb hF2 hc2 k2 hcore2 hO7 hcore T4 B4 hTO hO4 hfn hos hbj cg cg' t0 t1 t2 t3
      have d7 : Below wc.heap.size wc wc := Below.refl _ _
      obtain ⟨p7, q7, r7, s7⟩ := B7.cells
      obtain ⟨t7, u7, v7, x7⟩ := T7.cells
      go_upto_region 9 with (go_at_call 10; refine (HS1.out _ b7).mono ?_; rintro e w8 ⟨rfl, c8⟩)
      have B8 := B7.below c8
      have T8 := T7.below c8
      have d8 := d7.trans (c8.mono d7.size)
      obtain ⟨p8, q8, r8, s8⟩ := B8.cells
      obtain ⟨t8, u8, v8, x8⟩ := T8.cells
      go_upto_region 10 with (go_at_call 10; refine (HS2.out _ d8).mono ?_; rintro e w9 ⟨rfl, c9⟩)
      have B9 := B8.below c9
      have T9 := T8.below c9
      have d9 := d8.trans (c9.mono d8.size)
      obtain ⟨p9, q9, r9, s9⟩ := B9.cells
      obtain ⟨t9, u9, v9, x9⟩ := T9.cells
      go_upto_region 11 with (go_at_call 9; refine (HL1.out _ (b7.trans (d9.mono b7.size))).mono ?_; rintro e w10 ⟨sa, rfl, ia, c10⟩)
      have B10 := B9.below c10
      have T10 := T9.below c10
      have d10 := d9.trans (c10.mono d9.size)
      obtain ⟨p10, q10, r10, s10⟩ := B10.cells
      obtain ⟨t10, u10, v10, x10⟩ := T10.cells
      go_upto_region 12 with (go_at_call 9; refine (HL2.out _ d10).mono ?_; rintro e w11 ⟨sb, rfl, ib, c11⟩)
      have B11 := B10.below c11
      have T11 := T10.below c11
      have d11 := d10.trans (c11.mono d10.size)
      obtain ⟨p11, q11, r11, s11⟩ := B11.cells
      obtain ⟨t11, u11, v11, x11⟩ := T11.cells
      go_upto_region 13 with (go_at_call 8; refine (HM1.out _ (b7.trans (d11.mono b7.size))).mono ?_; rintro e w12 ⟨sc, rfl, ic, c12⟩)
      have B12 := B11.below c12
      have T12 := T11.below c12
      have d12 := d11.trans (c12.mono d11.size)
      obtain ⟨p12, q12, r12, s12⟩ := B12.cells
      obtain ⟨t12, u12, v12, x12⟩ := T12.cells
      go_upto_region 14 with (go_at_call 8; refine (HM2.out _ d12).mono ?_; rintro e w13 ⟨sd, rfl, id', c13⟩)
      have B13 := B12.below c13
      have T13 := T12.below c13
      have d13 := d12.trans (c13.mono d12.size)
      obtain ⟨p13, q13, r13, s13⟩ := B13.cells
      obtain ⟨t13, u13, v13, x13⟩ := T13.cells
      have i1 := ((ia.below c11).below c12).below c13
      have i2 := (ib.below c12).below c13
      have i3 := ic.below c13
      have z0 : 0 ≤ z := by omega
      have d13 := d12.trans (c13.mono d12.size)
      have b13 := b7.trans (d13.mono b7.size)
      have eb := EB.out
      clear HS1 HS2 HL1 HL2 HM1 HM2 D7
      go_wp2_with (first | (go_at_call 21; ((with_reducible refine (sameI.same_ints i1 i2).mono ?_); rintro e w14 ⟨rfl, c14⟩)) | (go_at_call 21; ((with_reducible refine (sameI.same_ints (i3.below c14) (id'.below c14)).mono ?_); rintro e w15 ⟨rfl, c15⟩)) | (go_at_call 17; refine (alive_from ((b13.trans (c14.mono b13.size)).trans (c15.mono (b13.trans (c14.mono b13.size)).size))).mono ?_; rintro e w16 ⟨rfl, hb16⟩))
      go_ret
      exact ⟨rfl, hb16⟩
theorem walk {w : World} {v : Value} {D : FnD} (h : FnOk' w v D) (i n : Int) (hi : Kd.ok (.i .i64) (.int .i64 i)) (hn : Kd.ok (.i .i64) (.int .i64 n)) : Calls Try.prog 5 #[v, .int .i64 i, .int .i64 n] w (Yes w) := by
  by_cases hg : great.greatF D = true
  · exact not_any h i n (.inl hg)
  have hg : great.greatF D = false := by simpa using hg
  by_cases hc : check.chkF D = 0
  · by_cases h0 : i < 0
    · exact not_any h i n (.inr ⟨hg, .inr ⟨hc, h0⟩⟩)
    · obtain ⟨k, rfl⟩ := Int.eq_ofNat_of_zero_le (by omega : 0 ≤ i)
      obtain ⟨m, e, h1, h2⟩ := hi
      cases e
      exact main_any h k n h2 hn hg hc
  · exact not_any h i n (.inr ⟨hg, .inl hc⟩)
end Go.Proofs.Ytbebbbclhgjcbaa.more
namespace Go.Proofs.Ytbebbbclhgjcbaa.more
open Go.RowKit Go.Proofs.Ytbebbbclhgjcbaa Go.Proofs.Ytbebbbclhgjcbaa.Am
theorem walkK {w : World} {v v1 v2 : Value} {D : FnD} (h : FnOk' w v D) (h1 : Kd.ok (.i .i64) v1) (h2 : Kd.ok (.i .i64) v2) : Calls Try.prog 5 #[v, v1, v2] w fun e w' => e = .returned (.bool true) ∧ Below w.heap.size w w' := by
  have k1 := h1
  have k2 := h2
  obtain ⟨i, rfl, _⟩ := h1
  obtain ⟨n, rfl, _⟩ := h2
  exact walk h i n k1 k2
end Go.Proofs.Ytbebbbclhgjcbaa.more
