/- FnshapeTwos: what it calls. -/
import Derived.Test.YtbebbbclhgjcbaaTwosS
namespace Go.Proofs.Ytbebbbclhgjcbaa.two
open Go.RowKit Go.Proofs.Ytbebbbclhgjcbaa Go.Proofs.Ytbebbbclhgjcbaa.Am Go.Proofs.Ytbebbbclhgjcbaa.twin Go.Proofs.Ytbebbbclhgjcbaa.own Go.Proofs.Ytbebbbclhgjcbaa.more
set_option linter.unusedVariables false
set_option linter.unusedSectionVars false
set_option maxRecDepth 100000 in
set_option maxHeartbeats 4000000 in
/-- what the law does not look at -/
theorem not_any {w : World} {v : Value} {D : FnD} (h : FnOk' w v D) (hc : great.greatF D = true ∨ (great.greatF D = false ∧ check.chkF D ≠ 0)) : Calls Try.prog 6 #[v] w (Yes w) := by
  have hG := fun w1 (hb : Below w.heap.size w w1) => great_c h hb
  have hC := fun w1 (hb : Below w.heap.size w w1) => check_c h hb
  rw [h.eq] at hG hC ⊢
  clear h
  have B0 : Box (w.alloc (.cells #[.int .i64 D.p, .bool D.u, D.lv, D.bv] more.tF)) w.heap.size more.tF (.int .i64 D.p) (.bool D.u) D.lv D.bv := Box.mk rfl
  have b0 : Below w.heap.size w (w.alloc (.cells #[.int .i64 D.p, .bool D.u, D.lv, D.bv] more.tF)) := (Below.refl _ _).alloc (Nat.le_refl _) _
  rcases hc with hc | ⟨hc, hd⟩
  · rw [hc] at hG
    have HG := Lib.hid hG
    clear hG hC
    go_enter Try.func6, Try.ntmps6
    go_wp2_with (first | (go_at_call 18; refine (HG.out _ b0).mono ?_; rintro e w1 ⟨rfl, b1⟩) | (go_at_call 17; refine (alive_from (b0.trans (b1.mono b0.size))).mono ?_; rintro e w2 ⟨rfl, hb2⟩))
    go_ret
    exact ⟨rfl, hb2⟩
  · rw [hc] at hG
    generalize check.chkF D = x at *
    have hd' : (x != 0) = true := by simpa using hd
    have HG := Lib.hid hG
    have HC := Lib.hid hC
    clear hG hC hc
    go_enter Try.func6, Try.ntmps6
    go_wp2_with (first | (go_at_call 18; refine (HG.out _ b0).mono ?_; rintro e w1 ⟨rfl, b1⟩; obtain ⟨y0, y1, y2, y3⟩ := (B0.below b1).cells) | (go_at_call 19; refine (HC.out _ (b0.trans (b1.mono b0.size))).mono ?_; rintro e w2 ⟨rfl, b2⟩) | (go_at_call 17; refine (alive_from ((b0.trans (b1.mono b0.size)).trans (b2.mono (b0.trans (b1.mono b0.size)).size))).mono ?_; rintro e w3 ⟨rfl, hb3⟩))
    go_ret
    exact ⟨rfl, hb3⟩
theorem and15 {y : Nat} (hy : y < 16) : Go.bits .and .i64 (y : Int) 15 = (y : Int) := (by decide : ∀ z : Fin 16, Go.bits .and .i64 ((z.val : Nat) : Int) 15 = ((z.val : Nat) : Int)) ⟨y, hy⟩
/-- a new slice of these numbers -/
def NewI (W W' : World) (s : Value) (l : List Int) : Prop := ∃ A c, s = .slice A l.length c ∧ (l.length : Int) ≤ 9223372036854775807 ∧ ∀ n x, l[n]? = some x → ∃ g, A = some ⟨g, 0, none⟩ ∧ W.heap.size ≤ g ∧ g < W'.heap.size ∧ W'.cell? ⟨g, n, none⟩ = some (.int .i64 x)
theorem new_i {W W' : World} {s : Value} {l : List Int} (h : NewRow W W' s (l.map (Value.int .i64))) : NewI W W' s l := by
  generalize hl : l.map (Value.int .i64) = us at h
  cases h with
  | none =>
    have : l = [] := by simpa using hl
    subst this
    exact ⟨none, 0, rfl, by simp, fun n x h => by simp at h⟩
  | @row g cap C T fz _ hp hg hnew hfz hn hmx hcap hus =>
    have hlen : us.length = l.length := by rw [← hl]; simp
    refine ⟨some ⟨g, 0, none⟩, cap, by rw [hlen], by unfold maxLen at hmx; omega, fun n x hx => ⟨g, rfl, hg, (Array.getElem?_eq_some_iff.1 hnew).1, ?_⟩⟩
    rw [cell_of_row W' g n C T fz hnew]
    have hj' : us[n]? = some (.int .i64 x) := by rw [← hl, List.getElem?_map, hx]; rfl
    rw [← hus, List.getElem?_take] at hj'
    split at hj'
    · simpa using hj'
    · cases hj'
def AnsN (W : World) (l : List Int) (e : Ending) (w' : World) : Prop := ∃ s, e = .returned (.tuple #[s, .int .i64 0]) ∧ NewI W w' s l ∧ Below W.heap.size W w'
theorem smv_c {W : World} {el : List Value} (h : All2 Kd.ok kS26 el) (hv : okStE.val el = true) : Calls Try.prog 22 #[.agg el.toArray] W (AnsN W (mvS el)) :=
  (tmvA_lists el h hv W ⟨Nat.le_refl _⟩).mono fun e w' ⟨s, h1, h2, h3⟩ => ⟨s, h1, new_i h2, h3⟩
theorem jmv_c {W : World} {b : BlkD} (h : JumpIs W (.agg (b.pre ++ b.a :: b.post).toArray) b.pre b.a b.post b.ops) (hok : okJF b = true) : Calls Try.prog 24 #[.agg (b.pre ++ b.a :: b.post).toArray] W (AnsN W (mvJ b)) :=
  (jMovesA W _ b.pre b.a b.post b.ops h hok).mono fun e w' ⟨s, h1, h2, h3⟩ => ⟨s, h1, new_i h2, h3⟩
set_option maxRecDepth 100000 in
theorem bor_c {W : World} {el : List Value} (h : All2 Kd.ok kS26 el) : Calls Try.prog 23 #[.agg el.toArray] W (Ans W (.bool (twos.twoB el))) := by
  obtain ⟨v0, l0, rfl, ⟨x0, rfl, _⟩, k0⟩ := all2_cons' h
  obtain ⟨v1, l1, rfl, q1, k1⟩ := all2_cons' k0
  obtain ⟨v2, l2, rfl, q2, k2⟩ := all2_cons' k1
  obtain ⟨v3, l3, rfl, q3, k3⟩ := all2_cons' k2
  obtain ⟨v4, l4, rfl, ⟨x4, rfl, _⟩, k4⟩ := all2_cons' k3
  obtain ⟨v5, l5, rfl, q5, k5⟩ := all2_cons' k4
  obtain ⟨v6, l6, rfl, ⟨x6, rfl, _⟩, k6⟩ := all2_cons' k5
  obtain ⟨v7, l7, rfl, q7, k7⟩ := all2_cons' k6
  obtain ⟨v8, l8, rfl, q8, k8⟩ := all2_cons' k7
  obtain ⟨v9, l9, rfl, q9, k9⟩ := all2_cons' k8
  obtain ⟨v10, l10, rfl, q10, k10⟩ := all2_cons' k9
  obtain ⟨v11, l11, rfl, q11, k11⟩ := all2_cons' k10
  obtain ⟨v12, l12, rfl, q12, k12⟩ := all2_cons' k11
  obtain ⟨v13, l13, rfl, q13, k13⟩ := all2_cons' k12
  obtain ⟨v14, l14, rfl, q14, k14⟩ := all2_cons' k13
  obtain ⟨v15, l15, rfl, q15, k15⟩ := all2_cons' k14
  obtain ⟨v16, l16, rfl, q16, k16⟩ := all2_cons' k15
  obtain ⟨v17, l17, rfl, q17, k17⟩ := all2_cons' k16
  obtain ⟨v18, l18, rfl, q18, k18⟩ := all2_cons' k17
  obtain ⟨v19, l19, rfl, q19, k19⟩ := all2_cons' k18
  obtain ⟨v20, l20, rfl, q20, k20⟩ := all2_cons' k19
  obtain ⟨v21, l21, rfl, q21, k21⟩ := all2_cons' k20
  obtain ⟨v22, l22, rfl, q22, k22⟩ := all2_cons' k21
  obtain ⟨v23, l23, rfl, q23, k23⟩ := all2_cons' k22
  obtain ⟨v24, l24, rfl, q24, k24⟩ := all2_cons' k23
  obtain ⟨v25, l25, rfl, q25, k25⟩ := all2_cons' k24
  cases l25 with
  | cons _ _ => cases k25
  | nil =>
  clear h k0 k1 k2 k3 k4 k5 k6 k7 k8 k9 k10 k11 k12 k13 k14 k15 k16 k17 k18 k19 k20 k21 k22 k23 k24 k25
  rw [two_is]
  show Calls _ _ _ _ (Ans W (.bool (decide (x0 = 1) && (decide (x4 = 4) && decide (x6 = 3)))))
  by_cases h0 : x0 = 1
  · by_cases h4 : x4 = 4
    · by_cases h6 : x6 = 3
      · subst h0 h4 h6
        go_enter Try.func23, Try.ntmps23
        go_wp2
        go_ret
        exact ⟨rfl, (Below.refl _ _).alloc (Nat.le_refl _) _⟩
      · have e6 : (x6 == 3) = false := by simpa using h6
        have d6 : decide (x6 = 3) = false := by simpa using h6
        subst h0 h4
        rw [d6]
        go_enter Try.func23, Try.ntmps23
        go_wp2
        go_ret
        exact ⟨rfl, (Below.refl _ _).alloc (Nat.le_refl _) _⟩
    · have e4 : (x4 == 4) = false := by simpa using h4
      have d4 : decide (x4 = 4) = false := by simpa using h4
      subst h0
      rw [d4]
      go_enter Try.func23, Try.ntmps23
      go_wp2
      go_ret
      exact ⟨rfl, (Below.refl _ _).alloc (Nat.le_refl _) _⟩
  · have e0 : (x0 == 1) = false := by simpa using h0
    have d0 : decide (x0 = 1) = false := by simpa using h0
    rw [d0]
    go_enter Try.func23, Try.ntmps23
    go_wp2
    go_ret
    exact ⟨rfl, (Below.refl _ _).alloc (Nat.le_refl _) _⟩
/-- memory at the head of the outer loop -/
theorem stt_start {w w5 : World} {D Dg : FnD} {B H : Nat} (hO : OwnFn B w5 Dg) (bH : Box w5 H more.tF (.int .i64 D.p) (.bool D.u) D.lv D.bv) (bel : Below w.heap.size w w5) (hB : H < B) (hw : w.heap.size ≤ B) (hs : B ≤ w5.heap.size) :
    Ap w B H w5.heap.size (w5.heap.size + 1) (w5.heap.size + 1 + 1) Dg ∧ Stt w B H w5.heap.size (w5.heap.size + 1) (w5.heap.size + 1 + 1) D Dg 0 0 (fun j => borAt Dg.bs 0 0 j) (fun j => movAt Dg.bs 0 0 j) (((w5.alloc (.cells #[.int .i64 Dg.p, .bool Dg.u, Dg.lv, Dg.bv] more.tF)).alloc (.cells (cntV fun _ => 0) tA)).alloc (.cells (cntV fun _ => 0) tA)) := by
  refine ⟨⟨hw, hB, hs, fun q hq => (hO.in_ hq).2, by omega, by omega⟩, ?_⟩
  have n1 : (w5.alloc (.cells #[.int .i64 Dg.p, .bool Dg.u, Dg.lv, Dg.bv] more.tF)).heap.size = w5.heap.size + 1 := by simp
  have n2 : ((w5.alloc (.cells #[.int .i64 Dg.p, .bool Dg.u, Dg.lv, Dg.bv] more.tF)).alloc (.cells (cntV fun _ => 0) tA)).heap.size = w5.heap.size + 1 + 1 := by simp
  have b1 : Below w5.heap.size w5 (((w5.alloc (.cells #[.int .i64 Dg.p, .bool Dg.u, Dg.lv, Dg.bv] more.tF)).alloc (.cells (cntV fun _ => 0) tA)).alloc (.cells (cntV fun _ => 0) tA)) := (((Below.refl _ _).alloc (Nat.le_refl _) _).alloc (by simp) _).alloc (by simp; omega) _
  have e0 : atBs Dg.bs 0 0 = Dg.bs := atBs_0 _
  exact ⟨by rw [e0]; exact hO.below b1, bH.below b1, (Box.mk rfl).more.more, at_more (at_alloc n1), at_alloc n2, bel.trans (b1.mono bel.size)⟩
section
variable {w W : World} {B H T gB gM : Nat} {D Dg : FnD} {i k : Nat} {G F : Nat → Int} {b : BlkD}
theorem blk_in (hb : Dg.bs[i]? = some b) : (atBs Dg.bs i k)[i]? = some (mutK k b) := by
  rw [atBs_at, hb]
  show some (atF i k i b) = _
  unfold atF
  rw [if_neg (by omega), if_pos rfl]
theorem Stt.cell (h : Stt w B H T gB gM D Dg i k G F W) (kd : Kinds Dg) (hb : Dg.bs[i]? = some b) {gb c : Nat} (hv : Dg.bv = .slice (some ⟨gb, 0, none⟩) Dg.bs.length c) {f : Nat} {u : Value} (hf : b.cells[f]? = some u) : W.cell? ⟨gb, i * 14 + f, none⟩ = some u := by
  have hfn := h.own.ok (kinds_at kd i k)
  obtain ⟨b', off', c', e, hcell⟩ := hfn.blocks.at_ i (mutK k b).cells (by rw [List.getElem?_map]; show (atBs Dg.bs i k)[i]?.map _ = _; rw [blk_in hb]; rfl)
  have e : Dg.bv = .slice (some ⟨b', off', none⟩) ((atBs Dg.bs i k).map BlkD.cells).length c' := e
  rw [hv, List.length_map, atBs_len] at e
  cases e
  have := hcell f u hf
  simpa using this
theorem Stt.blk (h : Stt w B H T gB gM D Dg i k G F W) (kd : Kinds Dg) (hb : Dg.bs[i]? = some b) : BlkOk W (mutK k b) := (h.own.ok (kinds_at kd i k)).blk (mutK k b) (List.mem_of_getElem? (blk_in hb))
theorem mutK_n (hk : k ≤ b.st.length) : (mutK k b).st.length = b.st.length := by
  show ((b.st.take k).map mutS ++ b.st.drop k).length = _
  simp
  omega
theorem Stt.stm (h : Stt w B H T gB gM D Dg i k G F W) (kd : Kinds Dg) (hb : Dg.bs[i]? = some b) {el : List Value} (hm : b.st[k]? = some el) {gs c n : Nat} (hs : b.s = .slice (some ⟨gs, 0, none⟩) n c) : W.rangeAt gs (k * 26) el := by
  obtain ⟨b2, o2, c2, e2, h2⟩ := (h.blk kd hb).sts.at_ k el (mutK_succ hm).2
  have e2 : b.s = .slice (some ⟨b2, o2, none⟩) (mutK k b).st.length c2 := e2
  rw [hs] at e2
  cases e2
  intro j v hj
  have := h2 j v hj
  simpa using this
theorem Stt.jmp (h : Stt w B H T gB gM D Dg i k G F W) (kd : Kinds Dg) (hb : Dg.bs[i]? = some b) : JumpIs W (.agg (b.pre ++ b.a :: b.post).toArray) b.pre b.a b.post b.ops := by
  have hk := h.blk kd hb
  exact ⟨rfl, hk.prek, hk.postk, ⟨hk.opl.sl, hk.opl.most, hk.opl.at_, fun i el he => hk.okd el (List.mem_of_getElem? he), hk.opl.cap⟩⟩
theorem Stt.jrange (h : Stt w B H T gB gM D Dg i k G F W) (kd : Kinds Dg) (hb : Dg.bs[i]? = some b) {gb c : Nat} (hv : Dg.bv = .slice (some ⟨gb, 0, none⟩) Dg.bs.length c) : W.rangeAt gb (i * 14 + 1) (b.pre ++ b.a :: b.post) := fun j v hj => by
  rw [show i * 14 + 1 + j = i * 14 + (j + 1) by omega]
  exact h.cell kd hb hv (f := j + 1) hj
theorem Stt.form (h : Stt w B H T gB gM D Dg i k G F W) (kd : Kinds Dg) (hb : Dg.bs[i]? = some b) (hk : k < b.st.length) : ∃ gs c, b.s = .slice (some ⟨gs, 0, none⟩) b.st.length c := by
  have hl := mutK_n (b := b) (k := k) (by omega)
  obtain ⟨gs, c, e, _⟩ := (h.own.os (mutK k b) (List.mem_of_getElem? (blk_in hb))).1.form (by omega)
  exact ⟨gs, c, by rw [hl] at e; exact e⟩
theorem Stt.sl (h : Stt w B H T gB gM D Dg i 0 G F W) (kd : Kinds Dg) (hb : Dg.bs[i]? = some b) : ∃ A c, b.s = .slice A b.st.length c := (h.blk kd hb).sts.sl
end
theorem el_cells {el : List Value} (h : All2 Kd.ok kS26 el) (hv : okStE.val el = true) : ∃ (y : Nat) (u : Value), y < 16 ∧ el[1]? = some (.int .i64 y) ∧ cellI el 1 = y ∧ el[6]? = some u := by
  have r := st_range h hv (c := 1) (by simp)
  obtain ⟨v0, l0, rfl, q0, k0⟩ := all2_cons' h
  obtain ⟨v1, l1, rfl, ⟨x1, rfl, _⟩, k1⟩ := all2_cons' k0
  obtain ⟨v2, l2, rfl, q2, k2⟩ := all2_cons' k1
  obtain ⟨v3, l3, rfl, q3, k3⟩ := all2_cons' k2
  obtain ⟨v4, l4, rfl, q4, k4⟩ := all2_cons' k3
  obtain ⟨v5, l5, rfl, q5, k5⟩ := all2_cons' k4
  obtain ⟨v6, l6, rfl, q6, k6⟩ := all2_cons' k5
  have e : cellI (v0 :: .int .i64 x1 :: v2 :: v3 :: v4 :: v5 :: v6 :: l6) 1 = x1 := rfl
  rw [e] at r
  refine ⟨x1.toNat, v6, by omega, ?_, by rw [e]; omega, rfl⟩
  show some (Value.int .i64 x1) = _
  rw [show ((x1.toNat : Nat) : Int) = x1 by omega]
theorem Stt.frozen {w W : World} {B H T gB gM : Nat} {D Dg : FnD} {i k : Nat} {G F : Nat → Int} {b : BlkD} (h : Stt w B H T gB gM D Dg i k G F W) (hb : Dg.bs[i]? = some b) {gs c : Nat} (hk : k < b.st.length) (hs : b.s = .slice (some ⟨gs, 0, none⟩) b.st.length c) (o : Nat) : W.frozen? ⟨gs, o, none⟩ = false := by
  have ho := (h.own.os (mutK k b) (List.mem_of_getElem? (blk_in hb))).1
  have hl := mutK_n (b := b) (k := k) (by omega)
  rw [hl] at ho
  have ho : W.ownsRow B tSt 26 b.s b.st.length (mutK k b).st.flatten := ho
  rw [hs] at ho
  obtain ⟨cur, hcu, _⟩ := owns_block ho
  exact frozen_none hcu o
/-- the copy, as the walk needs it -/
structure Copy (D Dg : FnD) (gb cB : Nat) : Prop where
  kd : Kinds Dg
  chk : check.chkF Dg = 0
  core : Dg.core = D.core
  bv : Dg.bv = .slice (some ⟨gb, 0, none⟩) Dg.bs.length cB
  p : Dg.p = D.p
theorem copy_is {w : World} {v : Value} {D : FnD} (hk : Kinds D) (hc : check.chkF D = 0) {gl cl gb cB : Nat} {Bs : List BlkD} (hcore : Bs.map BlkD.core = D.bs.map BlkD.core) :
    Copy D ⟨D.p, D.u, .slice (some ⟨gl, 0, none⟩) D.ls.length cl, .slice (some ⟨gb, 0, none⟩) Bs.length cB, D.ls, Bs, ⟨nilV, []⟩⟩ gb cB := by
  have e : (⟨D.p, D.u, .slice (some ⟨gl, 0, none⟩) D.ls.length cl, .slice (some ⟨gb, 0, none⟩) Bs.length cB, D.ls, Bs, ⟨nilV, []⟩⟩ : FnD).core = D.core := by unfold FnD.core; rw [hcore]
  exact ⟨hk.core e, by rw [← chk_core, e, chk_core]; exact hc, e, rfl, rfl⟩
theorem final_law {W : World} {v : Value} {D Dg : FnD} {gb cB : Nat} (hf : FnOk' W v Dg) (hp : Copy D Dg gb cB) {t : Nat} (ht : t < 16) :
    ∃ b, (twosL.bits D)[t]? = some b ∧ (b = true → borAt Dg.bs Dg.bs.length 0 t = 1 ∧ movAt Dg.bs Dg.bs.length 0 t = 1 ∧ D.p < t) ∧ (b = false → borAt Dg.bs Dg.bs.length 0 t = 0) := by
  obtain ⟨h1, h2⟩ := law_two hf hp.chk ht
  have e : (twos.Ct.fn D).i t = (twos.Ct.fn Dg).i t := by rw [← ct_core D, ← hp.core, ct_core]
  refine ⟨(twos.Ct.fn D).i t, ?_, ?_, ?_⟩
  · unfold twosL.bits
    rw [List.getElem?_map, List.getElem?_range ht]
    rfl
  · rw [e, (at_end Dg.bs t).1, (at_end Dg.bs t).2, ← hp.p]
    exact h1
  · rw [e, (at_end Dg.bs t).1]
    exact h2
/-- the changed copy has no two-phase locals -/
theorem none_c {w W : World} {B H T gB gM : Nat} {D Dg : FnD} {G F : Nat → Int} {gb cB : Nat} (h : Stt w B H T gB gM D Dg Dg.bs.length 0 G F W) (hp : Copy D Dg gb cB) : Calls Try.prog 8 #[.agg #[.int .i64 Dg.p, .bool Dg.u, Dg.lv, Dg.bv]] W (AnsL W []) := by
  have e : atBs Dg.bs Dg.bs.length 0 = Dg.bs.map mutB := atBs_end _ (Nat.le_refl _)
  have hl : ∀ b ∈ Dg.bs, ∀ st ∈ b.st, st.length = 26 := fun b hb st hs => all2_len ((hp.kd.bk b hb).2.2.1 st hs)
  have hk := kinds_at hp.kd Dg.bs.length 0
  have ho := h.own
  rw [e] at ho hk
  have hf : FnOk' W (valF (mutF Dg)) (mutF Dg) := ho.ok hk
  have := twos_c hf (mut_chk hl hp.chk) (Below.refl _ _)
  rw [mut_locs hl] at this
  exact this
end Go.Proofs.Ytbebbbclhgjcbaa.two
