/- What twos counts: sums over statements, operands, blocks; locals that are in range. (No run of the program.) -/
import Derived.Test.YtbebbbclhgjcbaaFn9
namespace Go.Proofs.Ytbebbbclhgjcbaa.Am
open Go.RowKit
set_option maxRecDepth 100000
set_option linter.unusedVariables false
set_option linter.unusedSectionVars false
/-! sums -/
def acc {α : Type} (f : α → Int) : List α → Int
  | [] => 0
  | x :: r => f x + acc f r
theorem acc_app {α : Type} (f : α → Int) : ∀ a b : List α, acc f (a ++ b) = acc f a + acc f b
  | [], b => by simp [acc]
  | x :: a, b => by rw [List.cons_append, acc, acc, acc_app f a b]; omega
theorem acc_take {α : Type} (f : α → Int) (l : List α) (d : α) {k : Nat} (hk : k < l.length) : acc f (l.take (k + 1)) = acc f (l.take k) + f (l.getD k d) := by
  rw [List.take_succ_eq_append_getElem hk, acc_app, List.getD_eq_getElem?_getD, List.getElem?_eq_getElem hk]
  simp [acc]
theorem acc_le {α : Type} (f : α → Int) (c : Nat) : ∀ l : List α, (∀ x ∈ l, 0 ≤ f x ∧ f x ≤ c) → 0 ≤ acc f l ∧ acc f l ≤ ((c * l.length : Nat) : Int)
  | [], _ => by simp [acc]
  | x :: r, h => by
    obtain ⟨h1, h2⟩ := h x (by simp)
    obtain ⟨h3, h4⟩ := acc_le f c r fun y hy => h y (by simp [hy])
    rw [acc, List.length_cons, Nat.mul_succ]
    omega
theorem b2i_le (b : Bool) : 0 ≤ b2i b ∧ b2i b ≤ 1 := by cases b <;> decide
def cnt (ls : List Int) (j : Nat) : Int := acc (fun l => b2i (decide (l = (j : Int)))) ls
theorem bump_b {F : Nat → Int} {l : Int} {M : Int} (h : ∀ j, 0 ≤ F j ∧ F j ≤ M) : ∀ j, 0 ≤ bump F l j ∧ bump F l j ≤ M + 1 := fun j => by
  have := h j
  have := b2i_le (decide (l = (j : Int)))
  unfold bump
  omega
/-! one step of counting, among rows of numbers -/
theorem cnt_ok {D : FnD} {q : At} {fs : List (Nat → Int)} {tail : List Int} {t : Cnt} {n N : Nat} {F : Nat → Int} (hn : fs.length = N) (h1 : fs[t.src]? = some F) (h2 : fs[t.dst]? = some (bump F (xsAt (fnXs D q (rows16 fs ++ tail)) t.l))) (hm : t.m = 77 + (16 * N + n))
    (e0 : xsAt tail n = F (xsAt (fnXs D q (rows16 fs ++ tail)) t.l).toNat) (e1 : xsAt tail (n + 1) = F (xsAt (fnXs D q (rows16 fs ++ tail)) t.l).toNat + 1) {M : Int} (hb : ∀ j, 0 ≤ F j ∧ F j ≤ M) (hM : M ≤ 1000000) : CntOk (xsAt (fnXs D q (rows16 fs ++ tail))) t := by
  have m0 : xsAt (fnXs D q (rows16 fs ++ tail)) t.m = F (xsAt (fnXs D q (rows16 fs ++ tail)) t.l).toNat := by rw [hm, fn_tail hn, e0]
  have m1 : xsAt (fnXs D q (rows16 fs ++ tail)) (t.m + 1) = F (xsAt (fnXs D q (rows16 fs ++ tail)) t.l).toNat + 1 := by
    rw [hm, show 77 + (16 * N + n) + 1 = 77 + (16 * N + (n + 1)) by omega, fn_tail hn, e1]
  have hb := hb (xsAt (fnXs D q (rows16 fs ++ tail)) t.l).toNat
  exact ⟨⟨F, fun j hj => fn_row h1 hj, fun j hj => fn_row h2 hj, m0, by rw [m1, m0]⟩, by rw [m1]; omega, by rw [m1]; omega⟩
/-! what cannot be -/
noncomputable def noT (giv : List (E × Bool)) (L : Lf) : Bool := @skipB (L.knowX ⟨[], XTab.nought⟩) giv
theorem cannot {giv : List (E × Bool)} {t : HT} {L0 : Lf} {rho : Nat → Int} (h : autoB (noT giv) t L0 = true) (h0 : L0.Holds rho (fun _ => [])) (hg : ∀ p ∈ giv, p.1.num rho = p.2) : False := by
  obtain ⟨L, hL, ht⟩ := autoB_ok h h0
  have ok : KnowOk (L.knowX ⟨[], XTab.nought⟩) rho (fun _ => []) := Lf.okX hL ⟨fun _ _ _ h => (by cases h), XTabOk.nought _⟩
  let b : Base := Base.known (L.knowX ⟨[], XTab.nought⟩) ok 0 default
  have := @skipB_no b giv hg
  unfold noT at ht
  rw [show @skipB (L.knowX ⟨[], XTab.nought⟩) giv = false from this] at ht
  cases ht
theorem kd_num {k : Kd} {v : Value} (h : k.ok v) (hk : k ≠ .s) : -9223372036854775808 ≤ codeI v ∧ codeI v ≤ 18446744073709551615 := by
  cases k with
  | s => exact absurd rfl hk
  | b => obtain ⟨b, rfl⟩ := h; cases b <;> decide
  | i k =>
    obtain ⟨n, rfl, h1, h2⟩ := h
    have : -9223372036854775808 ≤ k.min ∧ k.max ≤ 18446744073709551615 := by cases k <;> decide
    show -9223372036854775808 ≤ n ∧ n ≤ _
    omega
def ivU (n : Nat) : List (Int × Int) := List.replicate n (-9223372036854775808, 18446744073709551615)
theorem ivU_ok {n : Nat} {ks : List Kd} {us : List Value} (h : All2 Kd.ok ks us) (hs : (ks.all fun k => match k with | .s => false | _ => true) = true) : (Lf.of (ivU n)).Holds (cellI us) (fun _ => []) :=
  Lf.of_ok fun i p hp => by
    have hi := (List.getElem?_eq_some_iff.1 hp).1
    rw [ivU, List.length_replicate] at hi
    unfold ivU at hp
    rw [List.getElem?_replicate, if_pos hi] at hp
    cases hp
    cases hu : us[i]? with
    | none => unfold cellI; rw [hu]; exact ⟨by decide, by decide⟩
    | some u =>
      have hl := h.len
      have hlt := (List.getElem?_eq_some_iff.1 hu).1
      obtain ⟨u', hu', ok⟩ := All2.nth h (n := i) (x := ks[i]'(by omega)) (by rw [nth_eq]; exact List.getElem?_eq_getElem _)
      rw [hu] at hu'
      cases hu'
      unfold cellI
      rw [hu]
      refine kd_num ok fun e => ?_
      have := List.all_eq_true.1 hs (ks[i]'(by omega)) (List.getElem_mem _)
      rw [e] at this
      cases this
/-- a statement's locals are in range -/
noncomputable def inRun (e : E) (n c : Nat) : Bool := autoB (noT [(e, true)]) .leaf ((Lf.of (ivU n)).lo c 16) && autoB (noT [(e, true)]) .leaf ((Lf.of (ivU n)).hi c (-1))
theorem in_range {e : E} {n c : Nat} (hr : inRun e n c = true) {ks : List Kd} {us : List Value} (h : All2 Kd.ok ks us) (hs : (ks.all fun k => match k with | .s => false | _ => true) = true) (hv : e.num (cellI us) = true) : 0 ≤ cellI us c ∧ cellI us c ≤ 15 := by
  unfold inRun at hr
  rw [Bool.and_eq_true] at hr
  have hg : ∀ p ∈ [(e, true)], p.1.num (cellI us) = p.2 := fun p hp => by obtain rfl := List.mem_singleton.1 hp; exact hv
  constructor
  · apply Decidable.byContradiction
    intro hc
    exact cannot hr.2 ((ivU_ok h hs).hi (by omega)) hg
  · apply Decidable.byContradiction
    intro hc
    exact cannot hr.1 ((ivU_ok h hs).lo (by omega)) hg
theorem st_in : ([25, 1, 9, 14, 17, 22].all (inRun okStE 26)) = true := by kernel_rfl
theorem st_range {st : List Value} (h : All2 Kd.ok kS26 st) (hv : okStE.val st = true) {c : Nat} (hc : c ∈ [25, 1, 9, 14, 17, 22]) : 0 ≤ cellI st c ∧ cellI st c ≤ 15 :=
  in_range (List.all_eq_true.1 st_in c hc) h rfl ((E.val_num _ _).symm.trans hv)
theorem op_in : inRun (okOpE 0) 5 2 = true := by kernel_rfl
theorem op_range {op : List Value} (h : All2 Kd.ok opK op) (hv : (okOpE 0).val op = true) : 0 ≤ cellI op 2 ∧ cellI op 2 ≤ 15 := in_range op_in h rfl ((E.val_num _ _).symm.trans hv)
/-! a jump's: over its cells (13 its arguments are valid, 14 its operand is, 15 its place is) -/
def iffE (a b : E) : E := .or (.and a b) (.and (.not a) (.not b))
def jmG : List (E × Bool) := [(okJB, true), (iffE (isE 14 1) (okOpE 1), true), (iffE (isE 15 1) (okPlE 10), true)]
def jmT : HT := .both 14 1 (.both 14 2 (.both 15 1 (.both 15 2 .leaf)))
noncomputable def jmRun (L : Lf) : Bool := autoB (noT jmG) jmT L
theorem jm_1 : (jmRun ((Lf.of (ivU 16)).lo 3 16) && (jmRun ((Lf.of (ivU 16)).hi 3 (-1)) && (jmRun ((Lf.of (ivU 16)).lo 10 16) && jmRun ((Lf.of (ivU 16)).hi 10 (-1))))) = true := by kernel_rfl
theorem jm_2 : jmRun (((Lf.of (ivU 16)).pin 13 0).lo 9 1) = true := by kernel_rfl
theorem iffE_num {a b : E} {rho : Nat → Int} (h : a.num rho = b.num rho) : (iffE a b).num rho = true := by
  show ((a.num rho && b.num rho) || (!a.num rho && !b.num rho)) = true
  rw [h]
  cases b.num rho <;> rfl
theorem jm_facts {w : World} {v : Value} {pre : List Value} {sv : Value} {post : List Value} {els : List (List Value)} (hj : JumpIs w v pre sv post els) (h : okJ pre els post = true) :
    (0 ≤ cellI pre 3 ∧ cellI pre 3 ≤ 15) ∧ (0 ≤ cellI post 0 ∧ cellI post 0 ≤ 15) ∧ ((els.all fun el => (okOpE 0).val el) = true ∨ els.length = 0) := by
  have hl := len_flat hj
  have lp := len_pre hj
  let us : List Value := flatJ pre els post ++ (bitsJ pre els post).map (Value.int .i64)
  have hk : All2 Kd.ok (kJ ++ [.i .i64, .i .i64, .i .i64]) us := (ok_flat hj).app ⟨⟨_, rfl, by have := b2i_le (els.all fun el => (okOpE 0).val el); show (-9223372036854775808 : Int) ≤ _; omega, by have := b2i_le (els.all fun el => (okOpE 0).val el); show _ ≤ (9223372036854775807 : Int); omega⟩, ⟨_, rfl, by have := b2i_le ((okOpE 1).val (flatJ pre els post)); show (-9223372036854775808 : Int) ≤ _; omega, by have := b2i_le ((okOpE 1).val (flatJ pre els post)); show _ ≤ (9223372036854775807 : Int); omega⟩, ⟨_, rfl, by have := b2i_le ((okPlE 10).val (flatJ pre els post)); show (-9223372036854775808 : Int) ≤ _; omega, by have := b2i_le ((okPlE 10).val (flatJ pre els post)); show _ ≤ (9223372036854775807 : Int); omega⟩, trivial⟩
  have h0 : (Lf.of (ivU 16)).Holds (cellI us) (fun _ => []) := ivU_ok hk rfl
  have ea : ∀ i, i < 13 → cellI us i = cellI (flatJ pre els post) i := fun i hi => cellI_lt (by omega)
  have eb : ∀ j m, (bitsJ pre els post)[j]? = some m → cellI us (13 + j) = m := fun j m hm => by
    show cellI (flatJ pre els post ++ _) _ = _
    rw [cellI_ge hl]
    unfold cellI
    rw [List.getElem?_map, hm]
    rfl
  have e13 : cellI us 13 = b2i (els.all fun el => (okOpE 0).val el) := eb 0 _ rfl
  have e14 : cellI us 14 = b2i ((okOpE 1).val (flatJ pre els post)) := eb 1 _ rfl
  have e15 : cellI us 15 = b2i ((okPlE 10).val (flatJ pre els post)) := eb 2 _ rfl
  have sm : ∀ e : E, e.bd 13 = true → e.num (cellI us) = e.val (flatJ pre els post) := fun e he => by
    rw [E.val_num]
    exact (E.num_ren (f := fun i => i) he ea ▸ by
      congr 1
      clear he
      induction e with
      | lt i c => rfl
      | zero l => simp [E.ren]
      | and a b ha hb => rw [E.ren, ← ha, ← hb]
      | or a b ha hb => rw [E.ren, ← ha, ← hb]
      | not a ha => rw [E.ren, ← ha])
  have one : ∀ i c, (isE i c).num (cellI us) = decide (cellI us i = c) := fun i c => by show (decide _ && true) = _; rw [Bool.and_true]
  have hg : ∀ p ∈ jmG, p.1.num (cellI us) = p.2 := fun p hp => by
    simp only [jmG, List.mem_cons, List.not_mem_nil, or_false] at hp
    rcases hp with rfl | rfl | rfl
    · unfold okJ at h
      rw [E.val_num] at h
      exact h
    · refine iffE_num ?_
      rw [one, e14, made.dec_b2i, sm _ rfl]
    · refine iffE_num ?_
      rw [one, e15, made.dec_b2i, sm _ rfl]
  have c3 : cellI us 3 = cellI pre 3 := (ea 3 (by decide)).trans (by unfold flatJ; exact cellI_lt (by omega))
  have c10 : cellI us 10 = cellI post 0 := (ea 10 (by decide)).trans (by
    unfold flatJ
    rw [show 10 = 9 + 1 from rfl, cellI_ge lp]
    rfl)
  have c9 : cellI us 9 = els.length := (ea 9 (by decide)).trans (cell_len hj)
  have r1 := jm_1
  simp only [Bool.and_eq_true] at r1
  obtain ⟨r1, r2, r3, r4⟩ := r1
  refine ⟨⟨?_, ?_⟩, ⟨?_, ?_⟩, ?_⟩
  · apply Decidable.byContradiction; intro hc; exact cannot r2 (h0.hi (by omega)) hg
  · apply Decidable.byContradiction; intro hc; exact cannot r1 (h0.lo (by omega)) hg
  · apply Decidable.byContradiction; intro hc; exact cannot r4 (h0.hi (by omega)) hg
  · apply Decidable.byContradiction; intro hc; exact cannot r3 (h0.lo (by omega)) hg
  · cases hb : (els.all fun el => (okOpE 0).val el) with
    | true => exact .inl rfl
    | false =>
      refine .inr (Decidable.byContradiction fun hc => ?_)
      rw [hb] at e13
      exact cannot jm_2 ((h0.pin (i := 13) (c := 0) e13).lo (i := 9) (c := 1) (by rw [c9]; omega)) hg
end Go.Proofs.Ytbebbbclhgjcbaa.Am
