/- JumpOrder, plain: a call whose arguments stand in another order, one of them twice, is valid and uses and moves the same. -/
import Derived.Test.YtmljjflimiakfaaDoorJump4C
import Derived.Test.YtmljjflimiakfaaDoorFn1
namespace Go.Proofs.YtmljjflimiakfaaDoor.order
open Go.RowKit Go.Proofs.YtmljjflimiakfaaDoor.Am
set_option maxRecDepth 100000
set_option linter.unusedVariables false
set_option linter.unusedSectionVars false
def elsX {α : Type} (at_ : Nat) (l : List α) : List α := l.drop at_ ++ l.take at_
theorem mem_elsX {α : Type} {at_ : Nat} {l : List α} {y x : α} (hy : y ∈ l) : x ∈ elsX at_ l ++ [y] ↔ x ∈ l := by
  unfold elsX
  rw [List.append_assoc, List.mem_append, List.mem_append, List.mem_singleton]
  constructor
  · rintro (h | h | rfl)
    · exact List.mem_of_mem_drop h
    · exact List.mem_of_mem_take h
    · exact hy
  · intro h
    have : x ∈ l.take at_ ++ l.drop at_ := by rw [List.take_append_drop]; exact h
    rcases List.mem_append.1 this with h | h
    · exact .inr (.inl h)
    · exact .inl h
theorem inc_same {T T' : List Int} (h : ∀ x, x ∈ T ↔ x ∈ T') : incT T = incT T' := by
  unfold incT boolsT
  congr 1
  apply List.map_congr_left
  intro j _
  exact decide_eq_decide.2 (h _)
theorem told_same {sel : Int → Bool} {l l' : List (List Value)} (h : ∀ x, x ∈ l ↔ x ∈ l') (x : Int) : x ∈ toldL sel l ↔ x ∈ toldL sel l' := by
  unfold toldL
  simp only [List.mem_flatMap]
  exact ⟨fun ⟨a, h1, h2⟩ => ⟨a, (h a).1 h1, h2⟩, fun ⟨a, h1, h2⟩ => ⟨a, (h a).2 h1, h2⟩⟩
theorem parts_same {pre : List Value} {l l' : List (List Value)} (h : ∀ x, x ∈ l ↔ x ∈ l') (x : List Value) : x ∈ partsJ pre l ↔ x ∈ partsJ pre l' := by
  unfold partsJ
  split
  · exact Iff.rfl
  · exact h x
theorem uses_same {pre post : List Value} {l l' : List (List Value)} (h : ∀ x, x ∈ l ↔ x ∈ l') : incT (usesJ pre l post) = incT (usesJ pre l' post) := inc_same fun x => by
  unfold usesJ
  simp only [List.mem_append]
  rw [told_same (parts_same h) x]
theorem moves_same {pre post : List Value} {l l' : List (List Value)} (h : ∀ x, x ∈ l ↔ x ∈ l') : incT (movesJ pre l post) = incT (movesJ pre l' post) := inc_same fun x => told_same (parts_same h) x
/-! it is valid -/
noncomputable def noT (giv : List (E × Bool)) (L : Lf) : Bool := @skipB (L.knowX ⟨[], XTab.nought⟩) giv
theorem cannot {giv : List (E × Bool)} {t : HT} {L0 : Lf} {rho : Nat → Int} (h : autoB (noT giv) t L0 = true) (h0 : L0.Holds rho (fun _ => [])) (hg : ∀ p ∈ giv, p.1.num rho = p.2) : False := by
  obtain ⟨L, hL, ht⟩ := autoB_ok h h0
  have ok : KnowOk (L.knowX ⟨[], XTab.nought⟩) rho (fun _ => []) := Lf.okX hL ⟨fun _ _ _ h => (by cases h), XTabOk.nought _⟩
  let b : Base := Base.known (L.knowX ⟨[], XTab.nought⟩) ok 0 default
  have := @skipB_no b giv hg
  unfold noT at ht
  rw [show @skipB (L.knowX ⟨[], XTab.nought⟩) giv = false from this] at ht
  cases ht
theorem kd_num {k : Kd} {v : Value} (h : k.ok v) (hk : k ≠ .s) : -9223372036854775808 ≤ codeI v ∧ codeI v ≤ 18446744073709551615 := by
  cases k with
  | s => exact absurd rfl hk
  | b => obtain ⟨b, rfl⟩ := h; cases b <;> decide
  | i k =>
    obtain ⟨n, rfl, h1, h2⟩ := h
    have : -9223372036854775808 ≤ k.min ∧ k.max ≤ 18446744073709551615 := by cases k <;> decide
    show -9223372036854775808 ≤ n ∧ n ≤ _
    omega
def ivU (n : Nat) : List (Int × Int) := List.replicate n (-9223372036854775808, 18446744073709551615)
theorem ivU_ok {n : Nat} {ks : List Kd} {us : List Value} (h : All2 Kd.ok ks us) (hs : (ks.all fun k => match k with | .s => false | _ => true) = true) : (Lf.of (ivU n)).Holds (cellI us) (fun _ => []) :=
  Lf.of_ok fun i p hp => by
    have hi := (List.getElem?_eq_some_iff.1 hp).1
    rw [ivU, List.length_replicate] at hi
    unfold ivU at hp
    rw [List.getElem?_replicate, if_pos hi] at hp
    cases hp
    cases hu : us[i]? with
    | none => unfold cellI; rw [hu]; exact ⟨by decide, by decide⟩
    | some u =>
      have hl := h.len
      have hlt := (List.getElem?_eq_some_iff.1 hu).1
      obtain ⟨u', hu', ok⟩ := All2.nth h (n := i) (x := ks[i]'(by omega)) (by rw [nth_eq]; exact List.getElem?_eq_getElem _)
      rw [hu] at hu'
      cases hu'
      unfold cellI
      rw [hu]
      refine kd_num ok fun e => ?_
      have := List.all_eq_true.1 hs (ks[i]'(by omega)) (List.getElem_mem _)
      rw [e] at this
      cases this
def nine (i : Nat) : Nat := if i = 9 then 16 else i
def givX : List (E × Bool) := [(okJB, true), (.zero [(0, 4)], true), (okJB.ren nine, false)]
def treeX : HT := .of [⟨false, 1, 0⟩, ⟨false, 1, 1⟩, ⟨false, 2, 0⟩, ⟨false, 2, 1⟩, ⟨false, 3, 0⟩, ⟨false, 3, 1⟩, ⟨false, 4, 0⟩, ⟨false, 4, 1⟩, ⟨false, 5, 0⟩, ⟨false, 5, 1⟩, ⟨false, 6, 0⟩, ⟨false, 6, 8⟩, ⟨false, 7, 0⟩, ⟨false, 7, 24⟩, ⟨false, 8, 0⟩, ⟨false, 8, 1⟩, ⟨false, 9, 9⟩, ⟨false, 13, 1⟩, ⟨false, 13, 2⟩, ⟨false, 15, 1⟩, ⟨false, 15, 2⟩]
theorem run_x : autoB (noT givX) treeX ((((Lf.of (ivU 17)).pin 0 4).lo 16 0).hi 16 8) = true := by kernel_rfl
theorem ok_x {w : World} {v : Value} {pre : List Value} {sv : Value} {post : List Value} {els els' : List (List Value)} (hj : JumpIs w v pre sv post els) (h : okJ pre els post = true) (h4 : cellI pre 0 = 4) (hl : els'.length ≤ 8) (hm : ∀ x, x ∈ els ↔ x ∈ els') : okJ pre els' post = true := by
  cases h' : okJ pre els' post with
  | true => rfl
  | false =>
    exfalso
    have hB : (els'.all fun el => (okOpE 0).val el) = (els.all fun el => (okOpE 0).val el) := by
      rw [Bool.eq_iff_iff, List.all_eq_true, List.all_eq_true]
      exact ⟨fun k x hx => k x ((hm x).1 hx), fun k x hx => k x ((hm x).2 hx)⟩
    have hfl := ok_flat hj
    have hp := hj.pre
    have hq := hj.post
    have lp : pre.length = 9 := hp.len.symm.trans rfl
    have lq : post.length = 3 := hq.len.symm.trans rfl
    match pre, lp, post, lq with
    | [p0, p1, p2, p3, p4, p5, p6, p7, p8], _, [q0, q1, q2], _ =>
    let us : List Value := flatJ [p0, p1, p2, p3, p4, p5, p6, p7, p8] els [q0, q1, q2] ++ (bitsJ [p0, p1, p2, p3, p4, p5, p6, p7, p8] els [q0, q1, q2]).map (Value.int .i64) ++ [.int .i64 els'.length]
    have bi : ∀ b : Bool, Kd.ok (.i .i64) (.int .i64 (b2i b)) := fun b => ⟨_, rfl, by cases b <;> decide, by cases b <;> decide⟩
    have hk : All2 Kd.ok (kJ ++ [.i .i64, .i .i64, .i .i64] ++ [.i .i64]) us := (hfl.app (show All2 Kd.ok [.i .i64, .i .i64, .i .i64] [Value.int .i64 (b2i _), Value.int .i64 (b2i _), Value.int .i64 (b2i _)] from ⟨bi _, bi _, bi _, trivial⟩)).app (show All2 Kd.ok [.i .i64] [Value.int .i64 els'.length] from ⟨⟨_, rfl, by show (-9223372036854775808 : Int) ≤ (els'.length : Int); omega, by show (els'.length : Int) ≤ 9223372036854775807; omega⟩, trivial⟩)
    have h0 := ivU_ok (n := 17) hk rfl
    have e16 : cellI us 16 = els'.length := rfl
    have e0 : cellI us 0 = 4 := h4
    refine cannot run_x ((((h0.pin (i := 0) (c := 4) e0).lo (i := 16) (c := 0) (by rw [e16]; omega)).hi (i := 16) (c := 8) (by rw [e16]; omega))) fun x hx => ?_
    simp only [givX, List.mem_cons, List.not_mem_nil, or_false] at hx
    rcases hx with rfl | rfl | rfl
    · show okJB.num (cellI us) = true
      rw [← h]
      unfold okJ
      rw [E.val_num]
      have hr := E.num_ren (e := okJB) (f := fun i => i) (n := 16) (rho := cellI us) (rho' := cellI (flatJ [p0, p1, p2, p3, p4, p5, p6, p7, p8] els [q0, q1, q2] ++ (bitsJ [p0, p1, p2, p3, p4, p5, p6, p7, p8] els [q0, q1, q2]).map (Value.int .i64))) rfl (fun i hi => match i, hi with
        | 0, _ => rfl | 1, _ => rfl | 2, _ => rfl | 3, _ => rfl | 4, _ => rfl | 5, _ => rfl | 6, _ => rfl | 7, _ => rfl | 8, _ => rfl | 9, _ => rfl | 10, _ => rfl | 11, _ => rfl | 12, _ => rfl | 13, _ => rfl | 14, _ => rfl | 15, _ => rfl
        | k + 16, hk => absurd hk (by omega))
      exact hr
    · show (decide (cellI us 0 = 4) && true) = true
      rw [e0]
      rfl
    · show (okJB.ren nine).num (cellI us) = false
      rw [← h']
      unfold okJ
      rw [E.val_num]
      have b1 : (bitsJ [p0, p1, p2, p3, p4, p5, p6, p7, p8] els' [q0, q1, q2]) = (bitsJ [p0, p1, p2, p3, p4, p5, p6, p7, p8] els [q0, q1, q2]) := by
        unfold bitsJ
        rw [hB]
        rfl
      rw [b1]
      exact E.num_ren (e := okJB) (f := nine) (n := 16) rfl (fun i hi => match i, hi with
        | 0, _ => rfl | 1, _ => rfl | 2, _ => rfl | 3, _ => rfl | 4, _ => rfl | 5, _ => rfl | 6, _ => rfl | 7, _ => rfl | 8, _ => rfl | 9, _ => rfl | 10, _ => rfl | 11, _ => rfl | 12, _ => rfl | 13, _ => rfl | 14, _ => rfl | 15, _ => rfl
        | k + 16, hk => absurd hk (by omega))
end Go.Proofs.YtmljjflimiakfaaDoor.order
