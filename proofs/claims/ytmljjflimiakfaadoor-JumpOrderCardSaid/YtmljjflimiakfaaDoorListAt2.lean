/- The cells of an element that has lists among them. -/
import Derived.Test.YtmljjflimiakfaaDoorJump1
import Derived.Test.YtmljjflimiakfaaDoorListAt
namespace Go.Proofs.YtmljjflimiakfaaDoor.Am
open Go.RowKit Go.ChangeShapes Go.WideShapes Go.Deep
set_option linter.unusedVariables false
set_option linter.unusedSectionVars false
/-- a cell: of a plain kind, or a list of this type, which opens by list_open -/
def CellIs {P : Program} {H : Type} (enc : TypeId × Value → H) (w : World) (spare : Nat → Bool) (held : Bool) (k : Kd ⊕ TypeId) (v : Value) : Prop := match k with
  | .inl kd => kd.ok v
  | .inr t => ∃ m y, DataW.trod enc P w 0 spare held m t [v] = some y
/-- the leaves of this type are these -/
def leafIs (P : Program) (n : Nat) (t : TypeId) (ks : List (Kd ⊕ TypeId)) : Prop :=
  ∀ (i : Nat) (k : Kd ⊕ TypeId), ks[i]? = some k → ∃ p : Nat × TypeId, (leafT P n 0 t)[i]? = some p ∧ p.1 = i ∧ (match k with | .inl kd => kdOf P p.2 = some kd | .inr u => p.2 = u)
def sameK (p q : Kd) : Bool := match p, q with
  | .i x, .i y => decide (x = y)
  | .b, .b => true
  | .s, .s => true
  | _, _ => false
theorem sameK_ok {p q : Kd} (h : sameK p q = true) : p = q := by
  unfold sameK at h
  split at h
  · rw [of_decide_eq_true h]
  · rfl
  · rfl
  · cases h
/-- .. by the kernel -/
def leafB (P : Program) (n : Nat) (t : TypeId) (ks : List (Kd ⊕ TypeId)) : Bool := (List.range ks.length).all fun i => match (leafT P n 0 t)[i]?, ks[i]? with
  | some p, some k => Nat.beq p.1 i && (match k with | .inl kd => (match kdOf P p.2 with | some kd' => sameK kd' kd | none => false) | .inr u => Nat.beq p.2 u)
  | _, _ => false
theorem leafB_ok {P : Program} {n : Nat} {t : TypeId} {ks : List (Kd ⊕ TypeId)} (h : leafB P n t ks = true) : leafIs P n t ks := by
  intro i k hk
  have hi := (List.getElem?_eq_some_iff.1 hk).1
  have hb := List.all_eq_true.1 h i (List.mem_range.2 hi)
  rw [hk] at hb
  cases hp : (leafT P n 0 t)[i]? with
  | none => rw [hp] at hb; cases hb
  | some p =>
    rw [hp] at hb
    simp only [Bool.and_eq_true] at hb
    refine ⟨p, rfl, Nat.eq_of_beq_eq_true hb.1, ?_⟩
    have hb2 := hb.2
    cases k with
    | inl kd =>
      cases hkd : kdOf P p.2 with
      | none => simp only [hkd] at hb2; cases hb2
      | some kd' =>
        simp only [hkd] at hb2
        show some kd' = some kd
        rw [sameK_ok hb2]
    | inr u => exact Nat.eq_of_beq_eq_true hb2
theorem cells_trod {P : Program} {H : Type} {enc : TypeId × Value → H} {w : World} {spare : Nat → Bool} {held : Bool} {n : Nat} {t : TypeId} {fuel : Nat} {cs : List Value} {x : DataW H × List MemPlace} (h : DataW.trod enc P w 0 spare held fuel t cs = some x) {ks : List (Kd ⊕ TypeId)}
    (hk : leafIs P n t ks) (hl : cs.length = ks.length) : All2 (CellIs (P := P) enc w spare held) ks cs := by
  refine all2_by_nth hl.symm fun i k v hki hv => ?_
  obtain ⟨p, hp, hpi, hm⟩ := hk i k hki
  obtain ⟨_, v', y, m, k2, _, k4⟩ := leaf_trod n 0 t fuel cs x h p (List.mem_of_getElem? hp)
  rw [hpi, Nat.sub_zero, hv] at k2
  cases k2
  cases k with
  | inl kd => exact kd_trod hm k4
  | inr u =>
    have hm : p.2 = u := hm
    subst hm
    exact ⟨m, y, k4⟩
end Go.Proofs.YtmljjflimiakfaaDoor.Am
