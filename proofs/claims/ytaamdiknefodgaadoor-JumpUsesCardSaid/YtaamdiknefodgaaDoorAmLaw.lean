/- More numbers behind the arguments; lists of them. (No program in sight.) -/
import Derived.Test.YtaamdiknefodgaaDoorAmList
namespace Go.Proofs.YtaamdiknefodgaaDoor.Am
open Go.RowKit
set_option linter.unusedSectionVars false
set_option linter.unusedVariables false
section
variable {cs : List Value} {strs : List (List UInt8)} {ints : List Int} {n a : Nat}
/-- .. of the first of which something is known -/
theorem Lf.startB_some {gs : List Gp} {vs : List Value} (hg : Gps gs vs cs) {ivS ivI : List (Int × Int)} (hS : All2 (fun p (l : List UInt8) => p.1 ≤ (l.length : Int) ∧ (l.length : Int) ≤ p.2) ivS strs) {i0 i1 : List Int} (hi : ints = i0 ++ i1) (hI : All2 (fun p (m : Int) => p.1 ≤ m ∧ m ≤ p.2) ivI i0) :
    (Lf.startB gs ivS ivI).Holds (rhoOf (behind cs strs ints)) (sigOf (behind cs strs ints)) where
  iv i q e := by
    have e : nth ((kindsT gs).map Kd.iv ++ (ivS ++ ivI)) i = some q := e
    have hlen : ((kindsT gs).map Kd.iv).length = cs.length := by rw [List.length_map]; exact hg.kinds.len
    rw [nth_eq] at e
    by_cases hlt : i < cs.length
    · rw [List.getElem?_append_left (by omega)] at e
      have h0 := (Lf.start_ok hg).iv i q (by rw [nth_eq]; exact e)
      rw [behind_cell hlt, ← rhoOf_cell]
      exact h0
    · rw [List.getElem?_append_right (by omega), hlen] at e
      obtain ⟨j, rfl⟩ : ∃ j, i = cs.length + j := ⟨i - cs.length, by omega⟩
      rw [show cs.length + j - cs.length = j by omega] at e
      by_cases hj : j < ivS.length
      · rw [List.getElem?_append_left hj] at e
        obtain ⟨l, hl, k⟩ := All2.nth hS (n := j) (x := q) (by rw [nth_eq]; exact e)
        rw [behind_len rfl hl]
        exact k
      · rw [List.getElem?_append_right (by omega)] at e
        obtain ⟨m, hm, k⟩ := All2.nth hI (n := j - ivS.length) (x := q) (by rw [nth_eq]; exact e)
        have hsl := hS.len
        have hm' : ints[j - ivS.length]? = some m := by
          rw [hi, List.getElem?_append_left (List.getElem?_eq_some_iff.1 hm).1]
          exact hm
        rw [show cs.length + j = cs.length + ivS.length + (j - ivS.length) by omega, behind_int rfl hsl.symm hm']
        exact k
  ne _ _ e := by cases e
  lt _ _ e := by cases e
  to i j e := by
    have e : nth (List.range ((kindsT gs).length + (ivS.length + ivI.length))) i = some j := e
    rw [nth_eq] at e
    obtain ⟨_, e⟩ := List.getElem?_eq_some_iff.1 e
    simp at e
    rw [e]
  st _ _ e := by cases e
  sn _ _ e := by cases e
  cf _ e := by cases e
end
/-- numbers that are not written out, one behind the other -/
def numsX (b n : Nat) : List S := (List.range n).map fun j => S.xi .i64 (b + j)
theorem numsX_ok [Base] {r : Ren} {b : Nat} {l : List Int} (h : ∀ j m, l[j]? = some m → Base.rho (b + j) = m) : All2 (VS r) (numsX b l.length) (l.map (Value.int .i64)) := by
  refine all2_by_nth (by simp [numsX]) fun i x v hx hv => ?_
  have hi : i < l.length := by have := (List.getElem?_eq_some_iff.1 hv).1; simpa using this
  unfold numsX at hx
  rw [List.getElem?_map, List.getElem?_range hi] at hx
  rw [List.getElem?_map, List.getElem?_eq_getElem hi] at hv
  cases hx
  cases hv
  show Value.int .i64 _ = .int .i64 _
  rw [h i _ (List.getElem?_eq_getElem hi)]
abbrev noFacts : Facts := ⟨[], [], [], [], [], []⟩
theorem noFacts_ok (rho : Nat → Int) (sig : Nat → List UInt8) : FactsOk noFacts rho sig := ⟨fun _ _ _ h => (by cases h), fun _ _ _ h => (by cases h), fun _ _ _ h => (by cases h), fun _ _ _ _ h => (by cases h), fun _ _ _ h => (by cases h), fun _ _ _ h => (by cases h)⟩
end Go.Proofs.YtaamdiknefodgaaDoor.Am
