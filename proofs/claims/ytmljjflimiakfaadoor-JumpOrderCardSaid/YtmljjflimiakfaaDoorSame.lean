/- pawnshopref04.SameInts of two lists of the same numbers. -/
import Derived.Test.YtmljjflimiakfaaDoorKit
import Derived.Test.YtmljjflimiakfaaDoorAmC
import Derived.Test.YtmljjflimiakfaaDoorProg
import Derived.Deep.QuietTactic
import Derived.BigQuiet
namespace Go.Proofs.YtmljjflimiakfaaDoor.sameI
open Go.RowKit Go.Proofs.YtmljjflimiakfaaDoor Go.Proofs.YtmljjflimiakfaaDoor.Am
set_option linter.unusedVariables false
/-- a slice of these numbers that can be read -/
def Ints (w : World) (s : Value) (l : List Int) : Prop := ∃ A c, s = .slice A l.length c ∧ (l.length : Int) ≤ 9223372036854775807 ∧ Row w w.heap.size .i64 A l
theorem Ints.own {w : World} {l : List Int} {s : Value} {b n : Nat} (h : w.ownsRow b 3 1 s n (l.map (Value.int .i64))) : Ints w s l := by
  obtain ⟨A, c, e, h1, hm, r, _⟩ := Row.of_own h
  exact ⟨A, c, e, by unfold maxLen at hm; omega, r⟩
theorem Ints.new {w w1 : World} {l : List Int} {s : Value} (h : NewRow w w1 s (l.map (Value.int .i64))) : Ints w1 s l := by
  generalize hl : l.map (Value.int .i64) = us at h
  cases h with
  | none =>
    have : l = [] := by simpa using hl
    subst this
    exact ⟨none, 0, rfl, by simp, fun h => by simp at h⟩
  | @row g cap C T fz _ hp hg hnew hfz hn hmx hcap hus =>
    have hlen : us.length = l.length := by rw [← hl]; simp
    refine ⟨some ⟨g, 0, none⟩, cap, by rw [hlen], by unfold maxLen at hmx; omega, fun _ => ⟨g, 0, rfl, (Array.getElem?_eq_some_iff.1 hnew).1, fun j hj => ?_⟩⟩
    rw [Nat.zero_add, cell_of_row w1 g j C T fz hnew]
    have hj' : us[j]? = some (.int .i64 (l.getD j 0)) := by
      rw [← hl]
      simp [List.getD, List.getElem?_eq_getElem hj]
    rw [← hus, List.getElem?_take] at hj'
    split at hj'
    · simpa using hj'
    · cases hj'
theorem Ints.below {w w' : World} {l : List Int} {s : Value} (h : Ints w s l) (hb : Below w.heap.size w w') : Ints w' s l := by
  obtain ⟨A, c, e, hm, r⟩ := h
  exact ⟨A, c, e, hm, (r.below hb (Nat.le_refl _)).more hb.size⟩
set_option maxRecDepth 100000 in
set_option maxHeartbeats 1000000 in
theorem same_ints {w : World} {l : List Int} {s t : Value} (h1 : Ints w s l) (h2 : Ints w t l) :
    Calls Tryd.prog 8 #[s, t] w fun e w' => e = .returned (.bool true) ∧ Below w.heap.size w w' := by
  obtain ⟨A1, c1, rfl, hm1, r1⟩ := h1
  obtain ⟨A2, c2, rfl, hm2, r2⟩ := h2
  have hmax : (l.length : Int) ≤ 9223372036854775807 := hm1
  go_enter Tryd.func8, Tryd.ntmps8
  go_wp2
  go_loopw [5] (fun m wr => ∃ (i : Nat), m = .int .i64 i ∧ i ≤ l.length ∧ Below w.heap.size w wr) (fun m _ => l.length - (intOf m).toNat)
  case atStart => exact ⟨0, rfl, Nat.zero_le _, Below.refl _ _⟩
  case round =>
    obtain ⟨i, rfl, hi, hbel⟩ := hrel
    rcases Nat.lt_or_ge i l.length with hlt | hge
    · obtain ⟨p1, o1, rfl, hp1, hc1⟩ := r1 (by omega)
      obtain ⟨p2, o2, rfl, hp2, hc2⟩ := r2 (by omega)
      have e1 : wr.cell? ⟨p1, o1 + i, none⟩ = some (.int .i64 (l.getD i 0)) := (hbel.cell (p := ⟨p1, o1 + i, none⟩) hp1).trans (hc1 i hlt)
      have e2 : wr.cell? ⟨p2, o2 + i, none⟩ = some (.int .i64 (l.getD i 0)) := (hbel.cell (p := ⟨p2, o2 + i, none⟩) hp2).trans (hc2 i hlt)
      have hlt' : (i : Int) < (l.length : Int) := by omega
      have h0 : (0 : Int) ≤ (i : Int) := Int.natCast_nonneg _
      generalize l.getD i 0 = x at *
      have hbel' : ∀ n, Below w.heap.size w (wr.drewN n) := fun n => hbel.trans ⟨rfl, rfl, rfl, Nat.le_refl _, fun _ _ => rfl⟩
      have HB := Lib.hid hbel'
      clear hc1 hc2 r1 r2 hbel'
      go_wp2
      go_quiet (fail)
      all_goals
        go_wp2
        go_roundw
        case rel => exact ⟨i + 1, by simp, by omega, HB.out _⟩
        case measure => simp [intOf]; omega
    · obtain rfl : i = l.length := by omega
      go_wp2
      go_ret
      exact ⟨rfl, hbel⟩
end Go.Proofs.YtmljjflimiakfaaDoor.sameI
