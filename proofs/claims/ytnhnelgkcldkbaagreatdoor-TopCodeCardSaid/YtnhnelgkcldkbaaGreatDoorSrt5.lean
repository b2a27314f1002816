/- Sorted lists: what statements use and move is sorted, in range, and what is moved is used. -/
import Derived.Test.YtnhnelgkcldkbaaGreatDoorUses45
namespace Go.Proofs.YtnhnelgkcldkbaaGreatDoor.Am
set_option linter.unusedVariables false
/-- each less than the next ones -/
def Incr : List Int → Prop
  | [] => True
  | a :: r => (∀ b ∈ r, a < b) ∧ Incr r
theorem insU_incr {a : Int} : ∀ {l : List Int}, Incr l → Incr (insU a l)
  | [], _ => ⟨fun _ h => (by cases h), trivial⟩
  | b :: r, ⟨h1, h2⟩ => by
    unfold insU
    split
    · rename_i hab
      refine ⟨fun c hc => ?_, h1, h2⟩
      rcases List.mem_cons.1 hc with rfl | hc
      · exact hab
      · have := h1 c hc; omega
    · split
      · exact ⟨h1, h2⟩
      · refine ⟨fun c hc => ?_, insU_incr h2⟩
        rcases insU_mem.1 hc with rfl | hc
        · omega
        · exact h1 c hc
theorem srtU_incr : ∀ l : List Int, Incr (srtU l)
  | [] => trivial
  | _ :: r => insU_incr (srtU_incr r)
theorem insU_len (a : Int) : ∀ l : List Int, (insU a l).length ≤ l.length + 1
  | [] => Nat.le_refl _
  | b :: r => by
    unfold insU
    have := insU_len a r
    split
    · simp
    · split
      · simp
      · simp only [List.length_cons]; omega
theorem srtU_len : ∀ l : List Int, (srtU l).length ≤ l.length
  | [] => Nat.le_refl _
  | a :: r => by
    have h1 := insU_len a (srtU r)
    have h2 := srtU_len r
    simp only [srtU, List.length_cons]
    omega
theorem opU_len (o : Opd) : (opU o).length ≤ 1 := by unfold opU; split <;> simp
theorem rvU_len (r : Rv) : (rvU r).length ≤ 2 := by
  have h1 := opU_len r.a
  have h2 := opU_len r.b
  have h3 := srtU_len (opU r.a ++ opU r.b)
  rw [List.length_append] at h3
  unfold rvU
  split
  · omega
  · split
    · omega
    · simp
/-! in range; moved is used -/
def In16 (l : List Int) : Prop := ∀ x ∈ l, 0 ≤ x ∧ x ≤ 15
theorem opU_in {o : Opd} (h : o.Ok) : In16 (opU o) ∧ Incr (opU o) := by
  unfold opU
  rcases h with ⟨h1, _⟩ | ⟨h1, _, h3⟩
  · rw [if_pos h1]
    exact ⟨fun x hx => (by cases hx), trivial⟩
  · rw [if_neg (by omega)]
    exact ⟨fun x hx => by rw [List.mem_singleton.1 hx]; exact ⟨h3.l0, h3.l1⟩, ⟨fun _ h => (by cases h), trivial⟩⟩
theorem rvU_in {r : Rv} (h : r.Ok) : In16 (rvU r) ∧ Incr (rvU r) := by
  have two : r.a.Ok → r.b.Ok → In16 (srtU (opU r.a ++ opU r.b)) := fun ha hb x hx => by
    rcases List.mem_append.1 (srtU_mem.1 hx) with hx | hx
    · exact (opU_in ha).1 x hx
    · exact (opU_in hb).1 x hx
  have one : InP r.l r.f → In16 [r.l] ∧ Incr [r.l] := fun hp => ⟨fun x hx => by rw [List.mem_singleton.1 hx]; exact ⟨hp.l0, hp.l1⟩, ⟨fun _ h => (by cases h), trivial⟩⟩
  unfold rvU
  rcases h with ⟨hk, ha, _⟩ | ⟨hk, ha, hb, _⟩ | ⟨hk, ha, hb, _⟩ | ⟨hk, _, _, _, _, hp⟩ | ⟨hk, _, _, _, _, hp⟩
  · rw [if_pos hk]
    exact opU_in ha
  · rw [if_neg (by omega), if_pos (by omega)]
    exact ⟨two ha hb, srtU_incr _⟩
  · rw [if_neg (by omega), if_pos (by omega)]
    exact ⟨two ha hb, srtU_incr _⟩
  · rw [if_neg (by omega), if_neg (by omega)]
    exact one hp
  · rw [if_neg (by omega), if_neg (by omega)]
    exact one hp
theorem incr_lt : ∀ {l : List Int}, Incr l → ∀ {i j : Nat} {x y : Int}, i < j → l[i]? = some x → l[j]? = some y → x < y
  | [], _, _, _, _, _, _, h, _ => by simp at h
  | a :: l, ⟨h1, h2⟩, 0, j + 1, x, y, _, hx, hy => by
    simp only [List.getElem?_cons_zero, Option.some.injEq] at hx
    subst hx
    exact h1 y (List.mem_of_getElem? (by simpa using hy))
  | a :: l, ⟨h1, h2⟩, i + 1, j + 1, x, y, hij, hx, hy => incr_lt h2 (i := i) (j := j) (by omega) (by simpa using hx) (by simpa using hy)
end Go.Proofs.YtnhnelgkcldkbaaGreatDoor.Am
