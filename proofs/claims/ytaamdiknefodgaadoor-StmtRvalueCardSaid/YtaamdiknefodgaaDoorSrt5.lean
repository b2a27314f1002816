/- Sorted lists: what statements use and move is sorted, in range, and what is moved is used. -/
import Derived.Test.YtaamdiknefodgaaDoorLists5
namespace Go.Proofs.YtaamdiknefodgaaDoor.Am
set_option linter.unusedVariables false
/-- each less than the next ones -/
def Incr : List Int → Prop
  | [] => True
  | a :: r => (∀ b ∈ r, a < b) ∧ Incr r
theorem insU_incr {a : Int} : ∀ {l : List Int}, Incr l → Incr (insU a l)
  | [], _ => ⟨fun _ h => (by cases h), trivial⟩
  | b :: r, ⟨h1, h2⟩ => by
    unfold insU
    split
    · rename_i hab
      refine ⟨fun c hc => ?_, h1, h2⟩
      rcases List.mem_cons.1 hc with rfl | hc
      · exact hab
      · have := h1 c hc; omega
    · split
      · exact ⟨h1, h2⟩
      · refine ⟨fun c hc => ?_, insU_incr h2⟩
        rcases insU_mem.1 hc with rfl | hc
        · omega
        · exact h1 c hc
theorem srtU_incr : ∀ l : List Int, Incr (srtU l)
  | [] => trivial
  | _ :: r => insU_incr (srtU_incr r)
/-- where the numbers of a list stand in another one -/
theorem incr_places : ∀ {a b : List Int}, Incr a → Incr b → (∀ x ∈ a, x ∈ b) → ∃ ps : List Nat, ps.map (fun i => b[i]?) = a.map some ∧ ps.Pairwise (· < ·)
  | [], _, _, _, _ => ⟨[], rfl, .nil⟩
  | x :: a, [], _, _, h => absurd (h x (List.mem_cons_self ..)) (by simp)
  | x :: a, y :: b, ha, hb, h => by
    by_cases e : x = y
    · subst e
      obtain ⟨ps, h1, h2⟩ := incr_places ha.2 hb.2 fun z hz => by
        rcases List.mem_cons.1 (h z (List.mem_cons_of_mem _ hz)) with rfl | hz'
        · have := ha.1 z hz; omega
        · exact hz'
      refine ⟨0 :: ps.map (· + 1), ?_, ?_⟩
      · simp only [List.map_cons, List.map_map, List.getElem?_cons_zero]
        rw [← h1]
        congr 1
      · refine List.pairwise_cons.2 ⟨fun p hp => ?_, ?_⟩
        · obtain ⟨q, _, rfl⟩ := List.mem_map.1 hp
          omega
        · exact List.pairwise_map.2 (h2.imp fun h => by omega)
    · have hx : x ∈ b := by
        rcases List.mem_cons.1 (h x (List.mem_cons_self ..)) with h | h
        · exact absurd h e
        · exact h
      obtain ⟨ps, h1, h2⟩ := incr_places ha hb.2 fun z hz => by
        rcases List.mem_cons.1 (h z hz) with rfl | hz'
        · have h3 := hb.1 x hx
          rcases List.mem_cons.1 hz with rfl | hz
          · omega
          · have := ha.1 z hz; omega
        · exact hz'
      refine ⟨ps.map (· + 1), ?_, List.pairwise_map.2 (h2.imp fun h => by omega)⟩
      rw [← h1, List.map_map]
      congr 1
theorem insU_len (a : Int) : ∀ l : List Int, (insU a l).length ≤ l.length + 1
  | [] => Nat.le_refl _
  | b :: r => by
    unfold insU
    have := insU_len a r
    split
    · simp
    · split
      · simp
      · simp only [List.length_cons]; omega
theorem srtU_len : ∀ l : List Int, (srtU l).length ≤ l.length
  | [] => Nat.le_refl _
  | a :: r => by
    have h1 := insU_len a (srtU r)
    have h2 := srtU_len r
    simp only [srtU, List.length_cons]
    omega
theorem opU_len (o : Opd) : (opU o).length ≤ 1 := by unfold opU; split <;> simp
theorem opM_len (o : Opd) : (opM o).length ≤ 1 := by unfold opM; split <;> simp
theorem rvU_len (r : Rv) : (rvU r).length ≤ 2 := by
  have h1 := opU_len r.a
  have h2 := opU_len r.b
  have h3 := srtU_len (opU r.a ++ opU r.b)
  rw [List.length_append] at h3
  unfold rvU
  split
  · omega
  · split
    · omega
    · simp
theorem rvM_len (r : Rv) : (rvM r).length ≤ 2 := by
  have h1 := opM_len r.a
  have h2 := opM_len r.b
  have h3 := srtU_len (opM r.a ++ opM r.b)
  rw [List.length_append] at h3
  unfold rvM
  split
  · omega
  · split
    · omega
    · simp
theorem stU_len (s : Stm) : (stU s).length ≤ 3 := by
  have h1 := rvU_len s.r
  have h2 := insU_len s.l (rvU s.r)
  have h3 := opU_len s.a
  unfold stU
  split
  · split <;> omega
  · split
    · simp
    · omega
theorem stM_len (s : Stm) : (stM s).length ≤ 2 := by
  have h1 := rvM_len s.r
  have h3 := opM_len s.a
  unfold stM
  split
  · omega
  · split
    · simp
    · omega
/-! in range; moved is used -/
def In16 (l : List Int) : Prop := ∀ x ∈ l, 0 ≤ x ∧ x ≤ 15
theorem opU_in {o : Opd} (h : o.Ok) : In16 (opU o) ∧ Incr (opU o) := by
  unfold opU
  rcases h with ⟨h1, _⟩ | ⟨h1, _, h3⟩
  · rw [if_pos h1]
    exact ⟨fun x hx => (by cases hx), trivial⟩
  · rw [if_neg (by omega)]
    exact ⟨fun x hx => by rw [List.mem_singleton.1 hx]; exact ⟨h3.l0, h3.l1⟩, ⟨fun _ h => (by cases h), trivial⟩⟩
theorem opM_sub {o : Opd} (h : o.Ok) : (∀ x ∈ opM o, x ∈ opU o) ∧ Incr (opM o) := by
  unfold opM opU
  split
  · rename_i hk
    rw [if_neg (by omega)]
    exact ⟨fun x hx => hx, ⟨fun _ h => (by cases h), trivial⟩⟩
  · exact ⟨fun x hx => (by cases hx), trivial⟩
theorem rvU_in {r : Rv} (h : r.Ok) : In16 (rvU r) ∧ Incr (rvU r) := by
  have two : r.a.Ok → r.b.Ok → In16 (srtU (opU r.a ++ opU r.b)) := fun ha hb x hx => by
    rcases List.mem_append.1 (srtU_mem.1 hx) with hx | hx
    · exact (opU_in ha).1 x hx
    · exact (opU_in hb).1 x hx
  have one : InP r.l r.f → In16 [r.l] ∧ Incr [r.l] := fun hp => ⟨fun x hx => by rw [List.mem_singleton.1 hx]; exact ⟨hp.l0, hp.l1⟩, ⟨fun _ h => (by cases h), trivial⟩⟩
  unfold rvU
  rcases h with ⟨hk, ha, _⟩ | ⟨hk, ha, hb, _⟩ | ⟨hk, ha, hb, _⟩ | ⟨hk, _, _, _, _, hp⟩ | ⟨hk, _, _, _, _, hp⟩
  · rw [if_pos hk]
    exact opU_in ha
  · rw [if_neg (by omega), if_pos (by omega)]
    exact ⟨two ha hb, srtU_incr _⟩
  · rw [if_neg (by omega), if_pos (by omega)]
    exact ⟨two ha hb, srtU_incr _⟩
  · rw [if_neg (by omega), if_neg (by omega)]
    exact one hp
  · rw [if_neg (by omega), if_neg (by omega)]
    exact one hp
theorem rvM_sub {r : Rv} (h : r.Ok) : (∀ x ∈ rvM r, x ∈ rvU r) ∧ Incr (rvM r) := by
  have two : r.a.Ok → r.b.Ok → ∀ x ∈ srtU (opM r.a ++ opM r.b), x ∈ srtU (opU r.a ++ opU r.b) := fun ha hb x hx => by
    rcases List.mem_append.1 (srtU_mem.1 hx) with hx | hx
    · exact srtU_mem.2 (List.mem_append.2 (.inl ((opM_sub ha).1 x hx)))
    · exact srtU_mem.2 (List.mem_append.2 (.inr ((opM_sub hb).1 x hx)))
  unfold rvM rvU
  rcases h with ⟨hk, ha, _⟩ | ⟨hk, ha, hb, _⟩ | ⟨hk, ha, hb, _⟩ | ⟨hk, _⟩ | ⟨hk, _⟩
  · rw [if_pos hk, if_pos hk]
    exact opM_sub ha
  · rw [if_neg (by omega), if_pos (by omega), if_neg (by omega), if_pos (by omega)]
    exact ⟨two ha hb, srtU_incr _⟩
  · rw [if_neg (by omega), if_pos (by omega), if_neg (by omega), if_pos (by omega)]
    exact ⟨two ha hb, srtU_incr _⟩
  · rw [if_neg (by omega), if_neg (by omega)]
    exact ⟨fun x hx => (by cases hx), trivial⟩
  · rw [if_neg (by omega), if_neg (by omega)]
    exact ⟨fun x hx => (by cases hx), trivial⟩
theorem stU_in {s : Stm} (h : s.Ok) : In16 (stU s) ∧ Incr (stU s) := by
  unfold stU
  rcases h with ⟨hk, hp, hr, _⟩ | ⟨hk, _, _, _, _, ha, _⟩ | ⟨hk, _⟩
  · rw [if_pos hk]
    split
    · refine ⟨fun x hx => ?_, insU_incr (rvU_in hr).2⟩
      rcases insU_mem.1 hx with rfl | hx
      · exact ⟨hp.l0, hp.l1⟩
      · exact (rvU_in hr).1 x hx
    · exact rvU_in hr
  · rw [if_neg (by omega), if_neg (by omega)]
    exact opU_in ha
  · rw [if_neg (by omega), if_pos hk]
    exact ⟨fun x hx => (by cases hx), trivial⟩
theorem stM_sub {s : Stm} (h : s.Ok) : (∀ x ∈ stM s, x ∈ stU s) ∧ Incr (stM s) := by
  unfold stM stU
  rcases h with ⟨hk, hp, hr, _⟩ | ⟨hk, _, _, _, _, ha, _⟩ | ⟨hk, _⟩
  · rw [if_pos hk, if_pos hk]
    refine ⟨fun x hx => ?_, (rvM_sub hr).2⟩
    have := (rvM_sub hr).1 x hx
    split
    · exact insU_mem.2 (.inr this)
    · exact this
  · rw [if_neg (by omega), if_neg (by omega), if_neg (by omega), if_neg (by omega)]
    exact opM_sub ha
  · rw [if_neg (by omega), if_pos hk]
    exact ⟨fun x hx => (by cases hx), trivial⟩
theorem incr_lt : ∀ {l : List Int}, Incr l → ∀ {i j : Nat} {x y : Int}, i < j → l[i]? = some x → l[j]? = some y → x < y
  | [], _, _, _, _, _, _, h, _ => by simp at h
  | a :: l, ⟨h1, h2⟩, 0, j + 1, x, y, _, hx, hy => by
    simp only [List.getElem?_cons_zero, Option.some.injEq] at hx
    subst hx
    exact h1 y (List.mem_of_getElem? (by simpa using hy))
  | a :: l, ⟨h1, h2⟩, i + 1, j + 1, x, y, hij, hx, hy => incr_lt h2 (i := i) (j := j) (by omega) (by simpa using hx) (by simpa using hy)
end Go.Proofs.YtaamdiknefodgaaDoor.Am
