/- The points of a function and its loans, plain. (No program in sight.) -/
import Derived.Test.YthdcahkedlijpaaGreatFn1
namespace Go.Proofs.YthdcahkedlijpaaGreat.loan
open Go.RowKit Go.Proofs.YthdcahkedlijpaaGreat Go.Proofs.YthdcahkedlijpaaGreat.Am
set_option linter.unusedVariables false
def lenB (bs : List BlkD) (i : Nat) : Nat := (bs.getD i b0).st.length
def startOf (bs : List BlkD) : Nat → Nat
  | 0 => 0
  | i + 1 => startOf bs i + (lenB bs i + 1)
def rowPts (i n : Nat) : List (Nat × Nat) := (List.range n).map fun k => (i, k)
def ptsTo (bs : List BlkD) : Nat → List (Nat × Nat)
  | 0 => []
  | i + 1 => ptsTo bs i ++ rowPts i (lenB bs i + 1)
def ptsAt (bs : List BlkD) (i k : Nat) : List (Nat × Nat) := ptsTo bs i ++ rowPts i k
section
variable {bs : List BlkD} {i j k n N : Nat}
theorem row_len (i n : Nat) : (rowPts i n).length = n := by simp [rowPts]
theorem to_len (bs : List BlkD) : ∀ i, (ptsTo bs i).length = startOf bs i
  | 0 => rfl
  | i + 1 => by
    show (ptsTo bs i ++ rowPts i (lenB bs i + 1)).length = _
    rw [List.length_append, to_len bs i, row_len]
    rfl
theorem row_next : rowPts i (k + 1) = rowPts i k ++ [(i, k)] := by simp [rowPts, List.range_succ]
theorem at_next : ptsAt bs i (k + 1) = ptsAt bs i k ++ [(i, k)] := by
  unfold ptsAt
  rw [row_next, List.append_assoc]
theorem at_roll : ptsAt bs i (lenB bs i + 1) = ptsAt bs (i + 1) 0 := by
  show _ = (ptsTo bs i ++ rowPts i (lenB bs i + 1)) ++ rowPts (i + 1) 0
  simp [ptsAt, rowPts]
theorem at_zero : ptsAt bs i 0 = ptsTo bs i := by simp [ptsAt, rowPts]
theorem to_pre (h : i ≤ j) : ∃ t, ptsTo bs j = ptsTo bs i ++ t := by
  induction j with
  | zero => exact ⟨[], by rw [show i = 0 by omega]; simp⟩
  | succ j ih =>
    by_cases hij : i = j + 1
    · exact ⟨[], by rw [hij]; simp⟩
    · obtain ⟨t, e⟩ := ih (by omega)
      exact ⟨t ++ rowPts j (lenB bs j + 1), by show ptsTo bs j ++ _ = _; rw [e, List.append_assoc]⟩
theorem pt_get (hi : i < N) (hk : k ≤ lenB bs i) : (ptsTo bs N)[startOf bs i + k]? = some (i, k) := by
  obtain ⟨t, e⟩ := to_pre (bs := bs) (i := i + 1) (j := N) (by omega)
  have h2 : ptsTo bs (i + 1) = ptsTo bs i ++ rowPts i (lenB bs i + 1) := rfl
  rw [e, h2, List.append_assoc, List.getElem?_append_right (by rw [to_len]; omega), to_len, show startOf bs i + k - startOf bs i = k by omega, List.getElem?_append_left (by rw [row_len]; omega)]
  simp [rowPts, show k < lenB bs i + 1 by omega]
theorem pt_ex (h : n < startOf bs N) : ∃ i k, i < N ∧ k ≤ lenB bs i ∧ n = startOf bs i + k := by
  induction N with
  | zero => exact absurd h (by show ¬ n < 0; omega)
  | succ N ih =>
    by_cases hn : n < startOf bs N
    · obtain ⟨i, k, h1, h2, h3⟩ := ih hn
      exact ⟨i, k, by omega, h2, h3⟩
    · have h2 : startOf bs (N + 1) = startOf bs N + (lenB bs N + 1) := rfl
      exact ⟨N, n - startOf bs N, by omega, by omega, by omega⟩
theorem start_le (hs : ∀ i, lenB bs i ≤ 24) : ∀ i, startOf bs i ≤ 25 * i
  | 0 => Nat.le_refl _
  | i + 1 => by
    have h1 := start_le hs i
    have h2 : startOf bs (i + 1) = startOf bs i + (lenB bs i + 1) := rfl
    have := hs i
    omega
theorem getD_mem {b : BlkD} (h : bs[i]? = some b) : bs.getD i b0 = b := by rw [List.getD_eq_getElem?_getD, h]; rfl
theorem lenB_of {b : BlkD} (h : bs[i]? = some b) : lenB bs i = b.st.length := by unfold lenB; rw [getD_mem h]
theorem lenB_le (h : ∀ b ∈ bs, b.st.length ≤ 24) (i : Nat) : lenB bs i ≤ 24 := by
  unfold lenB
  rcases get_or (l := bs) (i := i) (d := b0) with k | k
  · exact h _ k
  · rw [k]; decide
end
def whole (el : List Value) : Bool := decide (cellI el 2 = 0) && decide (cellI el 3 = 0)
def isRef (el : List Value) : Bool := decide (cellI el 0 = 1) && decide (cellI el 4 = 4)
def cel (el : List Value) (c : Nat) : Value := el.getD c (.bool false)
def lnS (n : Nat) (el : List Value) : List Value := [.int .i64 n, cel el 17, cel el 18, cel el 19, cel el 6, .int .i64 (if whole el then cellI el 1 else -1)]
def stP (bs : List BlkD) (p : Nat × Nat) : Option (List Value) := (bs.getD p.1 b0).st[p.2]?
def stN (bs : List BlkD) (n : Nat) : Option (List Value) := ((ptsTo bs bs.length)[n]?).bind (stP bs)
def lnN (bs : List BlkD) (n : Nat) : Option (List Value) := (stN bs n).bind fun el => if isRef el then some (lnS n el) else none
def lns (bs : List BlkD) (n : Nat) : List (List Value) := (List.range n).filterMap (lnN bs)
section
variable {bs : List BlkD} {i j k n N : Nat} {el x : List Value}
theorem st_at (hi : i < bs.length) (hk : k ≤ lenB bs i) : stN bs (startOf bs i + k) = (bs.getD i b0).st[k]? := by
  unfold stN
  rw [pt_get hi hk]
  rfl
theorem ln_some (h : stN bs n = some el) (hr : isRef el = true) : lnN bs n = some (lnS n el) := by unfold lnN; rw [h]; show (if isRef el = true then _ else _) = _; rw [if_pos hr]
theorem ln_no (h : stN bs n = some el) (hr : isRef el = false) : lnN bs n = none := by
  unfold lnN
  rw [h]
  show (if isRef el = true then _ else _) = _
  rw [hr]
  rfl
theorem ln_none (h : stN bs n = none) : lnN bs n = none := by unfold lnN; rw [h]; rfl
theorem lns_zero : lns bs 0 = [] := rfl
theorem lns_some (h : lnN bs n = some x) : lns bs (n + 1) = lns bs n ++ [x] := by
  unfold lns
  rw [List.range_succ, List.filterMap_append]
  simp [h]
theorem lns_none (h : lnN bs n = none) : lns bs (n + 1) = lns bs n := by
  unfold lns
  rw [List.range_succ, List.filterMap_append]
  simp [h]
theorem lns_len (n : Nat) : (lns bs n).length ≤ n := by
  unfold lns
  refine Nat.le_trans (List.length_filterMap_le _ _) ?_
  rw [List.length_range]
  exact Nat.le_refl _
theorem lnN_len (h : lnN bs n = some x) : x.length = 6 := by
  unfold lnN at h
  cases hs : stN bs n with
  | none => rw [hs] at h; cases h
  | some el =>
    rw [hs] at h
    have h : (if isRef el = true then some (lnS n el) else none) = some x := h
    cases hr : isRef el with
    | true => rw [if_pos hr] at h; cases h; rfl
    | false => rw [if_neg (by rw [hr]; decide)] at h; cases h
theorem lns_6 (h : x ∈ lns bs n) : x.length = 6 := by
  obtain ⟨m, _, hm⟩ := List.mem_filterMap.1 h
  exact lnN_len hm
end
end Go.Proofs.YthdcahkedlijpaaGreat.loan
