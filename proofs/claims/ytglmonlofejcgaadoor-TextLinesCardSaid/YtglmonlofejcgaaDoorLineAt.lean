/- Which line of a function's text a point stands on. In plain words. -/
import Derived.Test.YtglmonlofejcgaaDoorTextR
import Derived.Test.YtglmonlofejcgaaDoorLoanK
namespace Go.Proofs.YtglmonlofejcgaaDoor.txt
open Go.RowKit Go.Proofs.YtglmonlofejcgaaDoor Go.Proofs.YtglmonlofejcgaaDoor.Am Go.Proofs.YtglmonlofejcgaaDoor.loan
set_option linter.unusedVariables false
theorem lenB_st (bs : List BlkD) (i : Nat) : lenB bs i = (bs.getD i noB).st.length := by
 unfold lenB
 rw [List.getD_eq_getElem?_getD, List.getD_eq_getElem?_getD]
 cases bs[i]? <;> rfl
theorem blkL_size (i : Nat) (b : BlkD) : (blkL i b).length = b.st.length + 2 := by unfold blkL; simp
theorem blks_size (D : FnD) : ∀ i, (blksTo D i).length = startOf D.bs i + i
 | 0 => rfl
 | i + 1 => by
  rw [blks_next, List.length_append, blks_size D i, blkL_size, ← lenB_st]
  show _ = startOf D.bs i + (lenB D.bs i + 1) + (i + 1)
  omega
theorem blks_more (D : FnD) (i : Nat) : ∀ d, ∃ R, blksTo D (i + 1 + d) = blksTo D i ++ (blkL i (D.bs.getD i noB) ++ R)
 | 0 => ⟨[], by rw [Nat.add_zero, blks_next, List.append_nil]⟩
 | d + 1 => by
  obtain ⟨R, h⟩ := blks_more D i d
  refine ⟨R ++ blkL (i + 1 + d) (D.bs.getD (i + 1 + d) noB), ?_⟩
  rw [← Nat.add_assoc, blks_next, h]
  simp [List.append_assoc]
def lineAt (D : FnD) (i k : Nat) : Nat := D.ls.length + 2 + k + startOf D.bs i + i
def pointL (b : BlkD) (k : Nat) : List UInt8 := match b.st[k]? with
 | some s => stL s
 | none => jmL b
theorem line_at {D : FnD} {n : Int} {i k : Nat} (hi : i < D.bs.length) (hk : k ≤ lenB D.bs i) : (linesF D n)[lineAt D i k]? = some (pointL (D.bs.getD i noB) k) := by
 obtain ⟨R, hR⟩ := blks_more D i (D.bs.length - (i + 1))
 rw [show i + 1 + (D.bs.length - (i + 1)) = D.bs.length by omega] at hR
 rw [lenB_st] at hk
 unfold linesF lineAt
 rw [hR, show D.ls.length + 2 + k + startOf D.bs i + i = (D.ls.length + ((startOf D.bs i + i) + (k + 1))) + 1 by omega, List.getElem?_cons_succ, List.getElem?_append_right (by rw [locs_len]; omega), locs_len, Nat.add_sub_cancel_left, List.getElem?_append_right (by rw [blks_size]; omega), blks_size, Nat.add_sub_cancel_left, List.getElem?_append_left (by rw [blkL_size]; omega)]
 unfold blkL pointL
 rw [List.getElem?_cons_succ]
 rcases Nat.lt_or_ge k (D.bs.getD i noB).st.length with h | h
 ·rw [List.getElem?_append_left (by rw [List.length_map]; exact h), List.getElem?_map, List.getElem?_eq_getElem h]
  rfl
 ·obtain rfl : k = (D.bs.getD i noB).st.length := by omega
  rw [List.getElem?_append_right (by rw [List.length_map]; exact Nat.le_refl _), List.length_map, Nat.sub_self, List.getElem?_eq_none (Nat.le_refl _)]
  rfl
theorem lines_size (D : FnD) (n : Int) : (linesF D n).length = D.ls.length + 1 + startOf D.bs D.bs.length + D.bs.length := by
 unfold linesF
 rw [List.length_cons, List.length_append, locs_len, blks_size]
 omega
def LastIs (D : FnD) (m : Nat) (t : Int) : Prop := (m = 0 ∧ t = -1) ∨ ∃ i k, i < D.bs.length ∧ k ≤ lenB D.bs i ∧ m = startOf D.bs i + k + 1 ∧ t = (lineAt D i k : Nat)
theorem LastIs.start (D : FnD) : LastIs D 0 (-1) := .inl ⟨rfl, rfl⟩
theorem LastIs.next {D : FnD} {i k : Nat} (hi : i < D.bs.length) (hk : k ≤ lenB D.bs i) : LastIs D (startOf D.bs i + k + 1) (lineAt D i k : Nat) := .inr ⟨i, k, hi, hk, rfl, rfl⟩
theorem LastIs.lt {D : FnD} {i k : Nat} {t : Int} (hk : k ≤ lenB D.bs i) (h : LastIs D (startOf D.bs i + k) t) : t < (lineAt D i k : Nat) := by
 rcases h with ⟨_, rfl⟩ | ⟨a, c, ha, hc, he, rfl⟩
 ·omega
 ·have h2 : startOf D.bs (i + 1) = startOf D.bs i + (lenB D.bs i + 1) := rfl
  have hle : a ≤ i := by
   rcases Nat.lt_or_ge i a with h | h
   ·have := start_mono (bs := D.bs) (i := i + 1) (j := a) h
    omega
   ·exact h
  unfold lineAt
  omega
theorem LastIs.stop {D : FnD} {n t : Int} (h0 : 0 < D.bs.length) (h : LastIs D (startOf D.bs D.bs.length) t) : t = ((linesF D n).length : Int) - 1 := by
 rw [lines_size]
 rcases h with ⟨h, _⟩ | ⟨a, c, ha, hc, he, rfl⟩
 ·have := start_up (bs := D.bs) D.bs.length
  omega
 ·have h2 : startOf D.bs (a + 1) = startOf D.bs a + (lenB D.bs a + 1) := rfl
  have hle : a + 1 = D.bs.length := by
   rcases Nat.lt_or_ge (a + 1) D.bs.length with h | h
   ·have := start_mono (bs := D.bs) (i := a + 2) (j := D.bs.length) h
    have h3 : startOf D.bs (a + 2) = startOf D.bs (a + 1) + (lenB D.bs (a + 1) + 1) := rfl
    omega
   ·omega
  have h4 := h2
  rw [hle] at h4
  unfold lineAt
  omega
theorem line_lt {D : FnD} {n : Int} {i k : Nat} (hi : i < D.bs.length) (hk : k ≤ lenB D.bs i) : lineAt D i k < (linesF D n).length := by
 rcases Nat.lt_or_ge (lineAt D i k) (linesF D n).length with h | h
 ·exact h
 ·have := line_at (n := n) hi hk
  rw [List.getElem?_eq_none h] at this
  cases this
end Go.Proofs.YtglmonlofejcgaaDoor.txt
