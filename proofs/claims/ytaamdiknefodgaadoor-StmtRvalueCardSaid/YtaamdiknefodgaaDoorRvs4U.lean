/- Rvalues as lists of cells: parts, equality, lengths of texts. -/
import Derived.Test.YtaamdiknefodgaaDoorTexts4RU
import Derived.Test.YtaamdiknefodgaaDoorAmFact
namespace Go.Proofs.YtaamdiknefodgaaDoor.Am
open Go.RowKit
set_option linter.unusedVariables false

/-- the cells' ranges -/
theorem ok_at {ks : List Kd} {us : List Value} (h : All2 Kd.ok ks us) {i : Nat} {k : Kd} (hi : ks[i]? = some k) : k.iv.1 ≤ cellI us i ∧ cellI us i ≤ k.iv.2 := by
  obtain ⟨v, hv, hk⟩ := All2.nth h (n := i) (x := k) (by rw [nth_eq]; exact hi)
  have e : cellI us i = codeI v := by simp [cellI, hv]
  rw [e]
  exact Kd.iv_ok hk
theorem ok_i64 {ks : List Kd} {us : List Value} (h : All2 Kd.ok ks us) {i : Nat} (hi : ks[i]? = some (.i .i64)) : I64 (cellI us i) := ok_at h hi
theorem ok_u8 {ks : List Kd} {us : List Value} (h : All2 Kd.ok ks us) {i : Nat} (hi : ks[i]? = some (.i .u8)) : 0 ≤ cellI us i := (ok_at h hi).1
theorem ok_b {ks : List Kd} {us : List Value} (h : All2 Kd.ok ks us) {i : Nat} (hi : ks[i]? = some .b) : cellI us i = 0 ∨ cellI us i = 1 := by
  have h1 : (0 : Int) ≤ cellI us i ∧ cellI us i ≤ 1 := ok_at h hi
  omega
theorem rvR_ok {us : List Value} (h : All2 Kd.ok kRv us) : RvR us 0 := ⟨ok_i64 h rfl, ok_i64 h rfl, ok_u8 h rfl, ok_u8 h rfl, ok_u8 h rfl⟩
theorem dec1 {x y : Int} (hx : x = 0 ∨ x = 1) (hy : y = 0 ∨ y = 1) (h : decide (x = 1) = decide (y = 1)) : x = y := by
  rcases hx with rfl | rfl <;> rcases hy with rfl | rfl <;> first | rfl | exact absurd h (by decide)
theorem op_eq {us vs : List Value} (hu : All2 Kd.ok kOp us) (hv : All2 Kd.ok kOp vs) : opdAt us 0 = opdAt vs 0 ↔ ∀ i, i < 5 → cellI us i = cellI vs i := by
  constructor
  · intro e
    simp only [opdAt, Opd.mk.injEq, Nat.zero_add] at e
    obtain ⟨e0, e1, e2, e3, e4⟩ := e
    intro i hi
    match i, hi with
    | 0, _ => exact e0
    | 1, _ => exact e1
    | 2, _ => exact e2
    | 3, _ => exact dec1 (ok_b hu rfl) (ok_b hv rfl) e3
    | 4, _ => exact e4
  · intro h
    simp only [opdAt, Nat.zero_add, h 0 (by decide), h 1 (by decide), h 2 (by decide), h 3 (by decide), h 4 (by decide)]
theorem rv_eq {us vs : List Value} (hu : All2 Kd.ok kRv us) (hv : All2 Kd.ok kRv vs) : rvAt us 0 = rvAt vs 0 ↔ ∀ i, i < 16 → cellI us i = cellI vs i := by
  constructor
  · intro e
    simp only [rvAt, opdAt, Rv.mk.injEq, Opd.mk.injEq, Nat.zero_add, Nat.reduceAdd] at e
    obtain ⟨e0, ⟨e3, e4, e5, e6, e7⟩, ⟨e8, e9, e10, e11, e12⟩, e1, e2, e13, e14, e15⟩ := e
    intro i hi
    match i, hi with
    | 0, _ => exact e0
    | 1, _ => exact e1
    | 2, _ => exact e2
    | 3, _ => exact e3
    | 4, _ => exact e4
    | 5, _ => exact e5
    | 6, _ => exact dec1 (ok_b hu rfl) (ok_b hv rfl) e6
    | 7, _ => exact e7
    | 8, _ => exact e8
    | 9, _ => exact e9
    | 10, _ => exact e10
    | 11, _ => exact dec1 (ok_b hu rfl) (ok_b hv rfl) e11
    | 12, _ => exact e12
    | 13, _ => exact e13
    | 14, _ => exact dec1 (ok_b hu rfl) (ok_b hv rfl) e14
    | 15, _ => exact e15
    | n + 16, hi => exact absurd hi (by omega)
  · intro h
    simp only [rvAt, opdAt, Nat.zero_add, Nat.reduceAdd, h 0 (by decide), h 1 (by decide), h 2 (by decide), h 3 (by decide), h 4 (by decide), h 5 (by decide), h 6 (by decide), h 7 (by decide), h 8 (by decide), h 9 (by decide), h 10 (by decide), h 11 (by decide), h 12 (by decide), h 13 (by decide), h 14 (by decide), h 15 (by decide)]
theorem zs_sub {us : List Value} {n m o k : Nat} (h : o + k ≤ m) : (E.zero (zs o k)).val ((us.drop n).take m) = (E.zero (zs (n + o) k)).val us := by
  simp only [E.val, zs, List.all_map]
  rw [Bool.eq_iff_iff, List.all_eq_true, List.all_eq_true]
  constructor <;> intro hh i hi <;> have hi' := List.mem_range.1 hi <;> have := hh i hi <;> simp only [Function.comp, decide_eq_true_eq] at this ⊢
  · rw [cellI_sub (by omega)] at this
    rw [show n + o + i = n + (o + i) by omega]
    exact this
  · rw [cellI_sub (by omega), show n + (o + i) = n + o + i by omega]
    exact this
theorem one_sub {us : List Value} {n m i : Nat} {c : Int} (h : i < m) : (E.zero [(i, c)]).val ((us.drop n).take m) = (E.zero [(n + i, c)]).val us := by
  simp only [E.val, List.all_cons, List.all_nil, Bool.and_true, cellI_sub h]
theorem plo_sub {us : List Value} {n m o : Nat} (h : o + 2 < m) : (okPlE o).val ((us.drop n).take m) = (okPlE (n + o)).val us := by
  simp only [okPlE, E.ands, E.val, cellI_sub (show o < m by omega), cellI_sub h, Nat.add_assoc]
theorem op_sub {us : List Value} {n : Nat} : (okOpE 0).val ((us.drop n).take 5) = (okOpE n).val us := by
  have e : ∀ (vs : List Value) (a : Nat), (okOpE a).val vs = ((E.zero [(a, 1)]).val vs && (E.zero (zs (a + 2) 3)).val vs || ((E.zero [(a, 2)]).val vs || (E.zero [(a, 3)]).val vs) && ((E.zero [(a + 1, 0)]).val vs && (okPlE (a + 2)).val vs)) := fun _ _ => rfl
  rw [e, e, one_sub (by decide), one_sub (by decide), one_sub (by decide), one_sub (by decide), zs_sub (by decide), plo_sub (by decide)]
  rfl
theorem pl_sub {us : List Value} {n : Nat} : (okPlE 0).val ((us.drop n).take 3) = (okPlE n).val us := plo_sub (by decide)
theorem opd_sub {us : List Value} {n : Nat} : opdAt ((us.drop n).take 5) 0 = opdAt us n := by
  simp only [opdAt, Nat.zero_add, cellI_sub (show 0 < 5 by decide), cellI_sub (show 1 < 5 by decide), cellI_sub (show 2 < 5 by decide), cellI_sub (show 3 < 5 by decide), cellI_sub (show 4 < 5 by decide), Nat.add_zero]
/-- the operands and the place of a valid rvalue are valid -/
theorem rv_parts {us : List Value} (h : (okRvE 0).val us = true) :
    (cellI us 0 = 1 ∧ (okOpE 3).val us = true) ∨ (cellI us 0 = 2 ∧ (okOpE 3).val us = true ∧ (okOpE 8).val us = true) ∨ (cellI us 0 = 3 ∧ (okOpE 3).val us = true ∧ (okOpE 8).val us = true) ∨
    (cellI us 0 = 4 ∧ (okPlE 13).val us = true) ∨ (cellI us 0 = 5 ∧ (okPlE 13).val us = true) := by
  have v2 : ∀ a b : E, (E.and a b).val us = true → a.val us = true ∧ b.val us = true := fun a b h => by simpa [E.val] using h
  have o2 : ∀ a b : E, (E.or a b).val us = true → a.val us = true ∨ b.val us = true := fun a b h => by simpa [E.val] using h
  rcases o2 _ _ h with h | h
  · obtain ⟨h1, h⟩ := v2 _ _ h
    exact .inl ⟨one_val h1, (v2 _ _ h).1⟩
  rcases o2 _ _ h with h | h
  · obtain ⟨h1, h⟩ := v2 _ _ h
    obtain ⟨h2, h⟩ := v2 _ _ h
    exact .inr (.inl ⟨one_val h1, h2, (v2 _ _ h).1⟩)
  rcases o2 _ _ h with h | h
  · obtain ⟨h1, h⟩ := v2 _ _ h
    obtain ⟨h2, h⟩ := v2 _ _ h
    exact .inr (.inr (.inl ⟨one_val h1, h2, (v2 _ _ h).1⟩))
  rcases o2 _ _ h with h | h
  · obtain ⟨h1, h⟩ := v2 _ _ h
    obtain ⟨_, h⟩ := v2 _ _ h
    obtain ⟨_, h⟩ := v2 _ _ h
    exact .inr (.inr (.inr (.inl ⟨one_val h1, (v2 _ _ h).1⟩)))
  · obtain ⟨h1, h⟩ := v2 _ _ h
    obtain ⟨_, h⟩ := v2 _ _ h
    obtain ⟨_, h⟩ := v2 _ _ h
    exact .inr (.inr (.inr (.inr ⟨one_val h1, (v2 _ _ h).1⟩)))
/-! lengths -/
theorem placeT_any (l : Int) (d : Bool) (f : Int) : (placeT l d f).length ≤ 25 := by
  have := decT_len l
  rw [placeT_eq]
  have hf : (fldT f).length ≤ 2 := by
    unfold fldT
    split
    · decide
    · split <;> decide
  cases d <;> simp <;> omega
theorem opT_any (o : Opd) : (opT o).length ≤ 30 := by
  have h1 := decT_len o.n
  have h2 := placeT_any o.l o.d o.f
  unfold opT
  split
  · omega
  · split <;> simp only [List.length_append, copyT, moveT, List.length_cons, List.length_nil] <;> omega
theorem rvT_any (r : Rv) : (rvT r).length ≤ 64 := by
  have h1 := opT_any r.a
  have h2 := opT_any r.b
  have h3 := placeT_any r.l r.d r.f
  have h4 : (borT r.k r.bo).length ≤ 5 := by
    unfold borT
    split
    · decide
    · split
      · decide
      · split <;> decide
  unfold rvT
  split
  · omega
  · split
    · simp only [List.length_append, List.length_cons]; omega
    · split <;> simp only [List.length_append, List.length_cons, List.length_nil] <;> omega
end Go.Proofs.YtaamdiknefodgaaDoor.Am
