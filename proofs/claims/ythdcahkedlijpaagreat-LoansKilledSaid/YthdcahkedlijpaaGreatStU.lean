/- stmt.Uses answers with the list stU (no texts needed). -/
import Derived.Test.YthdcahkedlijpaaGreatTests5
import Derived.Test.YthdcahkedlijpaaGreatSeatN
import Derived.Test.YthdcahkedlijpaaGreatReg
import Derived.Shelf.Spec.SlicesInsert
import Derived.Shelf.Spec.SlicesInsertGrow
namespace Go.Proofs.YthdcahkedlijpaaGreat.Am
open Go.RowKit
set_option linter.unusedVariables false
structure TabOk (w : World) : Prop where
  size : w.heap.size ≤ w.heap.size
theorem TabOk.all {w w0 : World} (k : TabOk w0) (h : ∀ b, b < w0.heap.size → w.heap[b]? = w0.heap[b]?) : TabOk w := ⟨Nat.le_refl _⟩
abbrev base0 (w0 : World) {K : Know} {rho : Nat → Int} {sig : Nat → List UInt8} (ok : KnowOk K rho sig) : Base := Base.known K ok w0.heap.size w0
section
variable {w0 : World} {K : Know} {rho : Nat → Int} {sig : Nat → List UInt8} (ok : KnowOk K rho sig)
theorem sound_runs {lib : Oracle} (hl : @Sound (base0 w0 ok) Tryz.prog lib) (n d : Nat) : @Sound (base0 w0 ok) Tryz.prog (@runs K (tyOf Tryz.prog) (fnOf Tryz.prog) lib n d) :=
  @runs_ok (base0 w0 ok) _ _ (@tyOf_ok (base0 w0 ok) Tryz.prog) _ fnOkN _ hl mixedN n d
end
end Go.Proofs.YthdcahkedlijpaaGreat.Am
namespace Go.Proofs.YthdcahkedlijpaaGreat.Am
open Go.RowKit
set_option linter.unusedSectionVars false
structure InP (l f : Int) : Prop where
  l0 : 0 ≤ l
  l1 : l ≤ 15
  f0 : 0 ≤ f
  f1 : f ≤ 2
section
variable [Base] {L : Lf}
def S.sc (x : S) : Bool := match x with | .bool _ | .int .. | .xi .. | .xe _ | .xs _ | .str _ => true | _ => false
theorem VS.only {r : Ren} {x : S} (h : x.sc = true) {v v' : Value} (k : VS r x v) (k' : VS r x v') : v = v' := by
  cases x <;> simp [S.sc] at h <;> exact k.trans k'.symm
end
end Go.Proofs.YthdcahkedlijpaaGreat.Am
namespace Go.Proofs.YthdcahkedlijpaaGreat.Am
open Go.RowKit
def I64 (n : Int) : Prop := -9223372036854775808 ≤ n ∧ n ≤ 9223372036854775807
structure Opd where
  k : Int
  n : Int
  l : Int
  d : Bool
  f : Int
def Opd.Ok (o : Opd) : Prop := (o.k = 1 ∧ I64 o.n ∧ o.l = 0 ∧ o.d = false ∧ o.f = 0) ∨ ((o.k = 2 ∨ o.k = 3) ∧ o.n = 0 ∧ InP o.l o.f)
structure Rv where
  k : Int
  a : Opd
  b : Opd
  op : Int
  bo : Int
  l : Int
  d : Bool
  f : Int
def Opd.no : Opd := ⟨0, 0, 0, false, 0⟩
def Rv.Ok (r : Rv) : Prop :=
  (r.k = 1 ∧ r.a.Ok ∧ r.b = Opd.no ∧ r.op = 0 ∧ r.bo = 0 ∧ r.l = 0 ∧ r.d = false ∧ r.f = 0) ∨
  (r.k = 2 ∧ r.a.Ok ∧ r.b.Ok ∧ (1 ≤ r.op ∧ r.op ≤ 6) ∧ r.bo = 0 ∧ r.l = 0 ∧ r.d = false ∧ r.f = 0) ∨
  (r.k = 3 ∧ r.a.Ok ∧ r.b.Ok ∧ r.op = 0 ∧ r.bo = 0 ∧ r.l = 0 ∧ r.d = false ∧ r.f = 0) ∨
  (r.k = 4 ∧ r.a = Opd.no ∧ r.b = Opd.no ∧ r.op = 0 ∧ (1 ≤ r.bo ∧ r.bo ≤ 3) ∧ InP r.l r.f) ∨
  (r.k = 5 ∧ r.a = Opd.no ∧ r.b = Opd.no ∧ r.op = 0 ∧ r.bo = 0 ∧ InP r.l r.f)
inductive Rv.As (r : Rv) : Prop where
  | use (h : r = ⟨1, r.a, Opd.no, 0, 0, 0, false, 0⟩) (a : r.a.Ok)
  | bin (h : r = ⟨2, r.a, r.b, r.op, 0, 0, false, 0⟩) (a : r.a.Ok) (b : r.b.Ok) (o : 1 ≤ r.op ∧ r.op ≤ 6)
  | pair (h : r = ⟨3, r.a, r.b, 0, 0, 0, false, 0⟩) (a : r.a.Ok) (b : r.b.Ok)
  | ref (h : r = ⟨r.k, Opd.no, Opd.no, 0, r.bo, r.l, r.d, r.f⟩) (k : (r.k = 4 ∧ 1 ≤ r.bo ∧ r.bo ≤ 3) ∨ (r.k = 5 ∧ r.bo = 0)) (p : InP r.l r.f)
theorem Rv.Ok.as {r : Rv} (h : r.Ok) : r.As := by
  obtain ⟨k, a, b, op, bo, l, d, f⟩ := r
  rcases h with ⟨rfl, ha, rfl, rfl, rfl, rfl, rfl, rfl⟩ | ⟨rfl, ha, hb, ho, rfl, rfl, rfl, rfl⟩ | ⟨rfl, ha, hb, rfl, rfl, rfl, rfl, rfl⟩ | ⟨rfl, rfl, rfl, rfl, hb, hp⟩ | ⟨rfl, rfl, rfl, rfl, rfl, hp⟩
  · exact .use rfl ha
  · exact .bin rfl ha hb ho
  · exact .pair rfl ha hb
  · exact .ref rfl (.inl ⟨rfl, hb⟩) hp
  · exact .ref rfl (.inr ⟨rfl, rfl⟩) hp
end Go.Proofs.YthdcahkedlijpaaGreat.Am
namespace Go.Proofs.YthdcahkedlijpaaGreat.Am
open Go.RowKit
set_option linter.unusedSectionVars false
set_option linter.unusedVariables false
def opdAt (us : List Value) (o : Nat) : Opd := ⟨cellI us o, cellI us (o + 1), cellI us (o + 2), decide (cellI us (o + 3) = 1), cellI us (o + 4)⟩
def rvAt (us : List Value) (o : Nat) : Rv := ⟨cellI us o, opdAt us (o + 3), opdAt us (o + 8), cellI us (o + 1), cellI us (o + 2), cellI us (o + 13), decide (cellI us (o + 14) = 1), cellI us (o + 15)⟩
theorem pl_val {us : List Value} {o : Nat} (h : (okPlE o).val us = true) (h0 : 0 ≤ cellI us (o + 2)) : InP (cellI us o) (cellI us (o + 2)) := by
  simp only [okPlE, E.ands, E.val, Bool.and_eq_true, Bool.not_eq_true', decide_eq_true_eq, decide_eq_false_iff_not] at h
  exact ⟨by omega, by omega, h0, by omega⟩
theorem zs_val {us : List Value} {o n : Nat} (h : (E.zero (zs o n)).val us = true) : ∀ i, i < n → cellI us (o + i) = 0 := by
  intro i hi
  simp only [E.val, zs, List.all_map, List.all_eq_true, List.mem_range, Function.comp, decide_eq_true_eq] at h
  exact h i hi
theorem one_val {us : List Value} {i : Nat} {c : Int} (h : (E.zero [(i, c)]).val us = true) : cellI us i = c := by
  simpa [E.val] using h
theorem op_val {us : List Value} {o : Nat} (h : (okOpE o).val us = true) (hn : I64 (cellI us (o + 1))) (h0 : 0 ≤ cellI us (o + 4)) : (opdAt us o).Ok := by
  have h : ((E.zero [(o, 1)]).val us && (E.zero (zs (o + 2) 3)).val us || ((E.zero [(o, 2)]).val us || (E.zero [(o, 3)]).val us) && ((E.zero [(o + 1, 0)]).val us && (okPlE (o + 2)).val us)) = true := h
  simp only [Bool.or_eq_true, Bool.and_eq_true] at h
  rcases h with ⟨h1, h2⟩ | ⟨h1, h2, h3⟩
  · have z := zs_val h2
    have z0 := z 0 (by decide)
    have z1 := z 1 (by decide)
    have z2 := z 2 (by decide)
    refine .inl ⟨one_val h1, hn, z0, ?_, z2⟩
    show decide (cellI us (o + 3) = 1) = false
    rw [show o + 3 = o + 2 + 1 by omega, z1]
    rfl
  · refine .inr ⟨?_, one_val h2, pl_val h3 h0⟩
    rcases h1 with h1 | h1
    · exact .inl (one_val h1)
    · exact .inr (one_val h1)
theorem no_val {us : List Value} {o : Nat} (h : (E.zero (zs o 5)).val us = true) : opdAt us o = Opd.no := by
  have z := zs_val h
  unfold opdAt
  rw [z 1 (by decide), z 2 (by decide), z 3 (by decide), z 4 (by decide), show cellI us o = 0 from z 0 (by decide)]
  rfl
structure RvR (us : List Value) (o : Nat) : Prop where
  n : I64 (cellI us (o + 4))
  m : I64 (cellI us (o + 9))
  f : 0 ≤ cellI us (o + 7)
  g : 0 ≤ cellI us (o + 12)
  p : 0 ≤ cellI us (o + 15)
theorem rv_val {us : List Value} {o : Nat} (h : (okRvE o).val us = true) (k : RvR us o) : (rvAt us o).Ok := by
  have hA : (okOpE (o + 3)).val us = true → (opdAt us (o + 3)).Ok := fun h => op_val h k.n k.f
  have hB : (okOpE (o + 8)).val us = true → (opdAt us (o + 8)).Ok := fun h => op_val h k.m k.g
  have hP : (okPlE (o + 13)).val us = true → InP (cellI us (o + 13)) (cellI us (o + 15)) := fun h => pl_val h k.p
  have bare : (E.zero (zs (o + 13) 3)).val us = true → cellI us (o + 13) = 0 ∧ decide (cellI us (o + 14) = 1) = false ∧ cellI us (o + 15) = 0 := fun h => by
    have z := zs_val h
    refine ⟨z 0 (by decide), ?_, z 2 (by decide)⟩
    rw [show o + 14 = o + 13 + 1 by omega, z 1 (by decide)]
    rfl
  simp only [okRvE, E.ands] at h
  rw [E.val, Bool.or_eq_true] at h
  rcases h with h | h
  · simp only [E.val, Bool.and_eq_true] at h
    obtain ⟨h1, h2, h3, h4, h5, h6⟩ := h
    obtain ⟨b1, b2, b3⟩ := bare h4
    exact .inl ⟨one_val h1, hA h2, no_val h3, one_val h5, one_val h6, b1, b2, b3⟩
  rw [E.val, Bool.or_eq_true] at h
  rcases h with h | h
  · simp only [E.val, Bool.and_eq_true, Bool.not_eq_true', decide_eq_true_eq, decide_eq_false_iff_not] at h
    obtain ⟨h1, h2, h3, h4, h5, h6, h7⟩ := h
    obtain ⟨b1, b2, b3⟩ := bare h4
    exact .inr (.inl ⟨one_val h1, hA h2, hB h3, ⟨by show 1 ≤ cellI us (o + 1); omega, by show cellI us (o + 1) ≤ 6; omega⟩, one_val h7, b1, b2, b3⟩)
  rw [E.val, Bool.or_eq_true] at h
  rcases h with h | h
  · simp only [E.val, Bool.and_eq_true] at h
    obtain ⟨h1, h2, h3, h4, h5, h6⟩ := h
    obtain ⟨b1, b2, b3⟩ := bare h4
    exact .inr (.inr (.inl ⟨one_val h1, hA h2, hB h3, one_val h5, one_val h6, b1, b2, b3⟩))
  rw [E.val, Bool.or_eq_true] at h
  rcases h with h | h
  · simp only [E.val, Bool.and_eq_true, Bool.not_eq_true', decide_eq_true_eq, decide_eq_false_iff_not] at h
    obtain ⟨h1, h2, h3, h4, h5, h6, h7⟩ := h
    exact .inr (.inr (.inr (.inl ⟨one_val h1, no_val h2, no_val h3, one_val h5, ⟨by show 1 ≤ cellI us (o + 2); omega, by show cellI us (o + 2) ≤ 3; omega⟩, hP h4⟩)))
  · simp only [E.val, Bool.and_eq_true] at h
    obtain ⟨h1, h2, h3, h4, h5, h6⟩ := h
    exact .inr (.inr (.inr (.inr ⟨one_val h1, no_val h2, no_val h3, one_val h5, one_val h6, hP h4⟩)))
noncomputable def kindX (x : S) : Option Int := match x with | .int _ n => some n | _ => none
section
variable [Base] {r : Ren} {L : Lf} {ks : List Kd} {xs : List S} {us : List Value}
theorem kindX_ok {x : S} {k : Int} (h : kindX x = some k) {v : Value} (hv : VS r x v) : codeI v = k := by
  unfold kindX at h
  split at h
  · cases h; cases hv; rfl
  · cases h
theorem cellX (ha : All2 (VS r) xs us) {i : Nat} {x : S} (h : nth xs i = some x) : ∃ v, us[i]? = some v ∧ VS r x v ∧ cellI us i = codeI v := by
  obtain ⟨v, hv, hx⟩ := All2.nth ha h
  exact ⟨v, hv, hx, cellI_at hv⟩
end
noncomputable def cellsL (ks : List Kd) (L : Lf) : List S := (cellsT 0 ks).map L.nS
end Go.Proofs.YthdcahkedlijpaaGreat.Am
namespace Go.Proofs.YthdcahkedlijpaaGreat.Am
open Go.RowKit
set_option linter.unusedVariables false
theorem ok_at {ks : List Kd} {us : List Value} (h : All2 Kd.ok ks us) {i : Nat} {k : Kd} (hi : ks[i]? = some k) : k.iv.1 ≤ cellI us i ∧ cellI us i ≤ k.iv.2 := by
  obtain ⟨v, hv, hk⟩ := All2.nth h (n := i) (x := k) (by rw [nth_eq]; exact hi)
  have e : cellI us i = codeI v := by simp [cellI, hv]
  rw [e]
  exact Kd.iv_ok hk
theorem ok_i64 {ks : List Kd} {us : List Value} (h : All2 Kd.ok ks us) {i : Nat} (hi : ks[i]? = some (.i .i64)) : I64 (cellI us i) := ok_at h hi
theorem ok_u8 {ks : List Kd} {us : List Value} (h : All2 Kd.ok ks us) {i : Nat} (hi : ks[i]? = some (.i .u8)) : 0 ≤ cellI us i := (ok_at h hi).1
theorem ok_b {ks : List Kd} {us : List Value} (h : All2 Kd.ok ks us) {i : Nat} (hi : ks[i]? = some .b) : cellI us i = 0 ∨ cellI us i = 1 := by
  have h1 : (0 : Int) ≤ cellI us i ∧ cellI us i ≤ 1 := ok_at h hi
  omega
end Go.Proofs.YthdcahkedlijpaaGreat.Am
namespace Go.Proofs.YthdcahkedlijpaaGreat.Am
open Go.RowKit
set_option linter.unusedSectionVars false
set_option linter.unusedVariables false
structure Stm where
  k : Int
  l : Int
  d : Bool
  f : Int
  r : Rv
  a : Opd
  n : Int
def Rv.no : Rv := ⟨0, Opd.no, Opd.no, 0, 0, 0, false, 0⟩
def Stm.Ok (s : Stm) : Prop :=
  (s.k = 1 ∧ InP s.l s.f ∧ s.r.Ok ∧ s.a = Opd.no ∧ s.n = 0) ∨
  ((s.k = 2 ∨ s.k = 4) ∧ s.l = 0 ∧ s.d = false ∧ s.f = 0 ∧ s.r = Rv.no ∧ s.a.Ok ∧ s.n = 0) ∨
  (s.k = 3 ∧ s.l = 0 ∧ s.d = false ∧ s.f = 0 ∧ s.r = Rv.no ∧ s.a = Opd.no ∧ 0 ≤ s.n ∧ s.n < 16)
def stOf (us : List Value) : Stm := ⟨cellI us 0, cellI us 1, decide (cellI us 2 = 1), cellI us 3, rvAt us 4, opdAt us 20, cellI us 25⟩
theorem stR_ok {us : List Value} (h : All2 Kd.ok kSt us) : RvR us 4 := ⟨ok_i64 h rfl, ok_i64 h rfl, ok_u8 h rfl, ok_u8 h rfl, ok_u8 h rfl⟩
theorem zs3_val {us : List Value} {o : Nat} (h : (E.zero (zs o 3)).val us = true) : cellI us o = 0 ∧ decide (cellI us (o + 1) = 1) = false ∧ cellI us (o + 2) = 0 := by
  have z := zs_val h
  refine ⟨z 0 (by decide), ?_, z 2 (by decide)⟩
  rw [z 1 (by decide)]
  rfl
theorem rv0_val {us : List Value} (h : (E.zero (zs 4 16)).val us = true) : rvAt us 4 = Rv.no := by
  have z := zs_val h
  unfold rvAt opdAt
  rw [show cellI us 4 = 0 from z 0 (by decide), show cellI us (4 + 3) = 0 from z 3 (by decide), show cellI us (4 + 3 + 1) = 0 from z 4 (by decide), show cellI us (4 + 3 + 2) = 0 from z 5 (by decide), show cellI us (4 + 3 + 3) = 0 from z 6 (by decide), show cellI us (4 + 3 + 4) = 0 from z 7 (by decide),
    show cellI us (4 + 8) = 0 from z 8 (by decide), show cellI us (4 + 8 + 1) = 0 from z 9 (by decide), show cellI us (4 + 8 + 2) = 0 from z 10 (by decide), show cellI us (4 + 8 + 3) = 0 from z 11 (by decide), show cellI us (4 + 8 + 4) = 0 from z 12 (by decide),
    show cellI us (4 + 1) = 0 from z 1 (by decide), show cellI us (4 + 2) = 0 from z 2 (by decide), show cellI us (4 + 13) = 0 from z 13 (by decide), show cellI us (4 + 14) = 0 from z 14 (by decide), show cellI us (4 + 15) = 0 from z 15 (by decide)]
  rfl
theorem st_val {us : List Value} (h : okStE.val us = true) (k : All2 Kd.ok kSt us) : (stOf us).Ok ∧
    ((cellI us 0 = 1 ∧ (okPlE 1).val us = true ∧ (okRvE 4).val us = true) ∨ ((cellI us 0 = 2 ∨ cellI us 0 = 4) ∧ (okOpE 20).val us = true) ∨ cellI us 0 = 3) := by
  have v2 : ∀ a b : E, (E.and a b).val us = true → a.val us = true ∧ b.val us = true := fun a b h => by simpa [E.val] using h
  have o2 : ∀ a b : E, (E.or a b).val us = true → a.val us = true ∨ b.val us = true := fun a b h => by simpa [E.val] using h
  rcases o2 _ _ h with h | h
  · obtain ⟨h1, h⟩ := v2 _ _ h
    obtain ⟨h2, h⟩ := v2 _ _ h
    obtain ⟨h3, h⟩ := v2 _ _ h
    obtain ⟨h4, h5⟩ := v2 _ _ h
    exact ⟨.inl ⟨one_val h1, pl_val h2 (ok_u8 k rfl), rv_val h3 (stR_ok k), no_val h4, one_val h5⟩, .inl ⟨one_val h1, h2, h3⟩⟩
  rcases o2 _ _ h with h | h
  · obtain ⟨h1, h⟩ := v2 _ _ h
    obtain ⟨h2, h⟩ := v2 _ _ h
    obtain ⟨h3, h⟩ := v2 _ _ h
    obtain ⟨h4, h5⟩ := v2 _ _ h
    have hk : cellI us 0 = 2 ∨ cellI us 0 = 4 := (o2 _ _ h1).imp one_val one_val
    obtain ⟨z1, z2, z3⟩ := zs3_val h2
    exact ⟨.inr (.inl ⟨hk, z1, z2, z3, rv0_val h3, op_val h4 (ok_i64 k rfl) (ok_u8 k rfl), one_val h5⟩), .inr (.inl ⟨hk, h4⟩)⟩
  · obtain ⟨h1, h⟩ := v2 _ _ h
    obtain ⟨h2, h⟩ := v2 _ _ h
    obtain ⟨h3, h⟩ := v2 _ _ h
    obtain ⟨h4, h⟩ := v2 _ _ h
    obtain ⟨h5, h6⟩ := v2 _ _ h
    obtain ⟨z1, z2, z3⟩ := zs3_val h2
    have h5 : (!decide (cellI us 25 < 0)) = true := h5
    have h6 : decide (cellI us 25 < 16) = true := h6
    simp only [Bool.not_eq_true', decide_eq_false_iff_not, decide_eq_true_eq] at h5 h6
    exact ⟨.inr (.inr ⟨one_val h1, z1, z2, z3, rv0_val h3, no_val h4, by show 0 ≤ cellI us 25; omega, h6⟩), .inr (.inr (one_val h1))⟩
end Go.Proofs.YthdcahkedlijpaaGreat.Am
namespace Go.Proofs.YthdcahkedlijpaaGreat.Am
open Go.RowKit
def insRen : Go.Shelf.Ren := ⟨fun | 21 => 86 | 27 => 109 | 28 => 110 | 35 => 116 | 39 => 121 | n => n, fun | 0 => 0 | 3 => 3 | 4 => 4 | 22 => 69 | n => n, fun | n => n⟩
theorem insLays : Go.Proofs.Lays2.n21 Tryz.prog insRen := {
  mixed := by kernel_rfl
  f21 := by kernel_rfl
  f27 := by kernel_rfl
  f28 := by kernel_rfl
  f35 := by kernel_rfl
  f39 := by kernel_rfl
  t0 := by kernel_rfl
  a0 := Tryz.isAgg0
  z0 := Tryz.sizeOf0
  v0 := Tryz.zeroValue0
  t3 := by kernel_rfl
  a3 := Tryz.isAgg3
  z3 := Tryz.sizeOf3
  v3 := Tryz.zeroValue3
  t4 := by kernel_rfl
  a4 := Tryz.isAgg4
  z4 := Tryz.sizeOf4
  v4 := Tryz.zeroValue4
  t22 := by kernel_rfl
  a22 := Tryz.isAgg69
  z22 := Tryz.sizeOf69
  v22 := Tryz.zeroValue69
  i3 := by kernel_rfl }
theorem insOk [Base] : InsOk Tryz.prog 86 3 (.int .i64 0) where
  call := ⟨_, Tryz.func86, by kernel_rfl, by kernel_rfl⟩
  z1 := rfl
  shift b n c i vb voff m vc cs vs w h1 h2 h3 h4 h5 h6 h7 h8 h9 h10 h11 h12 h13 tA tB kA kB k1 k2 k3 k4 k5 :=
    Any2.slices_Insert_int_shift insLays b 0 n c i vb voff m vc cs vs w h1 h2 h3 h4 h5 h6 h7 h8 h9 h10 h11 h12 h13 tA tB kA kB k1 k2 k3 k4 k5
  grow b n c i vb voff m vc cs vs w h1 h2 h3 h4 h5 h6 h7 h8 h9 h10 h11 :=
    Any2.slices_Insert_int_grow insLays b 0 n c i vb voff m vc cs vs w h1 h2 h3 h4 h5 h6 h7 h8 h9 h10 h11
noncomputable abbrev insXO : Oracle := insO 86
theorem sound_insX (b : Base) : @Sound b Tryz.prog insXO := @sound_ins b _ _ _ _ (@insOk b)
end Go.Proofs.YthdcahkedlijpaaGreat.Am
namespace Go.Proofs.YthdcahkedlijpaaGreat.Am
open Go.RowKit
set_option linter.unusedSectionVars false
set_option linter.unusedVariables false
def insU (a : Int) : List Int → List Int
  | [] => [a]
  | b :: r => if a < b then a :: b :: r else if a = b then b :: r else b :: insU a r
def srtU : List Int → List Int
  | [] => []
  | a :: r => insU a (srtU r)
def opU (o : Opd) : List Int := if o.k = 1 then [] else [o.l]
def rvU (r : Rv) : List Int := if r.k = 1 then opU r.a else if r.k = 2 ∨ r.k = 3 then srtU (opU r.a ++ opU r.b) else [r.l]
def stU (s : Stm) : List Int := if s.k = 1 then (if s.d = true ∨ 0 < s.f then insU s.l (rvU s.r) else rvU s.r) else if s.k = 3 then [] else opU s.a
theorem insU_mem {a b : Int} : ∀ {l : List Int}, b ∈ insU a l ↔ b = a ∨ b ∈ l
  | [] => by simp [insU]
  | c :: r => by
    have ih := insU_mem (a := a) (b := b) (l := r)
    unfold insU
    split
    · simp
    · split
      · rename_i h; subst h; simp
      · simp only [List.mem_cons, ih]
        constructor
        · rintro (h | h | h)
          · exact .inr (.inl h)
          · exact .inl h
          · exact .inr (.inr h)
        · rintro (h | h | h)
          · exact .inr (.inl h)
          · exact .inl h
          · exact .inr (.inr h)
theorem srtU_mem {b : Int} : ∀ {l : List Int}, b ∈ srtU l ↔ b ∈ l
  | [] => by simp [srtU]
  | a :: r => by simp only [srtU, insU_mem, srtU_mem, List.mem_cons]
section
variable [Know]
noncomputable def insX (a : N) : List N → Option (List N) := List.rec (some [a]) fun b r ih => ob (ltX a b) fun l => bif l then some (a :: b :: r) else ob (eqX a b) fun e => bif e then some (b :: r) else ob ih fun q => some (b :: q)
noncomputable def srtX : List N → Option (List N) := List.rec (some []) fun a _ ih => ob ih fun q => insX a q
noncomputable def numN (x : S) : Option N := match x with | .int .i64 n => some (.c n) | .xi .i64 i => some (.x i) | _ => none
noncomputable def opUX (xs : List S) (o : Nat) : Option (List N) := ob (nth xs o) fun k => ob (kindX k) fun k => bif decide (k = 1) then some [] else ob (nth xs (o + 2)) fun x => ob (numN x) fun n => some [n]
noncomputable def rvUX (xs : List S) (o : Nat) : Option (List N) := ob (nth xs o) fun k => ob (kindX k) fun k =>
  bif decide (k = 1) then opUX xs (o + 3) else bif decide (k = 2) || decide (k = 3) then ob (opUX xs (o + 3)) fun a => ob (opUX xs (o + 8)) fun b => srtX (a ++ b) else ob (nth xs (o + 13)) fun x => ob (numN x) fun n => some [n]
noncomputable def partX (xs : List S) : Option Bool := ob (nth xs 2) fun d => ob d.isBool fun d => bif d then some true else ob (nth xs 3) fun f => ob f.num fun f => ltX (.c 0) f.2
noncomputable def stUX (xs : List S) : Option (List N) := ob (nth xs 0) fun k => ob (kindX k) fun k =>
  bif decide (k = 1) then ob (rvUX xs 4) fun l => ob (partX xs) fun p => bif p then ob (nth xs 1) fun x => ob (numN x) fun n => insX n l else some l
  else bif decide (k = 3) then some [] else opUX xs 20
def numS : N → S
  | .c n => .int .i64 n
  | .x i => .xi .i64 i
end
section
variable [Base] {r : Ren} {xs : List S} {us : List Value}
theorem insX_cons (a b : N) (l : List N) : insX a (b :: l) = ob (ltX a b) fun q => bif q then some (a :: b :: l) else ob (eqX a b) fun e => bif e then some (b :: l) else ob (insX a l) fun q => some (b :: q) := rfl
theorem insX_ok {a : N} : ∀ {l q : List N}, insX a l = some q → q.map NV = insU (NV a) (l.map NV)
  | [], q, h => by cases h; rfl
  | b :: l, q, h => by
    rw [insX_cons] at h
    obtain ⟨c, hc, h⟩ := ob_some h
    have e := ltX_ok hc
    rw [List.map_cons, insU]
    cases c <;> simp only [cond_true, cond_false] at h
    · rw [if_neg (of_decide_eq_false e.symm)]
      obtain ⟨d, hd, h⟩ := ob_some h
      have e2 := eqX_ok hd
      cases d <;> simp only [cond_true, cond_false] at h
      · rw [if_neg (of_decide_eq_false e2.symm)]
        obtain ⟨q', hq, h⟩ := ob_some h
        cases h
        rw [List.map_cons, insX_ok hq]
      · rw [if_pos (of_decide_eq_true e2.symm)]
        cases h
        rfl
    · rw [if_pos (of_decide_eq_true e.symm)]
      cases h
      rfl
theorem srtX_ok : ∀ {l q : List N}, srtX l = some q → q.map NV = srtU (l.map NV)
  | [], q, h => by cases h; rfl
  | a :: l, q, h => by
    obtain ⟨p, hp, h⟩ := ob_some (show ob (srtX l) (fun q => insX a q) = some q from h)
    rw [insX_ok h, srtX_ok hp]
    rfl
theorem numN_ok {x : S} {n : N} (h : numN x = some n) {v : Value} (hv : VS r x v) : codeI v = NV n := by
  unfold numN at h
  split at h
  · cases h; cases hv; rfl
  · cases h; cases hv; rfl
  · cases h
theorem oneN (ha : All2 (VS r) xs us) {o : Nat} {q : List N} (h : (ob (nth xs o) fun x => ob (numN x) fun n => some [n]) = some q) : q.map NV = [cellI us o] := by
  obtain ⟨x, hx, h⟩ := ob_some h
  obtain ⟨n, hn, h⟩ := ob_some h
  cases h
  obtain ⟨u, _, hv, hc⟩ := cellX ha hx
  rw [hc, numN_ok hn hv]
  rfl
theorem opUX_ok (ha : All2 (VS r) xs us) {o : Nat} {q : List N} (h : opUX xs o = some q) : q.map NV = opU (opdAt us o) := by
  obtain ⟨x, hx, h⟩ := ob_some h
  obtain ⟨k, hk, h⟩ := ob_some h
  obtain ⟨u, k1, v1, c1⟩ := cellX ha hx
  rw [kindX_ok hk v1] at c1
  unfold opU
  rw [show (opdAt us o).k = k from c1]
  cases h1 : decide (k = 1) <;> rw [h1] at h <;> simp only [cond_true, cond_false] at h
  · rw [if_neg (of_decide_eq_false h1)]
    exact oneN ha h
  · rw [if_pos (of_decide_eq_true h1)]
    cases h
    rfl
theorem two_app {a b q : List N} {x y : List Int} (hq : srtX (a ++ b) = some q) (hx : a.map NV = x) (hy : b.map NV = y) : q.map NV = srtU (x ++ y) := by
  rw [srtX_ok hq, List.map_append, hx, hy]
theorem rvUX_ok (ha : All2 (VS r) xs us) {o : Nat} {q : List N} (h : rvUX xs o = some q) : q.map NV = rvU (rvAt us o) := by
  obtain ⟨x, hx, h⟩ := ob_some h
  obtain ⟨k, hk, h⟩ := ob_some h
  obtain ⟨u, k1, v1, c1⟩ := cellX ha hx
  rw [kindX_ok hk v1] at c1
  unfold rvU
  rw [show (rvAt us o).k = k from c1]
  cases h1 : decide (k = 1) <;> rw [h1] at h <;> simp only [cond_true, cond_false] at h
  · rw [if_neg (of_decide_eq_false h1)]
    cases h2 : (decide (k = 2) || decide (k = 3)) <;> rw [h2] at h <;> simp only [cond_true, cond_false] at h
    · simp only [Bool.or_eq_false_iff, decide_eq_false_iff_not] at h2
      rw [if_neg (by omega)]
      exact oneN ha h
    · simp only [Bool.or_eq_true, decide_eq_true_eq] at h2
      rw [if_pos h2]
      obtain ⟨a, hA, h⟩ := ob_some h
      obtain ⟨b, hB, h⟩ := ob_some h
      exact two_app h (opUX_ok ha hA) (opUX_ok ha hB)
  · rw [if_pos (of_decide_eq_true h1)]
    exact opUX_ok ha h
theorem partX_ok (ha : All2 (VS r) xs us) {p : Bool} (h : partX xs = some p) : (p = true ↔ (stOf us).d = true ∨ 0 < (stOf us).f) := by
  obtain ⟨x, hx, h⟩ := ob_some h
  obtain ⟨d, hd, h⟩ := ob_some h
  obtain ⟨u, k1, v1, c1⟩ := cellX ha hx
  have e := isBool_ok hd v1
  subst e
  have hdd : (stOf us).d = d := by
    show decide (cellI us 2 = 1) = d
    rw [c1]
    cases d <;> rfl
  rw [hdd]
  cases d <;> simp only [cond_true, cond_false] at h
  · obtain ⟨y, hy, h⟩ := ob_some h
    obtain ⟨f, hf, h⟩ := ob_some h
    obtain ⟨u2, k2, v2, c2⟩ := cellX ha hy
    have e2 := num_ok hf v2
    subst e2
    have e3 := ltX_ok h
    have hff : (stOf us).f = NV f.2 := c2
    rw [hff, e3]
    constructor
    · intro hh
      exact .inr (of_decide_eq_true hh)
    · rintro (hh | hh)
      · cases hh
      · exact decide_eq_true hh
  · cases h
    simp
theorem stUX_ok (ha : All2 (VS r) xs us) {q : List N} (h : stUX xs = some q) : q.map NV = stU (stOf us) := by
  obtain ⟨x, hx, h⟩ := ob_some h
  obtain ⟨k, hk, h⟩ := ob_some h
  obtain ⟨u, k1, v1, c1⟩ := cellX ha hx
  rw [kindX_ok hk v1] at c1
  unfold stU
  rw [show (stOf us).k = k from c1]
  cases h1 : decide (k = 1) <;> rw [h1] at h <;> simp only [cond_true, cond_false] at h
  · rw [if_neg (of_decide_eq_false h1)]
    cases h2 : decide (k = 3) <;> rw [h2] at h <;> simp only [cond_true, cond_false] at h
    · rw [if_neg (of_decide_eq_false h2)]
      exact opUX_ok ha h
    · rw [if_pos (of_decide_eq_true h2)]
      cases h
      rfl
  · rw [if_pos (of_decide_eq_true h1)]
    obtain ⟨l, hl, h⟩ := ob_some h
    obtain ⟨p, hp, h⟩ := ob_some h
    have e := partX_ok ha hp
    cases p <;> simp only [cond_true, cond_false] at h
    · rw [if_neg (fun hh => by have := e.2 hh; cases this)]
      cases h
      exact rvUX_ok ha hl
    · rw [if_pos (e.1 rfl)]
      obtain ⟨y, hy, h⟩ := ob_some h
      obtain ⟨n, hn, h⟩ := ob_some h
      obtain ⟨u2, k2, v2, c2⟩ := cellX ha hy
      rw [insX_ok h, rvUX_ok ha hl, ← numN_ok hn v2, ← c2]
      rfl
theorem numsS_ok : ∀ {q : List N} {vs : List Value}, All2 (VS r) (q.map numS) vs → vs = (q.map NV).map (Value.int .i64)
  | [], [], _ => rfl
  | .c n :: q, v :: vs, h => by
    have := numsS_ok h.2
    rw [this, show v = .int .i64 n from h.1]
    rfl
  | .x i :: q, v :: vs, h => by
    have := numsS_ok h.2
    rw [this, show v = .int .i64 (Base.rho i) from h.1]
    rfl
  | [], _ :: _, h => h.elim
  | .c _ :: _, [], h => h.elim
  | .x _ :: _, [], h => h.elim
end
def intsV (l : List Int) : List Value := l.map (Value.int .i64)
def ListsE (F : FuncId) (ks : List Kd) (e : E) (T : List Value → List Int) : Prop := ∀ us, All2 Kd.ok ks us → e.val us = true → Lists Tryz.prog TabOk F us (intsV (T us))
noncomputable def libL (ks : List Kd) (L : Lf) : Oracle := fun f a h fl => orR (valid4 (L.know (strsT 0 ks)) f a h fl) (insXO f a h fl)
noncomputable def runL (F : FuncId) (ks : List Kd) (L : Lf) : R := @runs (L.know (strsT 0 ks)) (tyOf Tryz.prog) (fnOf Tryz.prog) (libL ks L) 30 20 F [.g (cellsL ks L)] ⟨[], 0⟩ 0
def cyc (L : Lf) : Bool := L.lt.any fun p => L.lt.any fun q => Nat.beq p.2 q.1 && (Nat.beq q.2 p.1 || L.lt.any fun t => Nat.beq q.2 t.1 && Nat.beq t.2 p.1)
theorem cyc_no {L : Lf} {rho : Nat → Int} {sig : Nat → List UInt8} (h : L.Holds rho sig) : cyc L = false := by
  unfold cyc
  rw [Bool.eq_false_iff]
  intro hc
  obtain ⟨p, hp, hc⟩ := List.any_eq_true.1 hc
  obtain ⟨q, hq, hc⟩ := List.any_eq_true.1 hc
  simp only [Bool.and_eq_true, Bool.or_eq_true] at hc
  obtain ⟨h1, h2⟩ := hc
  have e1 := Nat.eq_of_beq_eq_true h1
  have l1 := h.lt p.1 p.2 hp
  have l2 := h.lt q.1 q.2 hq
  rw [e1] at l1
  rcases h2 with h2 | h2
  · rw [Nat.eq_of_beq_eq_true h2] at l2
    omega
  · obtain ⟨t, ht, h3⟩ := List.any_eq_true.1 h2
    simp only [Bool.and_eq_true] at h3
    have l3 := h.lt t.1 t.2 ht
    rw [← Nat.eq_of_beq_eq_true h3.1, Nat.eq_of_beq_eq_true h3.2] at l3
    omega
noncomputable def listAt (e : E) (ks : List Kd) (exp : Option (List N)) (L : Lf) (r : R) : Bool :=
  Option.rec false (fun b => bif b then Option.rec false (fun q => Option.rec false (fun cs => sameL S.eqv (q.map numS) cs) (rowAt r)) exp else true) (@E.abs (L.know (strsT 0 ks)) ((cellsT 0 ks).map L.nS) e)
section
variable {F : FuncId} {T : List Value → List Int}
theorem lists_of (exp : Lf → List S → Option (List N))
    (hexp : ∀ (b0 : Base) (L : Lf) (r : Ren) (xs : List S) (us : List Value) (q : List N), b0.toKnow = L.know (strsT 0 kRv) → @All2 _ _ (@VS b0 r) xs us → exp L xs = some q → q.map (@NV b0) = T us) {sp : Sp}
    (hrun : ((sp.leaves (Lf.startB [(true, kRv)] [] [])).all fun L => cyc L || listAt (okRvE 0) kRv (exp L (cellsL kRv L)) L (runL F kRv L)) = true) : ListsE F kRv (okRvE 0) T := by
  intro us hk he w hw
  have hg : Gps [(true, kRv)] [.agg us.toArray] (us ++ []) := ⟨us, _, rfl, ⟨hk, .inl ⟨rfl, rfl⟩⟩, rfl⟩
  have hlen : (us ++ []).length = 16 := by rw [List.append_nil]; exact hk.len.symm
  have h0 : (Lf.startB [(true, kRv)] [] []).Holds (rhoOf (behind (us ++ []) [] [])) (sigOf (behind (us ++ []) [] [])) := Lf.startB_some hg (ivS := []) (ivI := []) (strs := []) trivial (i0 := []) rfl trivial
  obtain ⟨L, hm, hL⟩ := sp.cover h0
  have hp := List.all_eq_true.1 hrun L hm
  rw [cyc_no hL, Bool.false_or] at hp
  have hlens : Lens [] (rhoOf (behind (us ++ []) [] [])) (sigOf (behind (us ++ []) [] [])) := lens_behind (n := 16) (a := 0) hg rfl hlen rfl
  letI b0 : Base := base0 w (Lf.ok hL hlens)
  have e0 : behind (us ++ []) [] [] = [] ++ (us ++ ((([] : List (List UInt8)).map strV) ++ ([] : List Int).map (Value.int .i64))) := by
    unfold behind
    rw [List.append_nil, List.nil_append]
  have hus : All2 (VS r0) (cellsL kRv L) us := clL_ok hL rfl rfl e0 rfl hk
  have ha : All2 (VA r0) [.g (cellsL kRv L)] [.agg us.toArray] := ⟨⟨us, rfl, hus⟩, trivial⟩
  unfold listAt at hp
  cases hb : @E.abs (L.know (strsT 0 kRv)) ((cellsT 0 kRv).map L.nS) (okRvE 0) with
  | none => rw [hb] at hp; cases hp
  | some b =>
    rw [hb] at hp
    have hbv := E.abs_ok hus hb
    rw [he] at hbv
    subst hbv
    have hp : (Option.rec false (fun q => Option.rec false (fun cs => sameL S.eqv (q.map numS) cs) (rowAt (runL F kRv L))) (exp L (cellsL kRv L)) : Bool) = true := hp
    cases hx : exp L (cellsL kRv L) with
    | none => rw [hx] at hp; cases hp
    | some q =>
      rw [hx] at hp
      have hp : (Option.rec false (fun cs => sameL S.eqv (q.map numS) cs) (rowAt (runL F kRv L)) : Bool) = true := hp
      cases hr : rowAt (runL F kRv L) with
      | none => rw [hr] at hp; cases hp
      | some cs =>
        rw [hr] at hp
        have hcs : q.map numS = cs := sameL_eq (fun _ _ => S.eqv_ok) hp
        subst hcs
        have hS : Sound Tryz.prog (@runs (L.know (strsT 0 kRv)) (tyOf Tryz.prog) (fnOf Tryz.prog) (libL kRv L) 30 20) :=
          @sound_runs w _ _ _ (Lf.ok hL hlens) _ (@sound_or b0 _ _ _ (sound_valid4 b0) (sound_insX b0)) 30 20
        refine (calls_row w hw.size (fun _ _ => rfl) hS ha hr).mono fun x w' ⟨u, vs, r', e1, e2, e3, e4⟩ => ⟨u, e1, ?_, e4⟩
        have hv := numsS_ok e3
        rw [hexp b0 L r0 _ _ _ rfl hus hx] at hv
        rw [hv] at e2
        exact e2
end
end Go.Proofs.YthdcahkedlijpaaGreat.Am
namespace Go.Proofs.YthdcahkedlijpaaGreat.Am
open Go.RowKit
set_option maxRecDepth 100000
noncomputable def ru0L : Lf := Lf.startB [(true, kRv)] [] []
noncomputable def ru1L : Lf := (ru0L.hi 0 (1 - 1))
def ru1T : Sp := .leaf
noncomputable def ru2L : Lf := (ru0L.lo 0 1)
noncomputable def ru3L : Lf := (ru2L.hi 0 (2 - 1))
def ru3T : Sp := (.cut 3 1 .leaf (.cut 3 2 (.conj [(5, 0), (6, 0), (7, 0)] (.conj [(8, 0), (9, 0), (10, 0), (11, 0), (12, 0)] (.conj [(13, 0), (14, 0), (15, 0)] (.cut 1 1 (.cut 2 1 .leaf .leaf) .leaf) .leaf) .leaf) .leaf) (.cut 3 3 (.cut 4 0 .leaf (.cut 4 1 (.cut 5 0 .leaf (.cut 5 16 (.cut 7 3 (.conj [(8, 0), (9, 0), (10, 0), (11, 0), (12, 0)] (.conj [(13, 0), (14, 0), (15, 0)] (.cut 1 1 (.cut 2 1 .leaf .leaf) .leaf) .leaf) .leaf) .leaf) .leaf)) .leaf)) (.cut 3 4 (.cut 4 0 .leaf (.cut 4 1 (.cut 5 0 .leaf (.cut 5 16 (.cut 7 3 (.conj [(8, 0), (9, 0), (10, 0), (11, 0), (12, 0)] (.conj [(13, 0), (14, 0), (15, 0)] (.cut 1 1 (.cut 2 1 .leaf .leaf) .leaf) .leaf) .leaf) .leaf) .leaf)) .leaf)) .leaf))))
noncomputable def ru4L : Lf := (ru2L.lo 0 2)
noncomputable def ru5L : Lf := (ru4L.hi 0 (3 - 1))
noncomputable def ru6L : Lf := (ru5L.hi 3 (1 - 1))
def ru6T : Sp := .leaf
noncomputable def ru7L : Lf := (ru5L.lo 3 1)
noncomputable def ru8L : Lf := (ru7L.hi 3 (2 - 1))
def ru8T : Sp := (.conj [(5, 0), (6, 0), (7, 0)] (.cut 8 1 .leaf (.cut 8 2 (.conj [(10, 0), (11, 0), (12, 0)] (.conj [(13, 0), (14, 0), (15, 0)] (.cut 1 1 .leaf (.cut 1 7 (.cut 2 1 .leaf .leaf) .leaf)) .leaf) .leaf) (.cut 8 3 (.cut 9 0 .leaf (.cut 9 1 (.cut 10 0 .leaf (.cut 10 16 (.cut 12 3 (.conj [(13, 0), (14, 0), (15, 0)] (.cut 1 1 .leaf (.cut 1 7 (.cut 2 1 .leaf .leaf) .leaf)) .leaf) .leaf) .leaf)) .leaf)) (.cut 8 4 (.cut 9 0 .leaf (.cut 9 1 (.cut 10 0 .leaf (.cut 10 16 (.cut 12 3 (.conj [(13, 0), (14, 0), (15, 0)] (.cut 1 1 .leaf (.cut 1 7 (.cut 2 1 .leaf .leaf) .leaf)) .leaf) .leaf) .leaf)) .leaf)) .leaf)))) .leaf)
noncomputable def ru9L : Lf := (ru7L.lo 3 2)
noncomputable def ru10L : Lf := (ru9L.hi 3 (3 - 1))
def ru10T : Sp := (.cut 4 0 .leaf (.cut 4 1 (.cut 5 0 .leaf (.cut 5 16 (.cut 7 3 (.cut 8 1 .leaf (.cut 8 2 (.conj [(10, 0), (11, 0), (12, 0)] (.conj [(13, 0), (14, 0), (15, 0)] (.cut 1 1 .leaf (.cut 1 7 (.cut 2 1 .leaf .leaf) .leaf)) .leaf) .leaf) (.cut 8 3 (.cut 9 0 .leaf (.cut 9 1 (.cut 10 0 .leaf (.cut 10 16 (.cut 12 3 (.conj [(13, 0), (14, 0), (15, 0)] (.cut 1 1 .leaf (.cut 1 7 (.cut 2 1 (.tri 10 5 .leaf .leaf .leaf) .leaf) .leaf)) .leaf) .leaf) .leaf)) .leaf)) (.cut 8 4 (.cut 9 0 .leaf (.cut 9 1 (.cut 10 0 .leaf (.cut 10 16 (.cut 12 3 (.conj [(13, 0), (14, 0), (15, 0)] (.cut 1 1 .leaf (.cut 1 7 (.cut 2 1 (.tri 10 5 .leaf .leaf .leaf) .leaf) .leaf)) .leaf) .leaf) .leaf)) .leaf)) .leaf)))) .leaf) .leaf)) .leaf))
noncomputable def ru11L : Lf := (ru9L.lo 3 3)
def ru11T : Sp := (.cut 3 4 (.cut 4 0 .leaf (.cut 4 1 (.cut 5 0 .leaf (.cut 5 16 (.cut 7 3 (.cut 8 1 .leaf (.cut 8 2 (.conj [(10, 0), (11, 0), (12, 0)] (.conj [(13, 0), (14, 0), (15, 0)] (.cut 1 1 .leaf (.cut 1 7 (.cut 2 1 .leaf .leaf) .leaf)) .leaf) .leaf) (.cut 8 3 (.cut 9 0 .leaf (.cut 9 1 (.cut 10 0 .leaf (.cut 10 16 (.cut 12 3 (.conj [(13, 0), (14, 0), (15, 0)] (.cut 1 1 .leaf (.cut 1 7 (.cut 2 1 (.tri 10 5 .leaf .leaf .leaf) .leaf) .leaf)) .leaf) .leaf) .leaf)) .leaf)) (.cut 8 4 (.cut 9 0 .leaf (.cut 9 1 (.cut 10 0 .leaf (.cut 10 16 (.cut 12 3 (.conj [(13, 0), (14, 0), (15, 0)] (.cut 1 1 .leaf (.cut 1 7 (.cut 2 1 (.tri 10 5 .leaf .leaf .leaf) .leaf) .leaf)) .leaf) .leaf) .leaf)) .leaf)) .leaf)))) .leaf) .leaf)) .leaf)) .leaf)
def ru9T : Sp := .cut 3 3 ru10T ru11T
def ru7T : Sp := .cut 3 2 ru8T ru9T
def ru5T : Sp := .cut 3 1 ru6T ru7T
noncomputable def ru12L : Lf := (ru4L.lo 0 3)
noncomputable def ru13L : Lf := (ru12L.hi 0 (4 - 1))
noncomputable def ru14L : Lf := (ru13L.hi 3 (1 - 1))
def ru14T : Sp := .leaf
noncomputable def ru15L : Lf := (ru13L.lo 3 1)
noncomputable def ru16L : Lf := (ru15L.hi 3 (2 - 1))
def ru16T : Sp := (.conj [(5, 0), (6, 0), (7, 0)] (.cut 8 1 .leaf (.cut 8 2 (.conj [(10, 0), (11, 0), (12, 0)] (.conj [(13, 0), (14, 0), (15, 0)] (.cut 1 1 (.cut 2 1 .leaf .leaf) .leaf) .leaf) .leaf) (.cut 8 3 (.cut 9 0 .leaf (.cut 9 1 (.cut 10 0 .leaf (.cut 10 16 (.cut 12 3 (.conj [(13, 0), (14, 0), (15, 0)] (.cut 1 1 (.cut 2 1 .leaf .leaf) .leaf) .leaf) .leaf) .leaf)) .leaf)) (.cut 8 4 (.cut 9 0 .leaf (.cut 9 1 (.cut 10 0 .leaf (.cut 10 16 (.cut 12 3 (.conj [(13, 0), (14, 0), (15, 0)] (.cut 1 1 (.cut 2 1 .leaf .leaf) .leaf) .leaf) .leaf) .leaf)) .leaf)) .leaf)))) .leaf)
noncomputable def ru17L : Lf := (ru15L.lo 3 2)
noncomputable def ru18L : Lf := (ru17L.hi 3 (3 - 1))
def ru18T : Sp := (.cut 4 0 .leaf (.cut 4 1 (.cut 5 0 .leaf (.cut 5 16 (.cut 7 3 (.cut 8 1 .leaf (.cut 8 2 (.conj [(10, 0), (11, 0), (12, 0)] (.conj [(13, 0), (14, 0), (15, 0)] (.cut 1 1 (.cut 2 1 .leaf .leaf) .leaf) .leaf) .leaf) (.cut 8 3 (.cut 9 0 .leaf (.cut 9 1 (.cut 10 0 .leaf (.cut 10 16 (.cut 12 3 (.conj [(13, 0), (14, 0), (15, 0)] (.cut 1 1 (.cut 2 1 (.tri 10 5 .leaf .leaf .leaf) .leaf) .leaf) .leaf) .leaf) .leaf)) .leaf)) (.cut 8 4 (.cut 9 0 .leaf (.cut 9 1 (.cut 10 0 .leaf (.cut 10 16 (.cut 12 3 (.conj [(13, 0), (14, 0), (15, 0)] (.cut 1 1 (.cut 2 1 (.tri 10 5 .leaf .leaf .leaf) .leaf) .leaf) .leaf) .leaf) .leaf)) .leaf)) .leaf)))) .leaf) .leaf)) .leaf))
noncomputable def ru19L : Lf := (ru17L.lo 3 3)
def ru19T : Sp := (.cut 3 4 (.cut 4 0 .leaf (.cut 4 1 (.cut 5 0 .leaf (.cut 5 16 (.cut 7 3 (.cut 8 1 .leaf (.cut 8 2 (.conj [(10, 0), (11, 0), (12, 0)] (.conj [(13, 0), (14, 0), (15, 0)] (.cut 1 1 (.cut 2 1 .leaf .leaf) .leaf) .leaf) .leaf) (.cut 8 3 (.cut 9 0 .leaf (.cut 9 1 (.cut 10 0 .leaf (.cut 10 16 (.cut 12 3 (.conj [(13, 0), (14, 0), (15, 0)] (.cut 1 1 (.cut 2 1 (.tri 10 5 .leaf .leaf .leaf) .leaf) .leaf) .leaf) .leaf) .leaf)) .leaf)) (.cut 8 4 (.cut 9 0 .leaf (.cut 9 1 (.cut 10 0 .leaf (.cut 10 16 (.cut 12 3 (.conj [(13, 0), (14, 0), (15, 0)] (.cut 1 1 (.cut 2 1 (.tri 10 5 .leaf .leaf .leaf) .leaf) .leaf) .leaf) .leaf) .leaf)) .leaf)) .leaf)))) .leaf) .leaf)) .leaf)) .leaf)
def ru17T : Sp := .cut 3 3 ru18T ru19T
def ru15T : Sp := .cut 3 2 ru16T ru17T
def ru13T : Sp := .cut 3 1 ru14T ru15T
noncomputable def ru20L : Lf := (ru12L.lo 0 4)
def ru20T : Sp := (.cut 0 5 (.conj [(3, 0), (4, 0), (5, 0), (6, 0), (7, 0)] (.conj [(8, 0), (9, 0), (10, 0), (11, 0), (12, 0)] (.cut 13 0 .leaf (.cut 13 16 (.cut 15 3 (.cut 1 1 (.cut 2 1 .leaf (.cut 2 4 .leaf .leaf)) .leaf) .leaf) .leaf)) .leaf) .leaf) (.cut 0 6 (.conj [(3, 0), (4, 0), (5, 0), (6, 0), (7, 0)] (.conj [(8, 0), (9, 0), (10, 0), (11, 0), (12, 0)] (.cut 13 0 .leaf (.cut 13 16 (.cut 15 3 (.cut 1 1 (.cut 2 1 .leaf .leaf) .leaf) .leaf) .leaf)) .leaf) .leaf) .leaf))
def ru12T : Sp := .cut 0 4 ru13T ru20T
def ru4T : Sp := .cut 0 3 ru5T ru12T
def ru2T : Sp := .cut 0 2 ru3T ru4T
def ru0T : Sp := .cut 0 1 ru1T ru2T
noncomputable def goodU_ruA (L : Lf) : Bool := cyc L || listAt (okRvE 0) kRv (@rvUX (L.know (strsT 0 kRv)) (cellsL kRv L) 0) L (runL 83 kRv L)
theorem ruA_ru1 : (ru1T.leaves ru1L).all goodU_ruA = true := by kernel_rfl
theorem ruA_ru3 : (ru3T.leaves ru3L).all goodU_ruA = true := by kernel_rfl
theorem ruA_ru6 : (ru6T.leaves ru6L).all goodU_ruA = true := by kernel_rfl
theorem ruA_ru8 : (ru8T.leaves ru8L).all goodU_ruA = true := by kernel_rfl
theorem ruA_ru10 : (ru10T.leaves ru10L).all goodU_ruA = true := by kernel_rfl
theorem ruA_ru11 : (ru11T.leaves ru11L).all goodU_ruA = true := by kernel_rfl
theorem ruA_ru14 : (ru14T.leaves ru14L).all goodU_ruA = true := by kernel_rfl
theorem ruA_ru16 : (ru16T.leaves ru16L).all goodU_ruA = true := by kernel_rfl
theorem ruA_ru18 : (ru18T.leaves ru18L).all goodU_ruA = true := by kernel_rfl
theorem ruA_ru19 : (ru19T.leaves ru19L).all goodU_ruA = true := by kernel_rfl
theorem ruA_ru20 : (ru20T.leaves ru20L).all goodU_ruA = true := by kernel_rfl
theorem ruA_ru9 : (ru9T.leaves ru9L).all goodU_ruA = true := by
  have e : ru9T.leaves ru9L = ru10T.leaves ru10L ++ ru11T.leaves ru11L := rfl
  rw [e]
  simp only [List.all_append, ruA_ru10, ruA_ru11, Bool.and_self]
theorem ruA_ru7 : (ru7T.leaves ru7L).all goodU_ruA = true := by
  have e : ru7T.leaves ru7L = ru8T.leaves ru8L ++ ru9T.leaves ru9L := rfl
  rw [e]
  simp only [List.all_append, ruA_ru8, ruA_ru9, Bool.and_self]
theorem ruA_ru5 : (ru5T.leaves ru5L).all goodU_ruA = true := by
  have e : ru5T.leaves ru5L = ru6T.leaves ru6L ++ ru7T.leaves ru7L := rfl
  rw [e]
  simp only [List.all_append, ruA_ru6, ruA_ru7, Bool.and_self]
theorem ruA_ru17 : (ru17T.leaves ru17L).all goodU_ruA = true := by
  have e : ru17T.leaves ru17L = ru18T.leaves ru18L ++ ru19T.leaves ru19L := rfl
  rw [e]
  simp only [List.all_append, ruA_ru18, ruA_ru19, Bool.and_self]
theorem ruA_ru15 : (ru15T.leaves ru15L).all goodU_ruA = true := by
  have e : ru15T.leaves ru15L = ru16T.leaves ru16L ++ ru17T.leaves ru17L := rfl
  rw [e]
  simp only [List.all_append, ruA_ru16, ruA_ru17, Bool.and_self]
theorem ruA_ru13 : (ru13T.leaves ru13L).all goodU_ruA = true := by
  have e : ru13T.leaves ru13L = ru14T.leaves ru14L ++ ru15T.leaves ru15L := rfl
  rw [e]
  simp only [List.all_append, ruA_ru14, ruA_ru15, Bool.and_self]
theorem ruA_ru12 : (ru12T.leaves ru12L).all goodU_ruA = true := by
  have e : ru12T.leaves ru12L = ru13T.leaves ru13L ++ ru20T.leaves ru20L := rfl
  rw [e]
  simp only [List.all_append, ruA_ru13, ruA_ru20, Bool.and_self]
theorem ruA_ru4 : (ru4T.leaves ru4L).all goodU_ruA = true := by
  have e : ru4T.leaves ru4L = ru5T.leaves ru5L ++ ru12T.leaves ru12L := rfl
  rw [e]
  simp only [List.all_append, ruA_ru5, ruA_ru12, Bool.and_self]
theorem ruA_ru2 : (ru2T.leaves ru2L).all goodU_ruA = true := by
  have e : ru2T.leaves ru2L = ru3T.leaves ru3L ++ ru4T.leaves ru4L := rfl
  rw [e]
  simp only [List.all_append, ruA_ru3, ruA_ru4, Bool.and_self]
theorem ruA_ru0 : (ru0T.leaves ru0L).all goodU_ruA = true := by
  have e : ru0T.leaves ru0L = ru1T.leaves ru1L ++ ru2T.leaves ru2L := rfl
  rw [e]
  simp only [List.all_append, ruA_ru1, ruA_ru2, Bool.and_self]
theorem ruA_lists : ListsE 83 kRv (okRvE 0) (fun us => rvU (rvAt us 0)) := lists_of (fun L xs => @rvUX (L.know (strsT 0 kRv)) xs 0) (fun b0 L r xs us q hK ha h => by rw [← hK] at h; exact @rvUX_ok b0 r xs us ha 0 q h) (sp := ru0T) ruA_ru0
end Go.Proofs.YthdcahkedlijpaaGreat.Am
namespace Go.Proofs.YthdcahkedlijpaaGreat.Am
set_option linter.unusedVariables false
def Incr : List Int → Prop
  | [] => True
  | a :: r => (∀ b ∈ r, a < b) ∧ Incr r
theorem insU_incr {a : Int} : ∀ {l : List Int}, Incr l → Incr (insU a l)
  | [], _ => ⟨fun _ h => (by cases h), trivial⟩
  | b :: r, ⟨h1, h2⟩ => by
    unfold insU
    split
    · rename_i hab
      refine ⟨fun c hc => ?_, h1, h2⟩
      rcases List.mem_cons.1 hc with rfl | hc
      · exact hab
      · have := h1 c hc; omega
    · split
      · exact ⟨h1, h2⟩
      · refine ⟨fun c hc => ?_, insU_incr h2⟩
        rcases insU_mem.1 hc with rfl | hc
        · omega
        · exact h1 c hc
theorem srtU_incr : ∀ l : List Int, Incr (srtU l)
  | [] => trivial
  | _ :: r => insU_incr (srtU_incr r)
theorem insU_len (a : Int) : ∀ l : List Int, (insU a l).length ≤ l.length + 1
  | [] => Nat.le_refl _
  | b :: r => by
    unfold insU
    have := insU_len a r
    split
    · simp
    · split
      · simp
      · simp only [List.length_cons]; omega
theorem srtU_len : ∀ l : List Int, (srtU l).length ≤ l.length
  | [] => Nat.le_refl _
  | a :: r => by
    have h1 := insU_len a (srtU r)
    have h2 := srtU_len r
    simp only [srtU, List.length_cons]
    omega
theorem opU_len (o : Opd) : (opU o).length ≤ 1 := by unfold opU; split <;> simp
theorem rvU_len (r : Rv) : (rvU r).length ≤ 2 := by
  have h1 := opU_len r.a
  have h2 := opU_len r.b
  have h3 := srtU_len (opU r.a ++ opU r.b)
  rw [List.length_append] at h3
  unfold rvU
  split
  · omega
  · split
    · omega
    · simp
def In16 (l : List Int) : Prop := ∀ x ∈ l, 0 ≤ x ∧ x ≤ 15
theorem opU_in {o : Opd} (h : o.Ok) : In16 (opU o) ∧ Incr (opU o) := by
  unfold opU
  rcases h with ⟨h1, _⟩ | ⟨h1, _, h3⟩
  · rw [if_pos h1]
    exact ⟨fun x hx => (by cases hx), trivial⟩
  · rw [if_neg (by omega)]
    exact ⟨fun x hx => by rw [List.mem_singleton.1 hx]; exact ⟨h3.l0, h3.l1⟩, ⟨fun _ h => (by cases h), trivial⟩⟩
theorem rvU_in {r : Rv} (h : r.Ok) : In16 (rvU r) ∧ Incr (rvU r) := by
  have two : r.a.Ok → r.b.Ok → In16 (srtU (opU r.a ++ opU r.b)) := fun ha hb x hx => by
    rcases List.mem_append.1 (srtU_mem.1 hx) with hx | hx
    · exact (opU_in ha).1 x hx
    · exact (opU_in hb).1 x hx
  have one : InP r.l r.f → In16 [r.l] ∧ Incr [r.l] := fun hp => ⟨fun x hx => by rw [List.mem_singleton.1 hx]; exact ⟨hp.l0, hp.l1⟩, ⟨fun _ h => (by cases h), trivial⟩⟩
  unfold rvU
  rcases h with ⟨hk, ha, _⟩ | ⟨hk, ha, hb, _⟩ | ⟨hk, ha, hb, _⟩ | ⟨hk, _, _, _, _, hp⟩ | ⟨hk, _, _, _, _, hp⟩
  · rw [if_pos hk]
    exact opU_in ha
  · rw [if_neg (by omega), if_pos (by omega)]
    exact ⟨two ha hb, srtU_incr _⟩
  · rw [if_neg (by omega), if_pos (by omega)]
    exact ⟨two ha hb, srtU_incr _⟩
  · rw [if_neg (by omega), if_neg (by omega)]
    exact one hp
  · rw [if_neg (by omega), if_neg (by omega)]
    exact one hp
theorem incr_lt : ∀ {l : List Int}, Incr l → ∀ {i j : Nat} {x y : Int}, i < j → l[i]? = some x → l[j]? = some y → x < y
  | [], _, _, _, _, _, _, h, _ => by simp at h
  | a :: l, ⟨h1, h2⟩, 0, j + 1, x, y, _, hx, hy => by
    simp only [List.getElem?_cons_zero, Option.some.injEq] at hx
    subst hx
    exact h1 y (List.mem_of_getElem? (by simpa using hy))
  | a :: l, ⟨h1, h2⟩, i + 1, j + 1, x, y, hij, hx, hy => incr_lt h2 (i := i) (j := j) (by omega) (by simpa using hx) (by simpa using hy)
end Go.Proofs.YthdcahkedlijpaaGreat.Am
namespace Go.Proofs.YthdcahkedlijpaaGreat.Am
open Go.RowKit
set_option linter.unusedSectionVars false
set_option linter.unusedVariables false
set_option maxRecDepth 100000
set_option maxHeartbeats 2000000
def gsS : List Gp := [(true, kSt)]
def pairsU (nu : Nat) : List (Nat × Nat) := (List.range nu).flatMap fun j => (List.range j).map fun i => (26 + i, 26 + j)
noncomputable def onlyL (L : Lf) (i : Nat) (c : Int) : Lf := (L.hi i c).lo i c
noncomputable def zeroL (L : Lf) (o : Nat) : Nat → Lf
  | 0 => L
  | n + 1 => onlyL (zeroL L o n) (o + n) 0
def L0U (nu : Nat) : Lf := { Lf.startB gsS [] (List.replicate nu (0, 15)) with lt := pairsU nu }
noncomputable def LcU (c nu : Nat) : Lf :=
  bif Nat.beq c 1 then zeroL ((((onlyL (L0U nu) 0 1).hi 1 15).lo 1 0).hi 3 2) 20 6
  else bif Nat.beq c 2 then zeroL (zeroL (zeroL (onlyL (onlyL (L0U 0) 0 2) 20 1) 22 3) 1 19) 25 1
  else bif Nat.beq c 4 then zeroL (zeroL (zeroL (onlyL (onlyL (L0U 0) 0 4) 20 1) 22 3) 1 19) 25 1
  else bif Nat.beq c 12 then ((((onlyL (((zeroL (zeroL (onlyL (L0U 0) 0 2) 1 19) 25 1).hi 20 3).lo 20 2) 21 0).hi 22 15).lo 22 0).hi 24 2)
  else bif Nat.beq c 14 then ((((onlyL (((zeroL (zeroL (onlyL (L0U 0) 0 4) 1 19) 25 1).hi 20 3).lo 20 2) 21 0).hi 22 15).lo 22 0).hi 24 2)
  else zeroL (zeroL (((onlyL (L0U 0) 0 3).hi 25 15).lo 25 0) 1 19) 20 5
theorem LcU_1 (nu : Nat) : LcU 1 nu = zeroL ((((onlyL (L0U nu) 0 1).hi 1 15).lo 1 0).hi 3 2) 20 6 := rfl
theorem LcU_2 : LcU 2 0 = zeroL (zeroL (zeroL (onlyL (onlyL (L0U 0) 0 2) 20 1) 22 3) 1 19) 25 1 := rfl
theorem LcU_4 : LcU 4 0 = zeroL (zeroL (zeroL (onlyL (onlyL (L0U 0) 0 4) 20 1) 22 3) 1 19) 25 1 := rfl
theorem LcU_12 : LcU 12 0 = ((((onlyL (((zeroL (zeroL (onlyL (L0U 0) 0 2) 1 19) 25 1).hi 20 3).lo 20 2) 21 0).hi 22 15).lo 22 0).hi 24 2) := rfl
theorem LcU_14 : LcU 14 0 = ((((onlyL (((zeroL (zeroL (onlyL (L0U 0) 0 4) 1 19) 25 1).hi 20 3).lo 20 2) 21 0).hi 22 15).lo 22 0).hi 24 2) := rfl
theorem LcU_3 : LcU 3 0 = zeroL (zeroL (((onlyL (L0U 0) 0 3).hi 25 15).lo 25 0) 1 19) 20 5 := rfl
def spI : Sp := (.cut 2 1 (.cut 3 1 .leaf .leaf) .leaf)
def spT : Sp := .tri 27 1 spI spI spI
def spU (c nu : Nat) : Sp := bif Nat.beq c 1 then (bif Nat.beq nu 0 then spI else bif Nat.beq nu 1 then .tri 26 1 spI spI spI else .tri 26 1 spT spT spT) else bif Nat.beq c 12 || Nat.beq c 14 then (.cut 20 3 (.cut 22 1 .leaf .leaf) (.cut 22 1 .leaf .leaf)) else .leaf
noncomputable def rowsU (L : Lf) (c nu : Nat) : List Oracle :=
  [cellO 70 (clL L 0 kSt) (m8 true)]
  ++ (bif Nat.beq c 1 then [listO 83 (clL L 4 kRv) ((numsX 26 nu).map L.nS)] else [])
noncomputable def libU (L : Lf) (c nu : Nat) : Oracle := fun f a h fl => orR (orcs (rowsU L c nu) f a h fl) (orR (valid4 (L.know []) f a h fl) (insXO f a h fl))
noncomputable def runU (F : FuncId) (c nu : Nat) (L : Lf) : R := @runs (L.know []) (tyOf Tryz.prog) (fnOf Tryz.prog) (libU L c nu) 30 20 F [.g (clL L 0 kSt)] ⟨[], 0⟩ 0
noncomputable def expU (L : Lf) (c nu : Nat) : Option (List N) := letI := L.know []
  bif Nat.beq c 1 then ob (mapO numN ((numsX 26 nu).map L.nS)) fun l => ob (partX (clL L 0 kSt)) fun p => bif p then ob (nth (clL L 0 kSt) 1) fun x => ob (numN x) fun n => insX n l else some l
  else stUX (clL L 0 kSt)
noncomputable def goodU (F : FuncId) (c nu : Nat) (L : Lf) : Bool := cyc L || Option.rec false (fun q => Option.rec false (fun cs => sameL S.eqv (q.map numS) cs) (rowAt (runU F c nu L))) (expU L c nu)
def casesU : List (Nat × Nat) := [(1, 0), (1, 1), (1, 2), (2, 0), (4, 0), (12, 0), (14, 0), (3, 0)]
noncomputable def allU (F : FuncId) (c : Nat × Nat) : Bool := ((spU c.1 c.2).leaves (LcU c.1 c.2)).all (goodU F c.1 c.2)
theorem usesA_run : casesU.all (allU 58) = true := by kernel_rfl
theorem Lf.Holds.onlyL {L : Lf} {rho : Nat → Int} {sig : Nat → List UInt8} (h : L.Holds rho sig) {i : Nat} {c : Int} (e : rho i = c) : (onlyL L i c).Holds rho sig := (h.hi (i := i) (c := c) (by omega)).lo (i := i) (c := c) (by omega)
theorem Lf.Holds.zeroL {L : Lf} {rho : Nat → Int} {sig : Nat → List UInt8} (h : L.Holds rho sig) {o : Nat} : ∀ {n : Nat}, (∀ i, i < n → rho (o + i) = 0) → (zeroL L o n).Holds rho sig
  | 0, _ => h
  | n + 1, hz => (Lf.Holds.zeroL h fun i hi => hz i (by omega)).onlyL (hz n (by omega))
theorem st_shape {us : List Value} (h : okStE.val us = true) :
    (cellI us 0 = 1 ∧ (E.zero (zs 20 5)).val us = true ∧ cellI us 25 = 0) ∨
    ((cellI us 0 = 2 ∨ cellI us 0 = 4) ∧ (E.zero (zs 1 3)).val us = true ∧ (E.zero (zs 4 16)).val us = true ∧ cellI us 25 = 0) ∨
    (cellI us 0 = 3 ∧ (E.zero (zs 1 3)).val us = true ∧ (E.zero (zs 4 16)).val us = true ∧ (E.zero (zs 20 5)).val us = true) := by
  have v2 : ∀ a b : E, (E.and a b).val us = true → a.val us = true ∧ b.val us = true := fun a b h => by simpa [E.val] using h
  have o2 : ∀ a b : E, (E.or a b).val us = true → a.val us = true ∨ b.val us = true := fun a b h => by simpa [E.val] using h
  rcases o2 _ _ h with h | h
  · obtain ⟨h1, h⟩ := v2 _ _ h
    obtain ⟨_, h⟩ := v2 _ _ h
    obtain ⟨_, h⟩ := v2 _ _ h
    obtain ⟨h4, h5⟩ := v2 _ _ h
    exact .inl ⟨one_val h1, h4, one_val h5⟩
  rcases o2 _ _ h with h | h
  · obtain ⟨h1, h⟩ := v2 _ _ h
    obtain ⟨h2, h⟩ := v2 _ _ h
    obtain ⟨h3, h⟩ := v2 _ _ h
    obtain ⟨_, h5⟩ := v2 _ _ h
    exact .inr (.inl ⟨(o2 _ _ h1).imp one_val one_val, h2, h3, one_val h5⟩)
  · obtain ⟨h1, h⟩ := v2 _ _ h
    obtain ⟨h2, h⟩ := v2 _ _ h
    obtain ⟨h3, h⟩ := v2 _ _ h
    obtain ⟨h4, h⟩ := v2 _ _ h
    exact .inr (.inr ⟨one_val h1, h2, h3, h4⟩)
theorem zs19 {us : List Value} (h1 : (E.zero (zs 1 3)).val us = true) (h2 : (E.zero (zs 4 16)).val us = true) : ∀ i, i < 19 → cellI us (1 + i) = 0 := fun i hi => by
  by_cases h : i < 3
  · exact zs_val h1 i h
  · have := zs_val h2 (i - 3) (by omega)
    rw [show 4 + (i - 3) = 1 + i by omega] at this
    exact this
def fullU (us : List Value) : List Value := behind (us ++ []) [] (rvU (rvAt us 4))
section
variable {us : List Value} (hk : All2 Kd.ok kSt us)
include hk
theorem gpsU : Gps gsS [.agg us.toArray] (us ++ []) := ⟨us, _, rfl, ⟨hk, .inl ⟨rfl, rfl⟩⟩, rfl⟩
theorem lenU : (us ++ []).length = 26 := by rw [List.append_nil]; exact hk.len.symm
theorem rhoU {i : Nat} (hi : i < 26) : rhoOf (fullU us) i = cellI us i := by
  unfold fullU
  rw [behind_cell (by rw [lenU hk]; exact hi), List.append_nil]
theorem rhoE {j : Nat} {x : Int} (hx : (rvU (rvAt us 4))[j]? = some x) : rhoOf (fullU us) (26 + j) = x := behind_int (a := 0) (lenU hk) rfl hx
theorem holdsU0 : (L0U 0).Holds (rhoOf (fullU us)) (sigOf (fullU us)) := by
  have h1 : (Lf.startB gsS [] []).Holds (rhoOf (fullU us)) (sigOf (fullU us)) := Lf.startB_some (gpsU hk) (ivS := []) (ivI := []) (strs := []) trivial (i0 := []) rfl trivial
  exact ⟨h1.iv, h1.ne, fun _ _ m => (by cases m), h1.to, h1.st, h1.sn, h1.cf⟩
theorem rep2 {α : Type} {R : (Int × Int) → α → Prop} {p : Int × Int} : ∀ {l : List α}, (∀ x ∈ l, R p x) → All2 R (List.replicate l.length p) l
  | [], _ => trivial
  | x :: l, h => ⟨h x (List.mem_cons_self ..), rep2 fun y hy => h y (List.mem_cons_of_mem _ hy)⟩
theorem holdsU (hr : (rvAt us 4).Ok) : (L0U (rvU (rvAt us 4)).length).Holds (rhoOf (fullU us)) (sigOf (fullU us)) := by
  have h1 : (Lf.startB gsS [] (List.replicate (rvU (rvAt us 4)).length ((0, 15) : Int × Int))).Holds (rhoOf (fullU us)) (sigOf (fullU us)) :=
    Lf.startB_ok (gpsU hk) (ivS := []) (strs := []) trivial (rep2 hk (R := fun p (m : Int) => p.1 ≤ m ∧ m ≤ p.2) fun x hx => (rvU_in hr).1 x hx)
  refine ⟨h1.iv, h1.ne, fun i j m => ?_, h1.to, h1.st, h1.sn, h1.cf⟩
  have m : (i, j) ∈ pairsU (rvU (rvAt us 4)).length := m
  obtain ⟨b, hb, m⟩ := List.mem_flatMap.1 m
  obtain ⟨a, ha, e⟩ := List.mem_map.1 m
  have hb := List.mem_range.1 hb
  have ha := List.mem_range.1 ha
  cases e
  have e1 : (rvU (rvAt us 4))[a]? = some ((rvU (rvAt us 4))[a]'(by omega)) := List.getElem?_eq_getElem _
  have e2 : (rvU (rvAt us 4))[b]? = some ((rvU (rvAt us 4))[b]'(by omega)) := List.getElem?_eq_getElem _
  rw [rhoE hk e1, rhoE hk e2]
  exact incr_lt (rvU_in hr).2 ha e1 e2
theorem classU (he : okStE.val us = true) : ∃ c nu, (c, nu) ∈ casesU ∧ (LcU c nu).Holds (rhoOf (fullU us)) (sigOf (fullU us)) ∧ ((c = 1 ∧ cellI us 0 = 1 ∧ nu = (rvU (rvAt us 4)).length ∧ (okRvE 4).val us = true) ∨ c ≠ 1) := by
  obtain ⟨ho, hs⟩ := st_val he hk
  have c0 : ∀ i, i < 26 → rhoOf (fullU us) i = cellI us i := fun i hi => rhoU hk hi
  have z : ∀ {o n : Nat}, o + n ≤ 26 → (∀ i, i < n → cellI us (o + i) = 0) → ∀ i, i < n → rhoOf (fullU us) (o + i) = 0 := fun {o n} hon h i hi => (c0 _ (by omega)).trans (h i hi)
  rcases st_shape he with ⟨k, h1, h2⟩ | ⟨k, h1, h2, h3⟩ | ⟨k, h1, h2, h3⟩
  · have hp : (okPlE 1).val us = true ∧ (okRvE 4).val us = true := by
      rcases hs with ⟨_, e⟩ | ⟨e, _⟩ | e
      · exact e
      · omega
      · omega
    have hr := rv_val hp.2 (stR_ok hk)
    have hin := pl_val hp.1 (ok_u8 hk rfl)
    have hin0 := hin.l0; have hin1 := hin.l1; have hf1 : cellI us 3 ≤ 2 := hin.f1
    have hl := rvU_len (rvAt us 4)
    refine ⟨1, (rvU (rvAt us 4)).length, ?_, ?_, .inl ⟨rfl, k, rfl, hp.2⟩⟩
    · have : (rvU (rvAt us 4)).length = 0 ∨ (rvU (rvAt us 4)).length = 1 ∨ (rvU (rvAt us 4)).length = 2 := by omega
      rcases this with e | e | e <;> rw [e] <;> decide
    · rw [LcU_1]
      refine Lf.Holds.zeroL (((((holdsU hk hr).onlyL ((c0 0 (by decide)).trans k)).hi (i := 1) (c := 15) (by rw [c0 1 (by decide)]; exact hin1)).lo (i := 1) (c := 0) (by rw [c0 1 (by decide)]; exact hin0)).hi (i := 3) (c := 2) (by rw [c0 3 (by decide)]; exact hf1)) fun i hi => ?_
      rw [c0 _ (by omega)]
      by_cases h5 : i < 5
      · exact zs_val h1 i h5
      · obtain rfl : i = 5 := by omega
        exact h2
  · have hop : (okOpE 20).val us = true := by
      rcases hs with ⟨e, _⟩ | ⟨_, e⟩ | e
      · omega
      · exact e
      · omega
    have z19 := z (o := 1) (n := 19) (by decide) (zs19 h1 h2)
    have z25 : ∀ i, i < 1 → rhoOf (fullU us) (25 + i) = 0 := fun i hi => by
      obtain rfl : i = 0 := by omega
      exact (c0 25 (by decide)).trans h3
    have hO := op_val hop (ok_i64 hk rfl) (ok_u8 hk rfl)
    have b23 : cellI us 23 = 0 ∨ cellI us 23 = 1 := ok_b hk rfl
    rcases hO with ⟨q1, _, q3, q4, q5⟩ | ⟨q1, q2, q3⟩
    · have q1 : cellI us 20 = 1 := q1
      have q4 : decide (cellI us 23 = 1) = false := q4
      have q4' : cellI us 23 = 0 := by
        rcases b23 with e | e
        · exact e
        · rw [e] at q4; cases q4
      have z22 : ∀ i, i < 3 → rhoOf (fullU us) (22 + i) = 0 := fun i hi => by
        match i, hi with
        | 0, _ => exact (c0 22 (by decide)).trans q3
        | 1, _ => exact (c0 23 (by decide)).trans q4'
        | 2, _ => exact (c0 24 (by decide)).trans q5
      rcases k with k | k
      · refine ⟨2, 0, by decide, ?_, .inr (by decide)⟩
        rw [LcU_2]
        exact (((((holdsU0 hk).onlyL ((c0 0 (by decide)).trans k)).onlyL ((c0 20 (by decide)).trans q1)).zeroL z22).zeroL z19).zeroL z25
      · refine ⟨4, 0, by decide, ?_, .inr (by decide)⟩
        rw [LcU_4]
        exact (((((holdsU0 hk).onlyL ((c0 0 (by decide)).trans k)).onlyL ((c0 20 (by decide)).trans q1)).zeroL z22).zeroL z19).zeroL z25
    · have q1 : cellI us 20 = 2 ∨ cellI us 20 = 3 := q1
      have q2 : cellI us 21 = 0 := q2
      have l0 : 0 ≤ cellI us 22 := q3.l0
      have l1 : cellI us 22 ≤ 15 := q3.l1
      have f1 : cellI us 24 ≤ 2 := q3.f1
      have key : ∀ {n : Int}, cellI us 0 = n → ((((onlyL (((zeroL (zeroL (onlyL (L0U 0) 0 n) 1 19) 25 1).hi 20 3).lo 20 2) 21 0).hi 22 15).lo 22 0).hi 24 2).Holds (rhoOf (fullU us)) (sigOf (fullU us)) := fun {n} k =>
        (((((((((holdsU0 hk).onlyL ((c0 0 (by decide)).trans k)).zeroL z19).zeroL z25).hi (i := 20) (c := 3) (by rw [c0 20 (by decide)]; omega)).lo (i := 20) (c := 2) (by rw [c0 20 (by decide)]; omega)).onlyL ((c0 21 (by decide)).trans q2)).hi (i := 22) (c := 15) (by rw [c0 22 (by decide)]; omega)).lo (i := 22) (c := 0) (by rw [c0 22 (by decide)]; omega)).hi (i := 24) (c := 2) (by rw [c0 24 (by decide)]; omega)
      rcases k with k | k
      · refine ⟨12, 0, by decide, ?_, .inr (by decide)⟩
        rw [LcU_12]
        exact key k
      · refine ⟨14, 0, by decide, ?_, .inr (by decide)⟩
        rw [LcU_14]
        exact key k
  · have z19 := z (o := 1) (n := 19) (by decide) (zs19 h1 h2)
    have z20 := z (o := 20) (n := 5) (by decide) (zs_val h3)
    have hn : 0 ≤ cellI us 25 ∧ cellI us 25 < 16 := by
      rcases ho with ⟨e, _⟩ | ⟨e, _⟩ | ⟨_, _, _, _, _, _, e⟩
      · have e : cellI us 0 = 1 := e
        omega
      · have e : cellI us 0 = 2 ∨ cellI us 0 = 4 := e
        omega
      · exact e
    refine ⟨3, 0, by decide, ?_, .inr (by decide)⟩
    rw [LcU_3]
    exact (((((holdsU0 hk).onlyL ((c0 0 (by decide)).trans k)).hi (i := 25) (c := 15) (by rw [c0 25 (by decide)]; omega)).lo (i := 25) (c := 0) (by rw [c0 25 (by decide)]; omega)).zeroL z19).zeroL z20
end
theorem numsN_ok [Base] {r : Ren} : ∀ {xs : List S} {l : List N} {vs : List Int}, mapO numN xs = some l → All2 (VS r) xs (vs.map (Value.int .i64)) → l.map NV = vs
  | [], l, [], h, _ => by cases h; rfl
  | [], _, _ :: _, _, h => h.elim
  | _ :: _, _, [], _, h => h.elim
  | x :: xs, l, v :: vs, h, ha => by
    obtain ⟨n, hn, h⟩ := ob_some (show (ob (numN x) fun y => ob (mapO numN xs) fun r => some (y :: r)) = some l from h)
    obtain ⟨q, hq, h⟩ := ob_some h
    cases h
    have e := numN_ok hn ha.1
    rw [List.map_cons, numsN_ok hq ha.2, ← e]
    rfl
theorem uses_of {F : FuncId} (hrun : casesU.all (allU F) = true) : ListsE F kSt okStE (fun us => stU (stOf us)) := by
  intro us hk he w hw
  obtain ⟨c, nu, hm, hst, hc⟩ := classU hk he
  have hall := List.all_eq_true.1 hrun (c, nu) hm
  obtain ⟨L, hmem, hL⟩ := (spU c nu).cover hst
  have hp : goodU F c nu L = true := List.all_eq_true.1 hall L hmem
  unfold goodU at hp
  rw [cyc_no hL, Bool.false_or] at hp
  have hlens : Lens [] (rhoOf (fullU us)) (sigOf (fullU us)) := lens_behind (n := 26) (a := 0) (gpsU hk) rfl (lenU hk) rfl
  letI b0 : Base := base0 w (Lf.ok hL hlens)
  have e0 : fullU us = us ++ ((([] : List (List UInt8)).map strV) ++ (rvU (rvAt us 4)).map (Value.int .i64)) := by
    unfold fullU behind
    rw [List.append_nil]
  have cs : All2 (VS r0) (clL L 0 kSt) us := clL_ok (pre := []) (us := us) (post := (([] : List (List UInt8)).map strV) ++ (rvU (rvAt us 4)).map (Value.int .i64)) hL rfl rfl e0 rfl hk
  have cr : All2 (VS r0) (clL L 4 kRv) ((us.drop 4).take 16) := (cs.drop 4).take 16
  have kr : All2 Kd.ok kRv ((us.drop 4).take 16) := (hk.drop 4).take 16
  have tabs : ∀ w' : World, (∀ b, b < Base.nb → w'.heap[b]? = Base.g b) → TabOk w' := fun w' h' => hw.all h'
  have hrv : rvAt ((us.drop 4).take 16) 0 = rvAt us 4 := by
    simp only [rvAt, opdAt, Nat.zero_add, Nat.reduceAdd, cellI_sub (us := us) (n := 4) (m := 16) (show 0 < 16 by decide), cellI_sub (us := us) (n := 4) (m := 16) (show 1 < 16 by decide), cellI_sub (us := us) (n := 4) (m := 16) (show 2 < 16 by decide), cellI_sub (us := us) (n := 4) (m := 16) (show 3 < 16 by decide), cellI_sub (us := us) (n := 4) (m := 16) (show 4 < 16 by decide), cellI_sub (us := us) (n := 4) (m := 16) (show 5 < 16 by decide),
      cellI_sub (us := us) (n := 4) (m := 16) (show 6 < 16 by decide), cellI_sub (us := us) (n := 4) (m := 16) (show 7 < 16 by decide), cellI_sub (us := us) (n := 4) (m := 16) (show 8 < 16 by decide), cellI_sub (us := us) (n := 4) (m := 16) (show 9 < 16 by decide), cellI_sub (us := us) (n := 4) (m := 16) (show 10 < 16 by decide), cellI_sub (us := us) (n := 4) (m := 16) (show 11 < 16 by decide),
      cellI_sub (us := us) (n := 4) (m := 16) (show 12 < 16 by decide), cellI_sub (us := us) (n := 4) (m := 16) (show 13 < 16 by decide), cellI_sub (us := us) (n := 4) (m := 16) (show 14 < 16 by decide), cellI_sub (us := us) (n := 4) (m := 16) (show 15 < 16 by decide)]
  have hN : nu = (rvU (rvAt us 4)).length → ∀ r, All2 (VS r) ((numsX 26 nu).map L.nS) (intsV (rvU (rvAt us 4))) := fun e r => by
    rw [e]
    exact Lf.nSs_ok hL (numsX_ok fun j m hj => rhoE hk hj)
  have hS : Sound Tryz.prog (libU L c nu) := by
    refine @sound_or b0 _ _ _ (sound_orcs fun O hO => ?_) (@sound_or b0 _ _ _ (sound_valid4 b0) (sound_insX b0))
    unfold rowsU at hO
    rcases List.mem_append.1 hO with hO | hO
    · simp only [List.mem_cons, List.not_mem_nil, or_false] at hO
      obtain rfl := hO
      · exact sound_cell ⟨_, Tryz.func70, by kernel_rfl, by kernel_rfl⟩ (ones_T _ kSt 0 rfl) cs (u := v8 true) (fun _ => rfl) fun w' _ => by rw [← he]; exact stA_tests us hk w' trivial
    · rcases hc with ⟨rfl, _, hnu, hvr⟩ | hc
      · have hO : O ∈ [listO 83 (clL L 4 kRv) ((numsX 26 nu).map L.nS)] := hO
        simp only [List.mem_cons, List.not_mem_nil, or_false] at hO
        have hv0 : (okRvE 0).val ((us.drop 4).take 16) = true := by rw [rv_at]; exact hvr
        obtain rfl := hO
        · refine sound_list ⟨_, Tryz.func83, by kernel_rfl, by kernel_rfl⟩ (ones_T _ kRv 4 rfl) cr (hN hnu) (Q := TabOk) (fun w' hw' => tabs w' hw') ?_
          have : Lists Tryz.prog TabOk 83 ((us.drop 4).take 16) (intsV (rvU (rvAt ((us.drop 4).take 16) 0))) := ruA_lists _ kr hv0
          rw [hrv] at this
          exact this
      · have hb : Nat.beq c 1 = false := by
          cases hb : Nat.beq c 1
          · rfl
          · exact absurd (Nat.eq_of_beq_eq_true hb) hc
        rw [hb] at hO
        cases hO
  cases hx : expU L c nu with
  | none => rw [hx] at hp; cases hp
  | some q =>
    rw [hx] at hp
    have hp : (Option.rec false (fun cs => sameL S.eqv (q.map numS) cs) (rowAt (runU F c nu L)) : Bool) = true := hp
    cases hr : rowAt (runU F c nu L) with
    | none => rw [hr] at hp; cases hp
    | some ys =>
      rw [hr] at hp
      have hys : q.map numS = ys := sameL_eq (fun _ _ => S.eqv_ok) hp
      subst hys
      have hq : q.map NV = stU (stOf us) := by
        unfold expU at hx
        rcases hc with ⟨rfl, k1, hnu, _⟩ | hc
        · obtain ⟨l, hl, hx⟩ := ob_some (show (ob (mapO numN ((numsX 26 nu).map L.nS)) fun l => ob (partX (clL L 0 kSt)) fun p => bif p then ob (nth (clL L 0 kSt) 1) fun x => ob (numN x) fun n => insX n l else some l) = some q from hx)
          obtain ⟨p, hp', hx⟩ := ob_some hx
          have e1 := numsN_ok hl (hN hnu r0)
          have e2 := partX_ok cs hp'
          unfold stU
          rw [if_pos (show (stOf us).k = 1 from k1)]
          cases p <;> simp only [cond_true, cond_false] at hx
          · rw [if_neg (fun hh => by have := e2.2 hh; cases this)]
            cases hx
            exact e1
          · rw [if_pos (e2.1 rfl)]
            obtain ⟨y, hy, hx⟩ := ob_some hx
            obtain ⟨n, hn, hx⟩ := ob_some hx
            obtain ⟨u2, k2, v2, c2⟩ := cellX cs hy
            rw [insX_ok hx, e1, ← numN_ok hn v2, ← c2]
            rfl
        · have hb : Nat.beq c 1 = false := by
            cases hb : Nat.beq c 1
            · rfl
            · exact absurd (Nat.eq_of_beq_eq_true hb) hc
          rw [hb] at hx
          exact stUX_ok cs hx
      have ha : All2 (VA r0) [.g (clL L 0 kSt)] [.agg us.toArray] := ⟨⟨us, rfl, cs⟩, trivial⟩
      refine (calls_row w hw.size (fun _ _ => rfl) (@sound_runs w _ _ _ (Lf.ok hL hlens) _ hS 30 20) ha hr).mono fun x w' ⟨u, vs, r', e1, e2, e3, e4⟩ => ⟨u, e1, ?_, e4⟩
      have hv := numsS_ok e3
      rw [hq] at hv
      rw [hv] at e2
      exact e2
theorem tusA_lists : ListsE 58 kSt okStE (fun us => stU (stOf us)) := uses_of usesA_run
end Go.Proofs.YthdcahkedlijpaaGreat.Am
