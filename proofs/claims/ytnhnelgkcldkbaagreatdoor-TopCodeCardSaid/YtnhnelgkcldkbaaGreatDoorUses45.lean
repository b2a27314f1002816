/- Rvalues as lists of cells: parts, equality, lengths of texts. Texts of statements, out of their cells. slices.Insert at []int: the library's contracts, at this program. What statements use and move: lists of locals; functions of one struct that answer with a list of numbers. What rvalues use: value.Uses answers with a list, pawnshopref04.Used with truth values. What rvalues use: the runs. What rvalues move: value.Moves. -/
import Derived.Test.YtnhnelgkcldkbaaGreatDoorCodS
import Derived.Test.YtnhnelgkcldkbaaGreatDoorAmC
import Derived.Test.YtnhnelgkcldkbaaGreatDoorTests5
import Derived.Test.YtnhnelgkcldkbaaGreatDoorProg
import Derived.Shelf.Spec.SlicesInsert
import Derived.Shelf.Spec.SlicesInsertGrow
/-! Rvalues as lists of cells: parts, equality, lengths of texts. -/
namespace Go.Proofs.YtnhnelgkcldkbaaGreatDoor.Am
open Go.RowKit
set_option linter.unusedVariables false

/-- the cells' ranges -/
theorem ok_at {ks : List Kd} {us : List Value} (h : All2 Kd.ok ks us) {i : Nat} {k : Kd} (hi : ks[i]? = some k) : k.iv.1 ≤ cellI us i ∧ cellI us i ≤ k.iv.2 := by
  obtain ⟨v, hv, hk⟩ := All2.nth h (n := i) (x := k) (by rw [nth_eq]; exact hi)
  have e : cellI us i = codeI v := by simp [cellI, hv]
  rw [e]
  exact Kd.iv_ok hk
theorem ok_i64 {ks : List Kd} {us : List Value} (h : All2 Kd.ok ks us) {i : Nat} (hi : ks[i]? = some (.i .i64)) : I64 (cellI us i) := ok_at h hi
theorem ok_u8 {ks : List Kd} {us : List Value} (h : All2 Kd.ok ks us) {i : Nat} (hi : ks[i]? = some (.i .u8)) : 0 ≤ cellI us i := (ok_at h hi).1
theorem ok_b {ks : List Kd} {us : List Value} (h : All2 Kd.ok ks us) {i : Nat} (hi : ks[i]? = some .b) : cellI us i = 0 ∨ cellI us i = 1 := by
  have h1 : (0 : Int) ≤ cellI us i ∧ cellI us i ≤ 1 := ok_at h hi
  omega
/-! lengths -/
end Go.Proofs.YtnhnelgkcldkbaaGreatDoor.Am
/-! Texts of statements, out of their cells. -/
namespace Go.Proofs.YtnhnelgkcldkbaaGreatDoor.Am
open Go.RowKit
set_option linter.unusedSectionVars false
set_option linter.unusedVariables false

/-- a statement: its kind, place, rvalue, operand, local -/
structure Stm where
  k : Int
  l : Int
  d : Bool
  f : Int
  r : Rv
  a : Opd
  n : Int
def Rv.no : Rv := ⟨0, Opd.no, Opd.no, 0, 0, 0, false, 0⟩
def Stm.Ok (s : Stm) : Prop :=
  (s.k = 1 ∧ InP s.l s.f ∧ s.r.Ok ∧ s.a = Opd.no ∧ s.n = 0) ∨
  ((s.k = 2 ∨ s.k = 4) ∧ s.l = 0 ∧ s.d = false ∧ s.f = 0 ∧ s.r = Rv.no ∧ s.a.Ok ∧ s.n = 0) ∨
  (s.k = 3 ∧ s.l = 0 ∧ s.d = false ∧ s.f = 0 ∧ s.r = Rv.no ∧ s.a = Opd.no ∧ 0 ≤ s.n ∧ s.n < 16)
def stOf (us : List Value) : Stm := ⟨cellI us 0, cellI us 1, decide (cellI us 2 = 1), cellI us 3, rvAt us 4, opdAt us 20, cellI us 25⟩
theorem stR_ok {us : List Value} (h : All2 Kd.ok kSt us) : RvR us 4 := ⟨ok_i64 h rfl, ok_i64 h rfl, ok_u8 h rfl, ok_u8 h rfl, ok_u8 h rfl⟩
theorem zs3_val {us : List Value} {o : Nat} (h : (E.zero (zs o 3)).val us = true) : cellI us o = 0 ∧ decide (cellI us (o + 1) = 1) = false ∧ cellI us (o + 2) = 0 := by
  have z := zs_val h
  refine ⟨z 0 (by decide), ?_, z 2 (by decide)⟩
  rw [z 1 (by decide)]
  rfl
theorem rv0_val {us : List Value} (h : (E.zero (zs 4 16)).val us = true) : rvAt us 4 = Rv.no := by
  have z := zs_val h
  unfold rvAt opdAt
  rw [show cellI us 4 = 0 from z 0 (by decide), show cellI us (4 + 3) = 0 from z 3 (by decide), show cellI us (4 + 3 + 1) = 0 from z 4 (by decide), show cellI us (4 + 3 + 2) = 0 from z 5 (by decide), show cellI us (4 + 3 + 3) = 0 from z 6 (by decide), show cellI us (4 + 3 + 4) = 0 from z 7 (by decide),
    show cellI us (4 + 8) = 0 from z 8 (by decide), show cellI us (4 + 8 + 1) = 0 from z 9 (by decide), show cellI us (4 + 8 + 2) = 0 from z 10 (by decide), show cellI us (4 + 8 + 3) = 0 from z 11 (by decide), show cellI us (4 + 8 + 4) = 0 from z 12 (by decide),
    show cellI us (4 + 1) = 0 from z 1 (by decide), show cellI us (4 + 2) = 0 from z 2 (by decide), show cellI us (4 + 13) = 0 from z 13 (by decide), show cellI us (4 + 14) = 0 from z 14 (by decide), show cellI us (4 + 15) = 0 from z 15 (by decide)]
  rfl
/-- what a valid statement is -/
theorem st_val {us : List Value} (h : okStE.val us = true) (k : All2 Kd.ok kSt us) : (stOf us).Ok ∧
    ((cellI us 0 = 1 ∧ (okPlE 1).val us = true ∧ (okRvE 4).val us = true) ∨ ((cellI us 0 = 2 ∨ cellI us 0 = 4) ∧ (okOpE 20).val us = true) ∨ cellI us 0 = 3) := by
  have v2 : ∀ a b : E, (E.and a b).val us = true → a.val us = true ∧ b.val us = true := fun a b h => by simpa [E.val] using h
  have o2 : ∀ a b : E, (E.or a b).val us = true → a.val us = true ∨ b.val us = true := fun a b h => by simpa [E.val] using h
  rcases o2 _ _ h with h | h
  · obtain ⟨h1, h⟩ := v2 _ _ h
    obtain ⟨h2, h⟩ := v2 _ _ h
    obtain ⟨h3, h⟩ := v2 _ _ h
    obtain ⟨h4, h5⟩ := v2 _ _ h
    exact ⟨.inl ⟨one_val h1, pl_val h2 (ok_u8 k rfl), rv_val h3 (stR_ok k), no_val h4, one_val h5⟩, .inl ⟨one_val h1, h2, h3⟩⟩
  rcases o2 _ _ h with h | h
  · obtain ⟨h1, h⟩ := v2 _ _ h
    obtain ⟨h2, h⟩ := v2 _ _ h
    obtain ⟨h3, h⟩ := v2 _ _ h
    obtain ⟨h4, h5⟩ := v2 _ _ h
    have hk : cellI us 0 = 2 ∨ cellI us 0 = 4 := (o2 _ _ h1).imp one_val one_val
    obtain ⟨z1, z2, z3⟩ := zs3_val h2
    exact ⟨.inr (.inl ⟨hk, z1, z2, z3, rv0_val h3, op_val h4 (ok_i64 k rfl) (ok_u8 k rfl), one_val h5⟩), .inr (.inl ⟨hk, h4⟩)⟩
  · obtain ⟨h1, h⟩ := v2 _ _ h
    obtain ⟨h2, h⟩ := v2 _ _ h
    obtain ⟨h3, h⟩ := v2 _ _ h
    obtain ⟨h4, h⟩ := v2 _ _ h
    obtain ⟨h5, h6⟩ := v2 _ _ h
    obtain ⟨z1, z2, z3⟩ := zs3_val h2
    have h5 : (!decide (cellI us 25 < 0)) = true := h5
    have h6 : decide (cellI us 25 < 16) = true := h6
    simp only [Bool.not_eq_true', decide_eq_false_iff_not, decide_eq_true_eq] at h5 h6
    exact ⟨.inr (.inr ⟨one_val h1, z1, z2, z3, rv0_val h3, no_val h4, by show 0 ≤ cellI us 25; omega, h6⟩), .inr (.inr (one_val h1))⟩
/-! the text of cells that are not written out -/
section
variable [Base] {r : Ren} {L : Lf} {ks : List Kd} {pls : List Pl} {xs : List S} {us : List Value}
end
/-! statements: Check by a test, too -/
section
variable {F : FuncId} {ks : List Kd} {e : E} {T : List Value → List UInt8} {val : List UInt8 → Value} {pls : List Pl}
end
end Go.Proofs.YtnhnelgkcldkbaaGreatDoor.Am
/-! slices.Insert at []int: the library's contracts, at this program. -/
namespace Go.Proofs.YtnhnelgkcldkbaaGreatDoor.Am
open Go.RowKit
def insRen : Go.Shelf.Ren := ⟨fun | 21 => 79 | 27 => 136 | 28 => 137 | 35 => 187 | 39 => 225 | n => n, fun | 0 => 0 | 3 => 3 | 4 => 4 | 22 => 31 | n => n, fun | n => n⟩
theorem insLays : Go.Proofs.Lays2.n21 Tryz.prog insRen := {
  mixed := by kernel_rfl
  f21 := by kernel_rfl
  f27 := by kernel_rfl
  f28 := by kernel_rfl
  f35 := by kernel_rfl
  f39 := by kernel_rfl
  t0 := by kernel_rfl
  a0 := Tryz.isAgg0
  z0 := Tryz.sizeOf0
  v0 := Tryz.zeroValue0
  t3 := by kernel_rfl
  a3 := Tryz.isAgg3
  z3 := Tryz.sizeOf3
  v3 := Tryz.zeroValue3
  t4 := by kernel_rfl
  a4 := Tryz.isAgg4
  z4 := Tryz.sizeOf4
  v4 := Tryz.zeroValue4
  t22 := by kernel_rfl
  a22 := Tryz.isAgg31
  z22 := Tryz.sizeOf31
  v22 := Tryz.zeroValue31
  i3 := by kernel_rfl }
theorem insOk [Base] : InsOk Tryz.prog 79 3 (.int .i64 0) where
  call := ⟨_, Tryz.func79, by kernel_rfl, by kernel_rfl⟩
  z1 := rfl
  shift b n c i vb voff m vc cs vs w h1 h2 h3 h4 h5 h6 h7 h8 h9 h10 h11 h12 h13 tA tB kA kB k1 k2 k3 k4 k5 :=
    Any2.slices_Insert_int_shift insLays b 0 n c i vb voff m vc cs vs w h1 h2 h3 h4 h5 h6 h7 h8 h9 h10 h11 h12 h13 tA tB kA kB k1 k2 k3 k4 k5
  grow b n c i vb voff m vc cs vs w h1 h2 h3 h4 h5 h6 h7 h8 h9 h10 h11 :=
    Any2.slices_Insert_int_grow insLays b 0 n c i vb voff m vc cs vs w h1 h2 h3 h4 h5 h6 h7 h8 h9 h10 h11
noncomputable abbrev insXO : Oracle := insO 79
theorem sound_insX (b : Base) : @Sound b Tryz.prog insXO := @sound_ins b _ _ _ _ (@insOk b)
end Go.Proofs.YtnhnelgkcldkbaaGreatDoor.Am
/-! What statements use and move: lists of locals; functions of one struct that answer with a list of numbers. -/
namespace Go.Proofs.YtnhnelgkcldkbaaGreatDoor.Am
open Go.RowKit
set_option linter.unusedSectionVars false
set_option linter.unusedVariables false

/-! sorted lists of numbers -/
def insU (a : Int) : List Int → List Int
  | [] => [a]
  | b :: r => if a < b then a :: b :: r else if a = b then b :: r else b :: insU a r
def srtU : List Int → List Int
  | [] => []
  | a :: r => insU a (srtU r)
def opU (o : Opd) : List Int := if o.k = 1 then [] else [o.l]
def opM (o : Opd) : List Int := if o.k = 3 then [o.l] else []
def rvU (r : Rv) : List Int := if r.k = 1 then opU r.a else if r.k = 2 ∨ r.k = 3 then srtU (opU r.a ++ opU r.b) else [r.l]
def rvM (r : Rv) : List Int := if r.k = 1 then opM r.a else if r.k = 2 ∨ r.k = 3 then srtU (opM r.a ++ opM r.b) else []
/-- what a statement uses: its rvalue's or operand's, and the local of a place that is no local, all of it -/
def stU (s : Stm) : List Int := if s.k = 1 then (if s.d = true ∨ 0 < s.f then insU s.l (rvU s.r) else rvU s.r) else if s.k = 3 then [] else opU s.a
def stM (s : Stm) : List Int := if s.k = 1 then rvM s.r else if s.k = 3 then [] else opM s.a
theorem insU_mem {a b : Int} : ∀ {l : List Int}, b ∈ insU a l ↔ b = a ∨ b ∈ l
  | [] => by simp [insU]
  | c :: r => by
    have ih := insU_mem (a := a) (b := b) (l := r)
    unfold insU
    split
    · simp
    · split
      · rename_i h; subst h; simp
      · simp only [List.mem_cons, ih]
        constructor
        · rintro (h | h | h)
          · exact .inr (.inl h)
          · exact .inl h
          · exact .inr (.inr h)
        · rintro (h | h | h)
          · exact .inr (.inl h)
          · exact .inl h
          · exact .inr (.inr h)
theorem srtU_mem {b : Int} : ∀ {l : List Int}, b ∈ srtU l ↔ b ∈ l
  | [] => by simp [srtU]
  | a :: r => by simp only [srtU, insU_mem, srtU_mem, List.mem_cons]

/-! .. of numbers that are not written out -/
section
variable [Know]
noncomputable def insX (a : N) : List N → Option (List N) := List.rec (some [a]) fun b r ih => ob (ltX a b) fun l => bif l then some (a :: b :: r) else ob (eqX a b) fun e => bif e then some (b :: r) else ob ih fun q => some (b :: q)
noncomputable def srtX : List N → Option (List N) := List.rec (some []) fun a _ ih => ob ih fun q => insX a q
noncomputable def numN (x : S) : Option N := match x with | .int .i64 n => some (.c n) | .xi .i64 i => some (.x i) | _ => none
noncomputable def opUX (xs : List S) (o : Nat) : Option (List N) := ob (nth xs o) fun k => ob (kindX k) fun k => bif decide (k = 1) then some [] else ob (nth xs (o + 2)) fun x => ob (numN x) fun n => some [n]
noncomputable def opMX (xs : List S) (o : Nat) : Option (List N) := ob (nth xs o) fun k => ob (kindX k) fun k => bif decide (k = 3) then ob (nth xs (o + 2)) fun x => ob (numN x) fun n => some [n] else some []
noncomputable def rvUX (xs : List S) (o : Nat) : Option (List N) := ob (nth xs o) fun k => ob (kindX k) fun k =>
  bif decide (k = 1) then opUX xs (o + 3) else bif decide (k = 2) || decide (k = 3) then ob (opUX xs (o + 3)) fun a => ob (opUX xs (o + 8)) fun b => srtX (a ++ b) else ob (nth xs (o + 13)) fun x => ob (numN x) fun n => some [n]
noncomputable def rvMX (xs : List S) (o : Nat) : Option (List N) := ob (nth xs o) fun k => ob (kindX k) fun k =>
  bif decide (k = 1) then opMX xs (o + 3) else bif decide (k = 2) || decide (k = 3) then ob (opMX xs (o + 3)) fun a => ob (opMX xs (o + 8)) fun b => srtX (a ++ b) else some []
noncomputable def partX (xs : List S) : Option Bool := ob (nth xs 2) fun d => ob d.isBool fun d => bif d then some true else ob (nth xs 3) fun f => ob f.num fun f => ltX (.c 0) f.2
noncomputable def stUX (xs : List S) : Option (List N) := ob (nth xs 0) fun k => ob (kindX k) fun k =>
  bif decide (k = 1) then ob (rvUX xs 4) fun l => ob (partX xs) fun p => bif p then ob (nth xs 1) fun x => ob (numN x) fun n => insX n l else some l
  else bif decide (k = 3) then some [] else opUX xs 20
noncomputable def stMX (xs : List S) : Option (List N) := ob (nth xs 0) fun k => ob (kindX k) fun k => bif decide (k = 1) then rvMX xs 4 else bif decide (k = 3) then some [] else opMX xs 20
def numS : N → S
  | .c n => .int .i64 n
  | .x i => .xi .i64 i
end
section
variable [Base] {r : Ren} {xs : List S} {us : List Value}
theorem insX_cons (a b : N) (l : List N) : insX a (b :: l) = ob (ltX a b) fun q => bif q then some (a :: b :: l) else ob (eqX a b) fun e => bif e then some (b :: l) else ob (insX a l) fun q => some (b :: q) := rfl
theorem insX_ok {a : N} : ∀ {l q : List N}, insX a l = some q → q.map NV = insU (NV a) (l.map NV)
  | [], q, h => by cases h; rfl
  | b :: l, q, h => by
    rw [insX_cons] at h
    obtain ⟨c, hc, h⟩ := ob_some h
    have e := ltX_ok hc
    rw [List.map_cons, insU]
    cases c <;> simp only [cond_true, cond_false] at h
    · rw [if_neg (of_decide_eq_false e.symm)]
      obtain ⟨d, hd, h⟩ := ob_some h
      have e2 := eqX_ok hd
      cases d <;> simp only [cond_true, cond_false] at h
      · rw [if_neg (of_decide_eq_false e2.symm)]
        obtain ⟨q', hq, h⟩ := ob_some h
        cases h
        rw [List.map_cons, insX_ok hq]
      · rw [if_pos (of_decide_eq_true e2.symm)]
        cases h
        rfl
    · rw [if_pos (of_decide_eq_true e.symm)]
      cases h
      rfl
theorem srtX_ok : ∀ {l q : List N}, srtX l = some q → q.map NV = srtU (l.map NV)
  | [], q, h => by cases h; rfl
  | a :: l, q, h => by
    obtain ⟨p, hp, h⟩ := ob_some (show ob (srtX l) (fun q => insX a q) = some q from h)
    rw [insX_ok h, srtX_ok hp]
    rfl
theorem numN_ok {x : S} {n : N} (h : numN x = some n) {v : Value} (hv : VS r x v) : codeI v = NV n := by
  unfold numN at h
  split at h
  · cases h; cases hv; rfl
  · cases h; cases hv; rfl
  · cases h
theorem oneN (ha : All2 (VS r) xs us) {o : Nat} {q : List N} (h : (ob (nth xs o) fun x => ob (numN x) fun n => some [n]) = some q) : q.map NV = [cellI us o] := by
  obtain ⟨x, hx, h⟩ := ob_some h
  obtain ⟨n, hn, h⟩ := ob_some h
  cases h
  obtain ⟨u, _, hv, hc⟩ := cellX ha hx
  rw [hc, numN_ok hn hv]
  rfl
theorem opUX_ok (ha : All2 (VS r) xs us) {o : Nat} {q : List N} (h : opUX xs o = some q) : q.map NV = opU (opdAt us o) := by
  obtain ⟨x, hx, h⟩ := ob_some h
  obtain ⟨k, hk, h⟩ := ob_some h
  obtain ⟨u, k1, v1, c1⟩ := cellX ha hx
  rw [kindX_ok hk v1] at c1
  unfold opU
  rw [show (opdAt us o).k = k from c1]
  cases h1 : decide (k = 1) <;> rw [h1] at h <;> simp only [cond_true, cond_false] at h
  · rw [if_neg (of_decide_eq_false h1)]
    exact oneN ha h
  · rw [if_pos (of_decide_eq_true h1)]
    cases h
    rfl
theorem opMX_ok (ha : All2 (VS r) xs us) {o : Nat} {q : List N} (h : opMX xs o = some q) : q.map NV = opM (opdAt us o) := by
  obtain ⟨x, hx, h⟩ := ob_some h
  obtain ⟨k, hk, h⟩ := ob_some h
  obtain ⟨u, k1, v1, c1⟩ := cellX ha hx
  rw [kindX_ok hk v1] at c1
  unfold opM
  rw [show (opdAt us o).k = k from c1]
  cases h1 : decide (k = 3) <;> rw [h1] at h <;> simp only [cond_true, cond_false] at h
  · rw [if_neg (of_decide_eq_false h1)]
    cases h
    rfl
  · rw [if_pos (of_decide_eq_true h1)]
    exact oneN ha h
theorem two_app {a b q : List N} {x y : List Int} (hq : srtX (a ++ b) = some q) (hx : a.map NV = x) (hy : b.map NV = y) : q.map NV = srtU (x ++ y) := by
  rw [srtX_ok hq, List.map_append, hx, hy]
theorem rvUX_ok (ha : All2 (VS r) xs us) {o : Nat} {q : List N} (h : rvUX xs o = some q) : q.map NV = rvU (rvAt us o) := by
  obtain ⟨x, hx, h⟩ := ob_some h
  obtain ⟨k, hk, h⟩ := ob_some h
  obtain ⟨u, k1, v1, c1⟩ := cellX ha hx
  rw [kindX_ok hk v1] at c1
  unfold rvU
  rw [show (rvAt us o).k = k from c1]
  cases h1 : decide (k = 1) <;> rw [h1] at h <;> simp only [cond_true, cond_false] at h
  · rw [if_neg (of_decide_eq_false h1)]
    cases h2 : (decide (k = 2) || decide (k = 3)) <;> rw [h2] at h <;> simp only [cond_true, cond_false] at h
    · simp only [Bool.or_eq_false_iff, decide_eq_false_iff_not] at h2
      rw [if_neg (by omega)]
      exact oneN ha h
    · simp only [Bool.or_eq_true, decide_eq_true_eq] at h2
      rw [if_pos h2]
      obtain ⟨a, hA, h⟩ := ob_some h
      obtain ⟨b, hB, h⟩ := ob_some h
      exact two_app h (opUX_ok ha hA) (opUX_ok ha hB)
  · rw [if_pos (of_decide_eq_true h1)]
    exact opUX_ok ha h
theorem rvMX_ok (ha : All2 (VS r) xs us) {o : Nat} {q : List N} (h : rvMX xs o = some q) : q.map NV = rvM (rvAt us o) := by
  obtain ⟨x, hx, h⟩ := ob_some h
  obtain ⟨k, hk, h⟩ := ob_some h
  obtain ⟨u, k1, v1, c1⟩ := cellX ha hx
  rw [kindX_ok hk v1] at c1
  unfold rvM
  rw [show (rvAt us o).k = k from c1]
  cases h1 : decide (k = 1) <;> rw [h1] at h <;> simp only [cond_true, cond_false] at h
  · rw [if_neg (of_decide_eq_false h1)]
    cases h2 : (decide (k = 2) || decide (k = 3)) <;> rw [h2] at h <;> simp only [cond_true, cond_false] at h
    · simp only [Bool.or_eq_false_iff, decide_eq_false_iff_not] at h2
      rw [if_neg (by omega)]
      cases h
      rfl
    · simp only [Bool.or_eq_true, decide_eq_true_eq] at h2
      rw [if_pos h2]
      obtain ⟨a, hA, h⟩ := ob_some h
      obtain ⟨b, hB, h⟩ := ob_some h
      exact two_app h (opMX_ok ha hA) (opMX_ok ha hB)
  · rw [if_pos (of_decide_eq_true h1)]
    exact opMX_ok ha h
theorem partX_ok (ha : All2 (VS r) xs us) {p : Bool} (h : partX xs = some p) : (p = true ↔ (stOf us).d = true ∨ 0 < (stOf us).f) := by
  obtain ⟨x, hx, h⟩ := ob_some h
  obtain ⟨d, hd, h⟩ := ob_some h
  obtain ⟨u, k1, v1, c1⟩ := cellX ha hx
  have e := isBool_ok hd v1
  subst e
  have hdd : (stOf us).d = d := by
    show decide (cellI us 2 = 1) = d
    rw [c1]
    cases d <;> rfl
  rw [hdd]
  cases d <;> simp only [cond_true, cond_false] at h
  · obtain ⟨y, hy, h⟩ := ob_some h
    obtain ⟨f, hf, h⟩ := ob_some h
    obtain ⟨u2, k2, v2, c2⟩ := cellX ha hy
    have e2 := num_ok hf v2
    subst e2
    have e3 := ltX_ok h
    have hff : (stOf us).f = NV f.2 := c2
    rw [hff, e3]
    constructor
    · intro hh
      exact .inr (of_decide_eq_true hh)
    · rintro (hh | hh)
      · cases hh
      · exact decide_eq_true hh
  · cases h
    simp
theorem stUX_ok (ha : All2 (VS r) xs us) {q : List N} (h : stUX xs = some q) : q.map NV = stU (stOf us) := by
  obtain ⟨x, hx, h⟩ := ob_some h
  obtain ⟨k, hk, h⟩ := ob_some h
  obtain ⟨u, k1, v1, c1⟩ := cellX ha hx
  rw [kindX_ok hk v1] at c1
  unfold stU
  rw [show (stOf us).k = k from c1]
  cases h1 : decide (k = 1) <;> rw [h1] at h <;> simp only [cond_true, cond_false] at h
  · rw [if_neg (of_decide_eq_false h1)]
    cases h2 : decide (k = 3) <;> rw [h2] at h <;> simp only [cond_true, cond_false] at h
    · rw [if_neg (of_decide_eq_false h2)]
      exact opUX_ok ha h
    · rw [if_pos (of_decide_eq_true h2)]
      cases h
      rfl
  · rw [if_pos (of_decide_eq_true h1)]
    obtain ⟨l, hl, h⟩ := ob_some h
    obtain ⟨p, hp, h⟩ := ob_some h
    have e := partX_ok ha hp
    cases p <;> simp only [cond_true, cond_false] at h
    · rw [if_neg (fun hh => by have := e.2 hh; cases this)]
      cases h
      exact rvUX_ok ha hl
    · rw [if_pos (e.1 rfl)]
      obtain ⟨y, hy, h⟩ := ob_some h
      obtain ⟨n, hn, h⟩ := ob_some h
      obtain ⟨u2, k2, v2, c2⟩ := cellX ha hy
      rw [insX_ok h, rvUX_ok ha hl, ← numN_ok hn v2, ← c2]
      rfl
theorem stMX_ok (ha : All2 (VS r) xs us) {q : List N} (h : stMX xs = some q) : q.map NV = stM (stOf us) := by
  obtain ⟨x, hx, h⟩ := ob_some h
  obtain ⟨k, hk, h⟩ := ob_some h
  obtain ⟨u, k1, v1, c1⟩ := cellX ha hx
  rw [kindX_ok hk v1] at c1
  unfold stM
  rw [show (stOf us).k = k from c1]
  cases h1 : decide (k = 1) <;> rw [h1] at h <;> simp only [cond_true, cond_false] at h
  · rw [if_neg (of_decide_eq_false h1)]
    cases h2 : decide (k = 3) <;> rw [h2] at h <;> simp only [cond_true, cond_false] at h
    · rw [if_neg (of_decide_eq_false h2)]
      exact opMX_ok ha h
    · rw [if_pos (of_decide_eq_true h2)]
      cases h
      rfl
  · rw [if_pos (of_decide_eq_true h1)]
    exact rvMX_ok ha h
theorem numsS_ok : ∀ {q : List N} {vs : List Value}, All2 (VS r) (q.map numS) vs → vs = (q.map NV).map (Value.int .i64)
  | [], [], _ => rfl
  | .c n :: q, v :: vs, h => by
    have := numsS_ok h.2
    rw [this, show v = .int .i64 n from h.1]
    rfl
  | .x i :: q, v :: vs, h => by
    have := numsS_ok h.2
    rw [this, show v = .int .i64 (Base.rho i) from h.1]
    rfl
  | [], _ :: _, h => h.elim
  | .c _ :: _, [], h => h.elim
  | .x _ :: _, [], h => h.elim
end
/-! functions of one struct that answer with a list -/
def intsV (l : List Int) : List Value := l.map (Value.int .i64)
def ListsE (F : FuncId) (ks : List Kd) (e : E) (T : List Value → List Int) : Prop := ∀ us, All2 Kd.ok ks us → e.val us = true → Lists Tryz.prog TabOk F us (intsV (T us))
noncomputable def libL (ks : List Kd) (pls : List Pl) (L : Lf) : Oracle := fun f a h fl => orR (valid5 (L.know (strsT 0 ks)) f a h fl) (orcX L ks pls insXO f a h fl)
noncomputable def runL (F : FuncId) (ks : List Kd) (pls : List Pl) (L : Lf) : R := @runs (L.know (strsT 0 ks)) (tyOf Tryz.prog) (fnOf Tryz.prog) (libL ks pls L) 30 20 F [.g (cellsL ks L)] ⟨[], 0⟩ 0
/-- numbers that are each less than the next one, in a ring: no case -/
def cyc (L : Lf) : Bool := L.lt.any fun p => L.lt.any fun q => Nat.beq p.2 q.1 && (Nat.beq q.2 p.1 || L.lt.any fun t => Nat.beq q.2 t.1 && Nat.beq t.2 p.1)
theorem cyc_no {L : Lf} {rho : Nat → Int} {sig : Nat → List UInt8} (h : L.Holds rho sig) : cyc L = false := by
  unfold cyc
  rw [Bool.eq_false_iff]
  intro hc
  obtain ⟨p, hp, hc⟩ := List.any_eq_true.1 hc
  obtain ⟨q, hq, hc⟩ := List.any_eq_true.1 hc
  simp only [Bool.and_eq_true, Bool.or_eq_true] at hc
  obtain ⟨h1, h2⟩ := hc
  have e1 := Nat.eq_of_beq_eq_true h1
  have l1 := h.lt p.1 p.2 hp
  have l2 := h.lt q.1 q.2 hq
  rw [e1] at l1
  rcases h2 with h2 | h2
  · rw [Nat.eq_of_beq_eq_true h2] at l2
    omega
  · obtain ⟨t, ht, h3⟩ := List.any_eq_true.1 h2
    simp only [Bool.and_eq_true] at h3
    have l3 := h.lt t.1 t.2 ht
    rw [← Nat.eq_of_beq_eq_true h3.1, Nat.eq_of_beq_eq_true h3.2] at l3
    omega
noncomputable def listAt (e : E) (ks : List Kd) (exp : Option (List N)) (L : Lf) (r : R) : Bool :=
  Option.rec false (fun b => bif b then Option.rec false (fun q => Option.rec false (fun cs => sameL S.eqv (q.map numS) cs) (rowAt r)) exp else true) (@E.abs (L.know (strsT 0 ks)) ((cellsT 0 ks).map L.nS) e)
section
variable {F : FuncId} {ks : List Kd} {e : E} {T : List Value → List Int} {pls : List Pl}
theorem lists_of (exp : Lf → List S → Option (List N))
    (hexp : ∀ (b0 : Base) (L : Lf) (r : Ren) (xs : List S) (us : List Value) (q : List N), b0.toKnow = L.know (strsT 0 ks) → @All2 _ _ (@VS b0 r) xs us → exp L xs = some q → q.map (@NV b0) = T us)
    (hpl : pls.all (fun p => decide (p.1 < ks.length) && decide (p.2.1 < ks.length) && decide (p.2.2 < ks.length)) = true) {sp : Sp}
    (hrun : ((sp.leaves (Lf.startX [(true, ks)] pls.length)).all fun L => cyc L || listAt e ks (exp L (cellsL ks L)) L (runL F ks pls L)) = true) : ListsE F ks e T := by
  intro us hk he w hw
  have hg : Gps [(true, ks)] [.agg us.toArray] us := ⟨us, [], (List.append_nil _).symm, ⟨hk, .inl ⟨rfl, rfl⟩⟩, rfl⟩
  have hks : kindsT [(true, ks)] = ks := by simp [kindsT]
  have hlen : us.length = ks.length := by have := hk.len; omega
  have kk := lens_withX hg (plX_len us pls)
  have d := dec_withX hg (plX us pls)
  have ee : PlE ks.length pls (rhoOf (withX us (plX us pls))) (sigOf (withX us (plX us pls))) := by
    rw [← hlen]
    exact plX_E (by rw [hlen]; exact hpl)
  rw [hks] at kk d
  have hl : (plX us pls).length = pls.length := by simp [plX]
  have hst := Lf.startX_ok hg (plX_len us pls)
  rw [hl] at hst
  obtain ⟨L, hm, hL⟩ := sp.cover hst
  have hp := List.all_eq_true.1 hrun L hm
  rw [cyc_no hL, Bool.false_or] at hp
  letI b0 : Base := base0 w (Lf.ok hL kk)
  have ha' : All2 (VA r0) [.g (cellsT 0 ks)] [.agg us.toArray] :=
    argsT_ok (cs := withX us (plX us pls)) rfl rfl ((plX us pls).map fun x => .string ⟨x.toArray⟩) (gs := [(true, ks)]) (pre := []) (cs' := us) rfl hg
  have ha := Lf.nAs_ok hL ha'
  unfold listAt at hp
  cases hb : @E.abs (L.know (strsT 0 ks)) ((cellsT 0 ks).map L.nS) e with
  | none => rw [hb] at hp; cases hp
  | some b =>
    rw [hb] at hp
    have ha2 := ha
    obtain ⟨⟨us', e1, hus⟩, _⟩ := ha2
    have e1 : Value.agg us.toArray = .agg us'.toArray := e1
    obtain rfl : us = us' := by simpa using e1
    have hbv := E.abs_ok hus hb
    rw [he] at hbv
    subst hbv
    have hp : (Option.rec false (fun q => Option.rec false (fun cs => sameL S.eqv (q.map numS) cs) (rowAt (runL F ks pls L))) (exp L (cellsL ks L)) : Bool) = true := hp
    cases hx : exp L (cellsL ks L) with
    | none => rw [hx] at hp; cases hp
    | some q =>
      rw [hx] at hp
      have hp : (Option.rec false (fun cs => sameL S.eqv (q.map numS) cs) (rowAt (runL F ks pls L)) : Bool) = true := hp
      cases hr : rowAt (runL F ks pls L) with
      | none => rw [hr] at hp; cases hp
      | some cs =>
        rw [hr] at hp
        have hcs : q.map numS = cs := sameL_eq (fun _ _ => S.eqv_ok) hp
        subst hcs
        have hS : Sound Tryz.prog (@runs (L.know (strsT 0 ks)) (tyOf Tryz.prog) (fnOf Tryz.prog) (libL ks pls L) 30 20) :=
          @sound_runs w _ _ _ (Lf.ok hL kk) _ (@sound_or (base0 w (Lf.ok hL kk)) _ _ _ (sound_valid5 (base0 w (Lf.ok hL kk))) (sound_orcX hL kk d ee hw (sound_insX _))) 30 20
        refine (calls_row w hw.size (fun _ _ => rfl) hS ha hr).mono fun x w' ⟨u, vs, r', e1, e2, e3, e4⟩ => ⟨u, e1, ?_, e4⟩
        have hv := numsS_ok e3
        rw [hexp b0 L r0 _ _ _ rfl hus hx] at hv
        rw [hv] at e2
        exact e2
end
end Go.Proofs.YtnhnelgkcldkbaaGreatDoor.Am
/-! What rvalues use: value.Uses answers with a list, pawnshopref04.Used with truth values. -/
namespace Go.Proofs.YtnhnelgkcldkbaaGreatDoor.Am
open Go.RowKit
set_option linter.unusedSectionVars false
set_option linter.unusedVariables false
section
variable {F : FuncId} {ks : List Kd} {e : E} {T : List Value → List Int} {pls : List Pl}
end
end Go.Proofs.YtnhnelgkcldkbaaGreatDoor.Am
/-! What rvalues use: the runs. -/
namespace Go.Proofs.YtnhnelgkcldkbaaGreatDoor.Am
open Go.RowKit
set_option maxRecDepth 100000
def ruP : List Pl := [(5, (6, 7)), (10, (11, 12)), (13, (14, 15))]
noncomputable def ru0L : Lf := Lf.startX [(true, kRv)] ruP.length
noncomputable def ru1L : Lf := (ru0L.hi 0 (1 - 1))
def ru1T : Sp := .leaf
noncomputable def ru2L : Lf := (ru0L.lo 0 1)
noncomputable def ru3L : Lf := (ru2L.hi 0 (2 - 1))
def ru3T : Sp := (.cut 3 1 .leaf (.cut 3 2 (.conj [(5, 0), (6, 0), (7, 0)] (.conj [(8, 0), (9, 0), (10, 0), (11, 0), (12, 0)] (.conj [(13, 0), (14, 0), (15, 0)] (.cut 1 1 (.cut 2 1 .leaf .leaf) .leaf) .leaf) .leaf) .leaf) (.cut 3 3 (.cut 4 0 .leaf (.cut 4 1 (.cut 5 0 .leaf (.cut 5 16 (.cut 7 3 (.conj [(8, 0), (9, 0), (10, 0), (11, 0), (12, 0)] (.conj [(13, 0), (14, 0), (15, 0)] (.cut 1 1 (.cut 2 1 .leaf .leaf) .leaf) .leaf) .leaf) .leaf) .leaf)) .leaf)) (.cut 3 4 (.cut 4 0 .leaf (.cut 4 1 (.cut 5 0 .leaf (.cut 5 16 (.cut 7 3 (.conj [(8, 0), (9, 0), (10, 0), (11, 0), (12, 0)] (.conj [(13, 0), (14, 0), (15, 0)] (.cut 1 1 (.cut 2 1 .leaf .leaf) .leaf) .leaf) .leaf) .leaf) .leaf)) .leaf)) .leaf))))
noncomputable def ru4L : Lf := (ru2L.lo 0 2)
noncomputable def ru5L : Lf := (ru4L.hi 0 (3 - 1))
noncomputable def ru6L : Lf := (ru5L.hi 3 (1 - 1))
def ru6T : Sp := .leaf
noncomputable def ru7L : Lf := (ru5L.lo 3 1)
noncomputable def ru8L : Lf := (ru7L.hi 3 (2 - 1))
def ru8T : Sp := (.conj [(5, 0), (6, 0), (7, 0)] (.cut 8 1 .leaf (.cut 8 2 (.conj [(10, 0), (11, 0), (12, 0)] (.conj [(13, 0), (14, 0), (15, 0)] (.cut 1 1 .leaf (.cut 1 7 (.cut 2 1 .leaf .leaf) .leaf)) .leaf) .leaf) (.cut 8 3 (.cut 9 0 .leaf (.cut 9 1 (.cut 10 0 .leaf (.cut 10 16 (.cut 12 3 (.conj [(13, 0), (14, 0), (15, 0)] (.cut 1 1 .leaf (.cut 1 7 (.cut 2 1 .leaf .leaf) .leaf)) .leaf) .leaf) .leaf)) .leaf)) (.cut 8 4 (.cut 9 0 .leaf (.cut 9 1 (.cut 10 0 .leaf (.cut 10 16 (.cut 12 3 (.conj [(13, 0), (14, 0), (15, 0)] (.cut 1 1 .leaf (.cut 1 7 (.cut 2 1 .leaf .leaf) .leaf)) .leaf) .leaf) .leaf)) .leaf)) .leaf)))) .leaf)
noncomputable def ru9L : Lf := (ru7L.lo 3 2)
noncomputable def ru10L : Lf := (ru9L.hi 3 (3 - 1))
def ru10T : Sp := (.cut 4 0 .leaf (.cut 4 1 (.cut 5 0 .leaf (.cut 5 16 (.cut 7 3 (.cut 8 1 .leaf (.cut 8 2 (.conj [(10, 0), (11, 0), (12, 0)] (.conj [(13, 0), (14, 0), (15, 0)] (.cut 1 1 .leaf (.cut 1 7 (.cut 2 1 .leaf .leaf) .leaf)) .leaf) .leaf) (.cut 8 3 (.cut 9 0 .leaf (.cut 9 1 (.cut 10 0 .leaf (.cut 10 16 (.cut 12 3 (.conj [(13, 0), (14, 0), (15, 0)] (.cut 1 1 .leaf (.cut 1 7 (.cut 2 1 (.tri 10 5 .leaf .leaf .leaf) .leaf) .leaf)) .leaf) .leaf) .leaf)) .leaf)) (.cut 8 4 (.cut 9 0 .leaf (.cut 9 1 (.cut 10 0 .leaf (.cut 10 16 (.cut 12 3 (.conj [(13, 0), (14, 0), (15, 0)] (.cut 1 1 .leaf (.cut 1 7 (.cut 2 1 (.tri 10 5 .leaf .leaf .leaf) .leaf) .leaf)) .leaf) .leaf) .leaf)) .leaf)) .leaf)))) .leaf) .leaf)) .leaf))
noncomputable def ru11L : Lf := (ru9L.lo 3 3)
def ru11T : Sp := (.cut 3 4 (.cut 4 0 .leaf (.cut 4 1 (.cut 5 0 .leaf (.cut 5 16 (.cut 7 3 (.cut 8 1 .leaf (.cut 8 2 (.conj [(10, 0), (11, 0), (12, 0)] (.conj [(13, 0), (14, 0), (15, 0)] (.cut 1 1 .leaf (.cut 1 7 (.cut 2 1 .leaf .leaf) .leaf)) .leaf) .leaf) (.cut 8 3 (.cut 9 0 .leaf (.cut 9 1 (.cut 10 0 .leaf (.cut 10 16 (.cut 12 3 (.conj [(13, 0), (14, 0), (15, 0)] (.cut 1 1 .leaf (.cut 1 7 (.cut 2 1 (.tri 10 5 .leaf .leaf .leaf) .leaf) .leaf)) .leaf) .leaf) .leaf)) .leaf)) (.cut 8 4 (.cut 9 0 .leaf (.cut 9 1 (.cut 10 0 .leaf (.cut 10 16 (.cut 12 3 (.conj [(13, 0), (14, 0), (15, 0)] (.cut 1 1 .leaf (.cut 1 7 (.cut 2 1 (.tri 10 5 .leaf .leaf .leaf) .leaf) .leaf)) .leaf) .leaf) .leaf)) .leaf)) .leaf)))) .leaf) .leaf)) .leaf)) .leaf)
def ru9T : Sp := .cut 3 3 ru10T ru11T
def ru7T : Sp := .cut 3 2 ru8T ru9T
def ru5T : Sp := .cut 3 1 ru6T ru7T
noncomputable def ru12L : Lf := (ru4L.lo 0 3)
noncomputable def ru13L : Lf := (ru12L.hi 0 (4 - 1))
noncomputable def ru14L : Lf := (ru13L.hi 3 (1 - 1))
def ru14T : Sp := .leaf
noncomputable def ru15L : Lf := (ru13L.lo 3 1)
noncomputable def ru16L : Lf := (ru15L.hi 3 (2 - 1))
def ru16T : Sp := (.conj [(5, 0), (6, 0), (7, 0)] (.cut 8 1 .leaf (.cut 8 2 (.conj [(10, 0), (11, 0), (12, 0)] (.conj [(13, 0), (14, 0), (15, 0)] (.cut 1 1 (.cut 2 1 .leaf .leaf) .leaf) .leaf) .leaf) (.cut 8 3 (.cut 9 0 .leaf (.cut 9 1 (.cut 10 0 .leaf (.cut 10 16 (.cut 12 3 (.conj [(13, 0), (14, 0), (15, 0)] (.cut 1 1 (.cut 2 1 .leaf .leaf) .leaf) .leaf) .leaf) .leaf)) .leaf)) (.cut 8 4 (.cut 9 0 .leaf (.cut 9 1 (.cut 10 0 .leaf (.cut 10 16 (.cut 12 3 (.conj [(13, 0), (14, 0), (15, 0)] (.cut 1 1 (.cut 2 1 .leaf .leaf) .leaf) .leaf) .leaf) .leaf)) .leaf)) .leaf)))) .leaf)
noncomputable def ru17L : Lf := (ru15L.lo 3 2)
noncomputable def ru18L : Lf := (ru17L.hi 3 (3 - 1))
def ru18T : Sp := (.cut 4 0 .leaf (.cut 4 1 (.cut 5 0 .leaf (.cut 5 16 (.cut 7 3 (.cut 8 1 .leaf (.cut 8 2 (.conj [(10, 0), (11, 0), (12, 0)] (.conj [(13, 0), (14, 0), (15, 0)] (.cut 1 1 (.cut 2 1 .leaf .leaf) .leaf) .leaf) .leaf) (.cut 8 3 (.cut 9 0 .leaf (.cut 9 1 (.cut 10 0 .leaf (.cut 10 16 (.cut 12 3 (.conj [(13, 0), (14, 0), (15, 0)] (.cut 1 1 (.cut 2 1 (.tri 10 5 .leaf .leaf .leaf) .leaf) .leaf) .leaf) .leaf) .leaf)) .leaf)) (.cut 8 4 (.cut 9 0 .leaf (.cut 9 1 (.cut 10 0 .leaf (.cut 10 16 (.cut 12 3 (.conj [(13, 0), (14, 0), (15, 0)] (.cut 1 1 (.cut 2 1 (.tri 10 5 .leaf .leaf .leaf) .leaf) .leaf) .leaf) .leaf) .leaf)) .leaf)) .leaf)))) .leaf) .leaf)) .leaf))
noncomputable def ru19L : Lf := (ru17L.lo 3 3)
def ru19T : Sp := (.cut 3 4 (.cut 4 0 .leaf (.cut 4 1 (.cut 5 0 .leaf (.cut 5 16 (.cut 7 3 (.cut 8 1 .leaf (.cut 8 2 (.conj [(10, 0), (11, 0), (12, 0)] (.conj [(13, 0), (14, 0), (15, 0)] (.cut 1 1 (.cut 2 1 .leaf .leaf) .leaf) .leaf) .leaf) (.cut 8 3 (.cut 9 0 .leaf (.cut 9 1 (.cut 10 0 .leaf (.cut 10 16 (.cut 12 3 (.conj [(13, 0), (14, 0), (15, 0)] (.cut 1 1 (.cut 2 1 (.tri 10 5 .leaf .leaf .leaf) .leaf) .leaf) .leaf) .leaf) .leaf)) .leaf)) (.cut 8 4 (.cut 9 0 .leaf (.cut 9 1 (.cut 10 0 .leaf (.cut 10 16 (.cut 12 3 (.conj [(13, 0), (14, 0), (15, 0)] (.cut 1 1 (.cut 2 1 (.tri 10 5 .leaf .leaf .leaf) .leaf) .leaf) .leaf) .leaf) .leaf)) .leaf)) .leaf)))) .leaf) .leaf)) .leaf)) .leaf)
def ru17T : Sp := .cut 3 3 ru18T ru19T
def ru15T : Sp := .cut 3 2 ru16T ru17T
def ru13T : Sp := .cut 3 1 ru14T ru15T
noncomputable def ru20L : Lf := (ru12L.lo 0 4)
def ru20T : Sp := (.cut 0 5 (.conj [(3, 0), (4, 0), (5, 0), (6, 0), (7, 0)] (.conj [(8, 0), (9, 0), (10, 0), (11, 0), (12, 0)] (.cut 13 0 .leaf (.cut 13 16 (.cut 15 3 (.cut 1 1 (.cut 2 1 .leaf (.cut 2 4 .leaf .leaf)) .leaf) .leaf) .leaf)) .leaf) .leaf) (.cut 0 6 (.conj [(3, 0), (4, 0), (5, 0), (6, 0), (7, 0)] (.conj [(8, 0), (9, 0), (10, 0), (11, 0), (12, 0)] (.cut 13 0 .leaf (.cut 13 16 (.cut 15 3 (.cut 1 1 (.cut 2 1 .leaf .leaf) .leaf) .leaf) .leaf)) .leaf) .leaf) .leaf))
def ru12T : Sp := .cut 0 4 ru13T ru20T
def ru4T : Sp := .cut 0 3 ru5T ru12T
def ru2T : Sp := .cut 0 2 ru3T ru4T
def ru0T : Sp := .cut 0 1 ru1T ru2T
noncomputable def goodU_ruA (L : Lf) : Bool := cyc L || listAt (okRvE 0) kRv (@rvUX (L.know (strsT 0 kRv)) (cellsL kRv L) 0) L (runL 22 kRv ruP L)
theorem ruA_ru1 : (ru1T.leaves ru1L).all goodU_ruA = true := by kernel_rfl
theorem ruA_ru3 : (ru3T.leaves ru3L).all goodU_ruA = true := by kernel_rfl
theorem ruA_ru6 : (ru6T.leaves ru6L).all goodU_ruA = true := by kernel_rfl
theorem ruA_ru8 : (ru8T.leaves ru8L).all goodU_ruA = true := by kernel_rfl
theorem ruA_ru10 : (ru10T.leaves ru10L).all goodU_ruA = true := by kernel_rfl
theorem ruA_ru11 : (ru11T.leaves ru11L).all goodU_ruA = true := by kernel_rfl
theorem ruA_ru14 : (ru14T.leaves ru14L).all goodU_ruA = true := by kernel_rfl
theorem ruA_ru16 : (ru16T.leaves ru16L).all goodU_ruA = true := by kernel_rfl
theorem ruA_ru18 : (ru18T.leaves ru18L).all goodU_ruA = true := by kernel_rfl
theorem ruA_ru19 : (ru19T.leaves ru19L).all goodU_ruA = true := by kernel_rfl
theorem ruA_ru20 : (ru20T.leaves ru20L).all goodU_ruA = true := by kernel_rfl
theorem ruA_ru9 : (ru9T.leaves ru9L).all goodU_ruA = true := by
  have e : ru9T.leaves ru9L = ru10T.leaves ru10L ++ ru11T.leaves ru11L := rfl
  rw [e]
  simp only [List.all_append, ruA_ru10, ruA_ru11, Bool.and_self]
theorem ruA_ru7 : (ru7T.leaves ru7L).all goodU_ruA = true := by
  have e : ru7T.leaves ru7L = ru8T.leaves ru8L ++ ru9T.leaves ru9L := rfl
  rw [e]
  simp only [List.all_append, ruA_ru8, ruA_ru9, Bool.and_self]
theorem ruA_ru5 : (ru5T.leaves ru5L).all goodU_ruA = true := by
  have e : ru5T.leaves ru5L = ru6T.leaves ru6L ++ ru7T.leaves ru7L := rfl
  rw [e]
  simp only [List.all_append, ruA_ru6, ruA_ru7, Bool.and_self]
theorem ruA_ru17 : (ru17T.leaves ru17L).all goodU_ruA = true := by
  have e : ru17T.leaves ru17L = ru18T.leaves ru18L ++ ru19T.leaves ru19L := rfl
  rw [e]
  simp only [List.all_append, ruA_ru18, ruA_ru19, Bool.and_self]
theorem ruA_ru15 : (ru15T.leaves ru15L).all goodU_ruA = true := by
  have e : ru15T.leaves ru15L = ru16T.leaves ru16L ++ ru17T.leaves ru17L := rfl
  rw [e]
  simp only [List.all_append, ruA_ru16, ruA_ru17, Bool.and_self]
theorem ruA_ru13 : (ru13T.leaves ru13L).all goodU_ruA = true := by
  have e : ru13T.leaves ru13L = ru14T.leaves ru14L ++ ru15T.leaves ru15L := rfl
  rw [e]
  simp only [List.all_append, ruA_ru14, ruA_ru15, Bool.and_self]
theorem ruA_ru12 : (ru12T.leaves ru12L).all goodU_ruA = true := by
  have e : ru12T.leaves ru12L = ru13T.leaves ru13L ++ ru20T.leaves ru20L := rfl
  rw [e]
  simp only [List.all_append, ruA_ru13, ruA_ru20, Bool.and_self]
theorem ruA_ru4 : (ru4T.leaves ru4L).all goodU_ruA = true := by
  have e : ru4T.leaves ru4L = ru5T.leaves ru5L ++ ru12T.leaves ru12L := rfl
  rw [e]
  simp only [List.all_append, ruA_ru5, ruA_ru12, Bool.and_self]
theorem ruA_ru2 : (ru2T.leaves ru2L).all goodU_ruA = true := by
  have e : ru2T.leaves ru2L = ru3T.leaves ru3L ++ ru4T.leaves ru4L := rfl
  rw [e]
  simp only [List.all_append, ruA_ru3, ruA_ru4, Bool.and_self]
theorem ruA_ru0 : (ru0T.leaves ru0L).all goodU_ruA = true := by
  have e : ru0T.leaves ru0L = ru1T.leaves ru1L ++ ru2T.leaves ru2L := rfl
  rw [e]
  simp only [List.all_append, ruA_ru1, ruA_ru2, Bool.and_self]
theorem ruA_lists : ListsE 22 kRv (okRvE 0) (fun us => rvU (rvAt us 0)) := lists_of (pls := ruP) (fun L xs => @rvUX (L.know (strsT 0 kRv)) xs 0) (fun b0 L r xs us q hK ha h => by rw [← hK] at h; exact @rvUX_ok b0 r xs us ha 0 q h) (by kernel_rfl) (sp := ru0T) ruA_ru0
end Go.Proofs.YtnhnelgkcldkbaaGreatDoor.Am
/-! What rvalues move: value.Moves. -/
namespace Go.Proofs.YtnhnelgkcldkbaaGreatDoor.Am
open Go.RowKit
set_option maxRecDepth 100000
end Go.Proofs.YtnhnelgkcldkbaaGreatDoor.Am
