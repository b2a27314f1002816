/- Statements: which are valid; Check and the reference's Check and Valid answer by that test. -/
import Derived.Test.YtmljjflimiakfaaDoorTests4
import Derived.Test.YtmljjflimiakfaaDoorAmC
namespace Go.Proofs.YtmljjflimiakfaaDoor.Am
open Go.RowKit
set_option maxRecDepth 100000
set_option linter.unusedVariables false
abbrev kSt : List Kd := .i .u8 :: (kPl ++ (kRv ++ (kOp ++ [.i .i64])))
/-- kind, place (3), rvalue (16), operand (5), local -/
def okStE : E :=
  .or (.ands [.zero [(0, 1)], okPlE 1, okRvE 4, .zero (zs 20 5), .zero [(25, 0)]])
  (.or (.ands [.or (.zero [(0, 2)]) (.zero [(0, 4)]), .zero (zs 1 3), .zero (zs 4 16), okOpE 20, .zero [(25, 0)]])
  (.ands [.zero [(0, 3)], .zero (zs 1 3), .zero (zs 4 16), .zero (zs 20 5), .not (.lt 25 0), .lt 25 16]))
/-- .. over the answers for its parts -/
def okStB : E :=
  .or (.ands [.zero [(0, 1)], .zero [(26, 1)], .zero [(27, 1)], .zero (zs 20 5), .zero [(25, 0)]])
  (.or (.ands [.or (.zero [(0, 2)]) (.zero [(0, 4)]), .zero (zs 1 3), .zero (zs 4 16), .zero [(28, 1)], .zero [(25, 0)]])
  (.ands [.zero [(0, 3)], .zero (zs 1 3), .zero (zs 4 16), .zero (zs 20 5), .not (.lt 25 0), .lt 25 16]))
def bitsSt (us : List Value) : List Int := [b2i ((okPlE 1).val us), b2i ((okRvE 4).val us), b2i ((okOpE 20).val us)]
theorem b2i_one (b : Bool) : decide (b2i b = 1) = b := by cases b <;> decide
theorem st_bits {us : List Value} (hl : us.length = 26) : okStB.val (us ++ (bitsSt us).map (Value.int .i64)) = okStE.val us := by
  have z : ∀ l : List (Nat × Int), (l.all fun p => Nat.blt p.1 26) = true → (E.zero l).val (us ++ (bitsSt us).map (Value.int .i64)) = (E.zero l).val us := fun l h => by
    simp only [E.val]
    rw [Bool.eq_iff_iff, List.all_eq_true, List.all_eq_true]
    have key : ∀ p ∈ l, cellI (us ++ (bitsSt us).map (Value.int .i64)) p.1 = cellI us p.1 := fun p hp => cellI_lt (by
      have := List.all_eq_true.1 h p hp
      rw [Nat.blt_eq] at this
      omega)
    constructor <;> intro hh p hp <;> have := hh p hp
    · rwa [key p hp] at this
    · rwa [key p hp]
  have b : ∀ (j : Nat) (x : Bool), (bitsSt us)[j]? = some (b2i x) → (E.zero [(26 + j, 1)]).val (us ++ (bitsSt us).map (Value.int .i64)) = x := fun j x h => by
    simp only [E.val, List.all_cons, List.all_nil, Bool.and_true]
    rw [cellI_ge hl]
    unfold cellI
    rw [List.getElem?_map, h]
    exact b2i_one x
  have t : ∀ i (c : Int), i < 26 → (E.lt i c).val (us ++ (bitsSt us).map (Value.int .i64)) = (E.lt i c).val us := fun i c h => by
    simp only [E.val]
    rw [cellI_lt (by omega)]
  have e : ∀ vs : List Value, okStB.val vs = (((E.zero [(0, 1)]).val vs && ((E.zero [(26, 1)]).val vs && ((E.zero [(27, 1)]).val vs && ((E.zero (zs 20 5)).val vs && (E.zero [(25, 0)]).val vs)))) ||
      ((((E.zero [(0, 2)]).val vs || (E.zero [(0, 4)]).val vs) && ((E.zero (zs 1 3)).val vs && ((E.zero (zs 4 16)).val vs && ((E.zero [(28, 1)]).val vs && (E.zero [(25, 0)]).val vs)))) ||
      ((E.zero [(0, 3)]).val vs && ((E.zero (zs 1 3)).val vs && ((E.zero (zs 4 16)).val vs && ((E.zero (zs 20 5)).val vs && (!(E.lt 25 0).val vs && (E.lt 25 16).val vs))))))) := fun _ => rfl
  rw [e, z [(0, 1)] (by decide), b 0 _ rfl, b 1 _ rfl, z (zs 20 5) (by decide), z [(25, 0)] (by decide), z [(0, 2)] (by decide), z [(0, 4)] (by decide), z (zs 1 3) (by decide), z (zs 4 16) (by decide), b 2 _ rfl, z [(0, 3)] (by decide), t 25 0 (by decide), t 25 16 (by decide)]
  rfl
def L0St : Lf := Lf.startB [(true, kSt)] [] [(0, 1), (0, 1), (0, 1)]
theorem sub_place {us : List Value} {n : Nat} : (okPlE 0).val ((us.drop n).take 3) = (okPlE n).val us := by
  simp only [okPlE, E.ands, E.val, Nat.zero_add, cellI_sub (show 0 < 3 by decide), cellI_sub (show 2 < 3 by decide), Nat.add_zero]
theorem sub_zero {us : List Value} {n m : Nat} {l : List (Nat × Int)} (h : (l.all fun p => Nat.blt p.1 m) = true) : (E.zero l).val ((us.drop n).take m) = (E.zero (l.map fun p => (n + p.1, p.2))).val us := by
  simp only [E.val, List.all_map]
  rw [Bool.eq_iff_iff, List.all_eq_true, List.all_eq_true]
  have key : ∀ p ∈ l, cellI ((us.drop n).take m) p.1 = cellI us (n + p.1) := fun p hp => cellI_sub (by
    have := List.all_eq_true.1 h p hp
    rw [Nat.blt_eq] at this
    exact this)
  constructor <;> intro hh p hp <;> have := hh p hp <;> simp only [Function.comp] at this ⊢
  · rwa [key p hp] at this
  · rwa [key p hp]
/-- a test of a part, moved to where the part lies -/
def E.mv (n : Nat) : E → E
  | .lt i c => .lt (n + i) c
  | .zero l => .zero (l.map fun p => (n + p.1, p.2))
  | .and a b => .and (a.mv n) (b.mv n)
  | .or a b => .or (a.mv n) (b.mv n)
  | .not a => .not (a.mv n)
def E.top : E → Nat
  | .lt i _ => i + 1
  | .zero l => l.foldr (fun p m => max (p.1 + 1) m) 0
  | .and a b => max a.top b.top
  | .or a b => max a.top b.top
  | .not a => a.top
theorem top_all {m : Nat} : ∀ {l : List (Nat × Int)}, l.foldr (fun p m => max (p.1 + 1) m) 0 ≤ m → (l.all fun p => Nat.blt p.1 m) = true
  | [], _ => rfl
  | p :: l, h => by
    rw [List.foldr_cons] at h
    have h1 : p.1 + 1 ≤ m := Nat.le_trans (Nat.le_max_left ..) h
    rw [List.all_cons, top_all (Nat.le_trans (Nat.le_max_right ..) h), Bool.and_true, Nat.blt_eq]
    omega
theorem mv_val {us : List Value} {n m : Nat} : ∀ e : E, e.top ≤ m → e.val ((us.drop n).take m) = (e.mv n).val us
  | .lt i c, h => by
    have h : i + 1 ≤ m := h
    simp only [E.val, E.mv]
    rw [cellI_sub (by omega)]
  | .zero l, h => sub_zero (by
    have h : l.foldr (fun p m => max (p.1 + 1) m) 0 ≤ m := h
    exact top_all h)
  | .and a b, h => by
    have h : max a.top b.top ≤ m := h
    simp only [E.val, E.mv, mv_val a (Nat.le_trans (Nat.le_max_left ..) h), mv_val b (Nat.le_trans (Nat.le_max_right ..) h)]
  | .or a b, h => by
    have h : max a.top b.top ≤ m := h
    simp only [E.val, E.mv, mv_val a (Nat.le_trans (Nat.le_max_left ..) h), mv_val b (Nat.le_trans (Nat.le_max_right ..) h)]
  | .not a, h => by
    have h : a.top ≤ m := h
    simp only [E.val, E.mv, mv_val a h]
theorem pl_at {us : List Value} {n : Nat} : (okPlE 0).val ((us.drop n).take 3) = (okPlE n).val us := sub_place
theorem op_at {us : List Value} : (okOpE 0).val ((us.drop 20).take 5) = (okOpE 20).val us := (mv_val (okOpE 0) (by decide)).trans rfl
theorem rv_at {us : List Value} : (okRvE 0).val ((us.drop 4).take 16) = (okRvE 4).val us := (mv_val (okRvE 0) (by decide)).trans rfl
noncomputable def stA0L : Lf := L0St
noncomputable def stA1L : Lf := (stA0L.hi 0 (1 - 1))
def stA1T : Sp := (.conj [(1, 0), (2, 0), (3, 0), (4, 0), (5, 0), (6, 0), (7, 0), (8, 0), (9, 0), (10, 0), (11, 0), (12, 0), (13, 0), (14, 0), (15, 0), (16, 0), (17, 0), (18, 0), (19, 0), (20, 0), (21, 0), (22, 0), (23, 0), (24, 0), (25, 0)] .leaf .leaf)
noncomputable def stA2L : Lf := (stA0L.lo 0 1)
noncomputable def stA3L : Lf := (stA2L.hi 0 (2 - 1))
def stA3T : Sp := (.cut 27 1 (.cut 26 1 (.conj [(20, 0), (21, 0), (22, 0), (23, 0), (24, 0), (25, 0)] .leaf .leaf) (.conj [(20, 0), (21, 0), (22, 0), (23, 0), (24, 0), (25, 0)] .leaf .leaf)) (.cut 26 1 (.conj [(20, 0), (21, 0), (22, 0), (23, 0), (24, 0), (25, 0)] .leaf .leaf) (.conj [(20, 0), (21, 0), (22, 0), (23, 0), (24, 0), (25, 0)] .leaf (.conj [(20, 0), (21, 0), (22, 0), (23, 0), (24, 0)] (.cut 25 0 .leaf (.cut 25 1 .leaf .leaf)) .leaf))))
noncomputable def stA4L : Lf := (stA2L.lo 0 2)
noncomputable def stA5L : Lf := (stA4L.hi 0 (3 - 1))
def stA5T : Sp := (.conj [(1, 0), (2, 0), (3, 0), (4, 0), (5, 0), (6, 0), (7, 0), (8, 0), (9, 0), (10, 0), (11, 0), (12, 0), (13, 0), (14, 0), (15, 0), (16, 0), (17, 0), (18, 0), (19, 0), (25, 0)] (.cut 28 1 .leaf .leaf) (.conj [(1, 0), (2, 0), (3, 0)] (.conj [(4, 0), (5, 0), (6, 0), (7, 0), (8, 0), (9, 0), (10, 0), (11, 0), (12, 0), (13, 0), (14, 0), (15, 0), (16, 0), (17, 0), (18, 0), (19, 0), (25, 0)] (.cut 28 1 .leaf .leaf) (.conj [(4, 0), (5, 0), (6, 0), (7, 0), (8, 0), (9, 0), (10, 0), (11, 0), (12, 0), (13, 0), (14, 0), (15, 0), (16, 0), (17, 0), (18, 0), (19, 0)] (.cut 25 0 .leaf (.cut 25 1 (.cut 28 1 .leaf .leaf) .leaf)) .leaf)) .leaf))
noncomputable def stA6L : Lf := (stA4L.lo 0 3)
def stA6T : Sp := (.cut 0 4 (.cut 25 0 (.conj [(1, 0), (2, 0), (3, 0), (4, 0), (5, 0), (6, 0), (7, 0), (8, 0), (9, 0), (10, 0), (11, 0), (12, 0), (13, 0), (14, 0), (15, 0), (16, 0), (17, 0), (18, 0), (19, 0), (20, 0), (21, 0), (22, 0), (23, 0), (24, 0)] .leaf .leaf) (.cut 25 16 (.conj [(1, 0), (2, 0), (3, 0), (4, 0), (5, 0), (6, 0), (7, 0), (8, 0), (9, 0), (10, 0), (11, 0), (12, 0), (13, 0), (14, 0), (15, 0), (16, 0), (17, 0), (18, 0), (19, 0), (20, 0), (21, 0), (22, 0), (23, 0), (24, 0)] .leaf (.conj [(1, 0), (2, 0), (3, 0)] (.conj [(4, 0), (5, 0), (6, 0), (7, 0), (8, 0), (9, 0), (10, 0), (11, 0), (12, 0), (13, 0), (14, 0), (15, 0), (16, 0), (17, 0), (18, 0), (19, 0), (20, 0), (21, 0), (22, 0), (23, 0), (24, 0)] .leaf (.conj [(4, 0), (5, 0), (6, 0), (7, 0), (8, 0), (9, 0), (10, 0), (11, 0), (12, 0), (13, 0), (14, 0), (15, 0), (16, 0), (17, 0), (18, 0), (19, 0)] (.conj [(20, 0), (21, 0), (22, 0), (23, 0), (24, 0)] .leaf .leaf) .leaf)) .leaf)) (.conj [(1, 0), (2, 0), (3, 0), (4, 0), (5, 0), (6, 0), (7, 0), (8, 0), (9, 0), (10, 0), (11, 0), (12, 0), (13, 0), (14, 0), (15, 0), (16, 0), (17, 0), (18, 0), (19, 0), (20, 0), (21, 0), (22, 0), (23, 0), (24, 0)] .leaf .leaf))) (.cut 0 5 (.conj [(1, 0), (2, 0), (3, 0), (4, 0), (5, 0), (6, 0), (7, 0), (8, 0), (9, 0), (10, 0), (11, 0), (12, 0), (13, 0), (14, 0), (15, 0), (16, 0), (17, 0), (18, 0), (19, 0), (25, 0)] (.cut 28 1 .leaf .leaf) (.conj [(1, 0), (2, 0), (3, 0)] (.conj [(4, 0), (5, 0), (6, 0), (7, 0), (8, 0), (9, 0), (10, 0), (11, 0), (12, 0), (13, 0), (14, 0), (15, 0), (16, 0), (17, 0), (18, 0), (19, 0), (25, 0)] (.cut 28 1 .leaf .leaf) (.conj [(4, 0), (5, 0), (6, 0), (7, 0), (8, 0), (9, 0), (10, 0), (11, 0), (12, 0), (13, 0), (14, 0), (15, 0), (16, 0), (17, 0), (18, 0), (19, 0)] (.cut 25 0 .leaf (.cut 25 1 (.cut 28 1 .leaf .leaf) .leaf)) .leaf)) .leaf)) (.conj [(1, 0), (2, 0), (3, 0), (4, 0), (5, 0), (6, 0), (7, 0), (8, 0), (9, 0), (10, 0), (11, 0), (12, 0), (13, 0), (14, 0), (15, 0), (16, 0), (17, 0), (18, 0), (19, 0), (20, 0), (21, 0), (22, 0), (23, 0), (24, 0), (25, 0)] .leaf .leaf)))
def stA4T : Sp := .cut 0 3 stA5T stA6T
def stA2T : Sp := .cut 0 2 stA3T stA4T
def stA0T : Sp := .cut 0 1 stA1T stA2T
noncomputable def stP0L : Lf := L0St
noncomputable def stP1L : Lf := (stP0L.hi 0 (1 - 1))
def stP1T : Sp := .leaf
noncomputable def stP2L : Lf := (stP0L.lo 0 1)
def stP2T : Sp := (.cut 0 2 (.cut 26 1 .leaf (.cut 27 1 .leaf (.conj [(20, 0), (21, 0), (22, 0), (23, 0), (24, 0)] (.cut 25 0 .leaf (.cut 25 1 .leaf .leaf)) .leaf))) (.cut 0 3 (.conj [(1, 0), (2, 0), (3, 0)] (.conj [(4, 0), (5, 0), (6, 0), (7, 0), (8, 0), (9, 0), (10, 0), (11, 0), (12, 0), (13, 0), (14, 0), (15, 0), (16, 0), (17, 0), (18, 0), (19, 0)] (.cut 28 1 .leaf (.cut 25 0 .leaf (.cut 25 1 .leaf .leaf))) .leaf) .leaf) (.cut 0 4 (.conj [(1, 0), (2, 0), (3, 0)] (.conj [(4, 0), (5, 0), (6, 0), (7, 0), (8, 0), (9, 0), (10, 0), (11, 0), (12, 0), (13, 0), (14, 0), (15, 0), (16, 0), (17, 0), (18, 0), (19, 0)] (.conj [(20, 0), (21, 0), (22, 0), (23, 0), (24, 0)] (.cut 25 0 .leaf (.cut 25 16 .leaf .leaf)) .leaf) .leaf) .leaf) (.cut 0 5 (.conj [(1, 0), (2, 0), (3, 0)] (.conj [(4, 0), (5, 0), (6, 0), (7, 0), (8, 0), (9, 0), (10, 0), (11, 0), (12, 0), (13, 0), (14, 0), (15, 0), (16, 0), (17, 0), (18, 0), (19, 0)] (.cut 28 1 .leaf (.cut 25 0 .leaf (.cut 25 1 .leaf .leaf))) .leaf) .leaf) .leaf))))
def stP0T : Sp := .cut 0 1 stP1T stP2T
noncomputable def stV0L : Lf := L0St
noncomputable def stV1L : Lf := (stV0L.hi 0 (1 - 1))
def stV1T : Sp := .leaf
noncomputable def stV2L : Lf := (stV0L.lo 0 1)
def stV2T : Sp := (.cut 0 2 (.cut 26 1 .leaf (.cut 27 1 .leaf (.conj [(20, 0), (21, 0), (22, 0), (23, 0), (24, 0)] (.cut 25 0 .leaf (.cut 25 1 .leaf .leaf)) .leaf))) (.cut 0 3 (.conj [(1, 0), (2, 0), (3, 0)] (.conj [(4, 0), (5, 0), (6, 0), (7, 0), (8, 0), (9, 0), (10, 0), (11, 0), (12, 0), (13, 0), (14, 0), (15, 0), (16, 0), (17, 0), (18, 0), (19, 0)] (.cut 28 1 .leaf (.cut 25 0 .leaf (.cut 25 1 .leaf .leaf))) .leaf) .leaf) (.cut 0 4 (.conj [(1, 0), (2, 0), (3, 0)] (.conj [(4, 0), (5, 0), (6, 0), (7, 0), (8, 0), (9, 0), (10, 0), (11, 0), (12, 0), (13, 0), (14, 0), (15, 0), (16, 0), (17, 0), (18, 0), (19, 0)] (.conj [(20, 0), (21, 0), (22, 0), (23, 0), (24, 0)] (.cut 25 0 .leaf (.cut 25 16 .leaf .leaf)) .leaf) .leaf) .leaf) (.cut 0 5 (.conj [(1, 0), (2, 0), (3, 0)] (.conj [(4, 0), (5, 0), (6, 0), (7, 0), (8, 0), (9, 0), (10, 0), (11, 0), (12, 0), (13, 0), (14, 0), (15, 0), (16, 0), (17, 0), (18, 0), (19, 0)] (.cut 28 1 .leaf (.cut 25 0 .leaf (.cut 25 1 .leaf .leaf))) .leaf) .leaf) .leaf))))
def stV0T : Sp := .cut 0 1 stV1T stV2T
end Go.Proofs.YtmljjflimiakfaaDoor.Am
