/- Places, operands, rvalues: which are valid; the program's and the reference's answers by that test. -/
import Derived.Test.YtnhnelgkcldkbaaGreatDoorAmC
import Derived.Test.YtnhnelgkcldkbaaGreatDoorLn
namespace Go.Proofs.YtnhnelgkcldkbaaGreatDoor.Am
open Go.RowKit
set_option maxRecDepth 100000
theorem all_chunks {α : Type} (p : α → Bool) (n : Nat) : ∀ (k : Nat) (l : List α), l.length ≤ n * k → (∀ i, i < k → ((l.drop (n * i)).take n).all p = true) → l.all p = true
  | 0, l, h, _ => by rw [List.eq_nil_of_length_eq_zero (Nat.le_zero.1 h)]; rfl
  | k + 1, l, h, hk => by
    rw [← List.take_append_drop n l, List.all_append, Bool.and_eq_true]
    refine ⟨by simpa using hk 0 (Nat.succ_pos k), all_chunks p n k (l.drop n) (by rw [List.length_drop, Nat.mul_succ] at *; omega) fun i hi => ?_⟩
    have := hk (i + 1) (Nat.succ_lt_succ hi)
    rwa [List.drop_drop, show n + n * i = n * (i + 1) by rw [Nat.mul_succ, Nat.add_comm]]
noncomputable def ckB (g : Lf → Bool) (T : Sp) (L : Lf) (n i : Nat) : Bool := (((T.leaves L).drop (n * i)).take n).all g
def E.ands : List E → E
  | [] => .zero []
  | [e] => e
  | e :: r => .and e (E.ands r)
/-- n cells from o on are 0 -/
def zs (o n : Nat) : List (Nat × Int) := (List.range n).map fun i => (o + i, 0)
/-- a place is valid -/
def okPlE (o : Nat) : E := .ands [.not (.lt o 0), .lt o 16, .lt (o + 2) 3]
/-- an operand is valid -/
def okOpE (o : Nat) : E := .or (.and (.zero [(o, 1)]) (.zero (zs (o + 2) 3))) (.ands [.or (.zero [(o, 2)]) (.zero [(o, 3)]), .zero [(o + 1, 0)], okPlE (o + 2)])
/-- an rvalue is valid -/
def okRvE (o : Nat) : E :=
  .or (.ands [.zero [(o, 1)], okOpE (o + 3), .zero (zs (o + 8) 5), .zero (zs (o + 13) 3), .zero [(o + 1, 0)], .zero [(o + 2, 0)]])
  (.or (.ands [.zero [(o, 2)], okOpE (o + 3), okOpE (o + 8), .zero (zs (o + 13) 3), .not (.lt (o + 1) 1), .lt (o + 1) 7, .zero [(o + 2, 0)]])
  (.or (.ands [.zero [(o, 3)], okOpE (o + 3), okOpE (o + 8), .zero (zs (o + 13) 3), .zero [(o + 1, 0)], .zero [(o + 2, 0)]])
  (.or (.ands [.zero [(o, 4)], .zero (zs (o + 3) 5), .zero (zs (o + 8) 5), okPlE (o + 13), .zero [(o + 1, 0)], .not (.lt (o + 2) 1), .lt (o + 2) 4])
  (.ands [.zero [(o, 5)], .zero (zs (o + 3) 5), .zero (zs (o + 8) 5), okPlE (o + 13), .zero [(o + 1, 0)], .zero [(o + 2, 0)]]))))
abbrev kPl : List Kd := [.i .i64, .b, .i .u8]
abbrev kOp : List Kd := .i .u8 :: .i .i64 :: kPl
abbrev kRv : List Kd := .i .u8 :: .i .u8 :: .i .u8 :: (kOp ++ (kOp ++ kPl))
/-- 0 or 8 -/
def v8 (b : Bool) : Value := .int .i64 (bif b then 0 else 8)
def m8 (b : Bool) : V := V.s (.int .i64 (bif b then 0 else 8))
def mB (b : Bool) : V := V.s (.bool b)
theorem m8_ok (b0 : Base) (r : Ren) (b : Bool) (u : Value) (h : @VV b0 r (m8 b) u) : u = v8 b := h
theorem mB_ok (b0 : Base) (r : Ren) (b : Bool) (u : Value) (h : @VV b0 r (mB b) u) : u = .bool b := h
/-- whoever calls -/
abbrev anyW : World → Prop := fun _ => True
section
variable {F : FuncId} {ks : List Kd} {e : E} {val : Bool → Value}
theorem tests_any {mk : Bool → V} (hmk : ∀ (b0 : Base) r b u, @VV b0 r (mk b) u → u = val b) (lib : Lf → Oracle)
    (hl : ∀ (L : Lf) {rho : Nat → Int} {sig : Nat → List UInt8} (h : L.Holds rho sig) (k : Lens (strsT 0 ks) rho sig), @Sound (baseN default (Lf.ok h k)) Tryz.prog (lib L)) {sp : Sp}
    (hrun : ((sp.leaves (Lf.start [(true, ks)])).all fun L => testsAt e mk ks L (@runs (L.know (strsT 0 ks)) (tyOf Tryz.prog) (fnOf Tryz.prog) (lib L) 30 15 F [.g ((cellsT 0 ks).map L.nS)] ⟨[], 0⟩ 0)) = true) : Tests Tryz.prog anyW F ks e val :=
  fun us hk w _ => tests_of (nb := 0) (w0 := default) (fun L => @runs (L.know (strsT 0 ks)) (tyOf Tryz.prog) (fnOf Tryz.prog) (lib L) 30 15) mk hmk
    (fun L {rho sig} h k d => @sound_runsN default _ rho sig (Lf.ok h k) _ (hl L h k) 30 15) hrun us hk w ⟨Nat.zero_le _, fun _ h => by cases h⟩
noncomputable def tO (F : FuncId) (ks : List Kd) (e : E) (mk : Bool → V) (K : Know) : Oracle := pureO F (@testG K ks e mk)
theorem sound_t8 (b : Base) (hc : Callable Tryz.prog F) (h : Tests Tryz.prog anyW F ks e v8) : @Sound b Tryz.prog (tO F ks e m8 b.toKnow) := @sound_test b Tryz.prog anyW F hc ks e v8 h (fun _ _ => trivial) m8 (fun _ _ => rfl)
theorem sound_tB (b : Base) (hc : Callable Tryz.prog F) (h : Tests Tryz.prog anyW F ks e .bool) : @Sound b Tryz.prog (tO F ks e mB b.toKnow) := @sound_test b Tryz.prog anyW F hc ks e .bool h (fun _ _ => trivial) mB (fun _ _ => rfl)
end

noncomputable def pl0L : Lf := Lf.start [(true, kPl)]
def pl0T : Sp := (.cut 0 0 .leaf (.cut 0 16 (.cut 2 3 .leaf .leaf) .leaf))
noncomputable def good_plA (L : Lf) : Bool := testsAt (okPlE 0) m8 kPl L (@runs (L.know (strsT 0 kPl)) (tyOf Tryz.prog) (fnOf Tryz.prog) (noneO) 30 15 67 [.g ((cellsT 0 kPl).map L.nS)] ⟨[], 0⟩ 0)
theorem plA_pl0 : (pl0T.leaves pl0L).all good_plA = true := by kernel_rfl
theorem plA_tests : Tests Tryz.prog anyW 67 kPl (okPlE 0) v8 := tests_any m8_ok (fun _ => noneO) (fun _ {_ _} h k => sound_noneO (Lf.ok h k)) (sp := pl0T) plA_pl0
noncomputable def good_plB (L : Lf) : Bool := testsAt (okPlE 0) m8 kPl L (@runs (L.know (strsT 0 kPl)) (tyOf Tryz.prog) (fnOf Tryz.prog) (noneO) 30 15 123 [.g ((cellsT 0 kPl).map L.nS)] ⟨[], 0⟩ 0)
theorem plB_pl0 : (pl0T.leaves pl0L).all good_plB = true := by kernel_rfl
theorem plB_tests : Tests Tryz.prog anyW 123 kPl (okPlE 0) v8 := tests_any m8_ok (fun _ => noneO) (fun _ {_ _} h k => sound_noneO (Lf.ok h k)) (sp := pl0T) plB_pl0
noncomputable def op0L : Lf := Lf.start [(true, kOp)]
def op0T : Sp := (.cut 0 1 .leaf (.cut 0 2 (.conj [(2, 0), (3, 0), (4, 0)] .leaf .leaf) (.cut 0 3 (.cut 1 0 .leaf (.cut 1 1 (.cut 2 0 .leaf (.cut 2 16 (.cut 4 3 .leaf .leaf) .leaf)) .leaf)) (.cut 0 4 (.cut 1 0 .leaf (.cut 1 1 (.cut 2 0 .leaf (.cut 2 16 (.cut 4 3 .leaf .leaf) .leaf)) .leaf)) .leaf))))
noncomputable def good_opA (L : Lf) : Bool := testsAt (okOpE 0) m8 kOp L (@runs (L.know (strsT 0 kOp)) (tyOf Tryz.prog) (fnOf Tryz.prog) (noneO) 30 15 126 [.g ((cellsT 0 kOp).map L.nS)] ⟨[], 0⟩ 0)
theorem opA_op0 : (op0T.leaves op0L).all good_opA = true := by kernel_rfl
theorem opA_tests : Tests Tryz.prog anyW 126 kOp (okOpE 0) v8 := tests_any m8_ok (fun _ => noneO) (fun _ {_ _} h k => sound_noneO (Lf.ok h k)) (sp := op0T) opA_op0
noncomputable def good_opB (L : Lf) : Bool := testsAt (okOpE 0) m8 kOp L (@runs (L.know (strsT 0 kOp)) (tyOf Tryz.prog) (fnOf Tryz.prog) (noneO) 30 15 125 [.g ((cellsT 0 kOp).map L.nS)] ⟨[], 0⟩ 0)
theorem opB_op0 : (op0T.leaves op0L).all good_opB = true := by kernel_rfl
theorem opB_tests : Tests Tryz.prog anyW 125 kOp (okOpE 0) v8 := tests_any m8_ok (fun _ => noneO) (fun _ {_ _} h k => sound_noneO (Lf.ok h k)) (sp := op0T) opB_op0
noncomputable def low4 (K : Know) : Oracle := fun f a h fl => orR (tO 67 kPl (okPlE 0) m8 K f a h fl) ( orR (tO 123 kPl (okPlE 0) m8 K f a h fl) ( orR (tO 126 kOp (okOpE 0) m8 K f a h fl) (tO 125 kOp (okOpE 0) m8 K f a h fl)))
theorem sound_low4 (b : Base) : @Sound b Tryz.prog (low4 b.toKnow) := @sound_or b _ _ _ (sound_t8 b ⟨_, Tryz.func67, by kernel_rfl, by kernel_rfl⟩ plA_tests) ( @sound_or b _ _ _ (sound_t8 b ⟨_, Tryz.func123, by kernel_rfl, by kernel_rfl⟩ plB_tests) ( @sound_or b _ _ _ (sound_t8 b ⟨_, Tryz.func126, by kernel_rfl, by kernel_rfl⟩ opA_tests) (sound_t8 b ⟨_, Tryz.func125, by kernel_rfl, by kernel_rfl⟩ opB_tests)))
noncomputable def rv0L : Lf := Lf.start [(true, kRv)]
def rvS0 : Sp := .cut 2 1 .leaf .leaf
def rvS1 : Sp := .conj [(1,0),(2,0)] .leaf (.cut 1 1 rvS0 .leaf)
def rvS2 : Sp := .conj [(1,0),(2,0),(13,0),(14,0),(15,0)] .leaf (.conj [(13,0),(14,0),(15,0)] rvS1 .leaf)
def rvS3 : Sp := .conj [(1,0),(2,0),(8,0),(9,0),(10,0),(11,0),(12,0),(13,0),(14,0),(15,0)] .leaf (.conj [(8,0),(9,0),(10,0),(11,0),(12,0)] rvS2 .leaf)
def rvS4 : Sp := .cut 4 0 .leaf (.cut 4 1 (.cut 5 0 .leaf (.cut 5 16 (.cut 7 3 rvS3 .leaf) .leaf)) .leaf)
def rvS5 : Sp := .conj [(13,0),(14,0),(15,0)] .leaf .leaf
def rvS6 : Sp := .cut 1 1 rvS5 (.cut 1 7 (.conj [(2,0),(13,0),(14,0),(15,0)] .leaf (.conj [(13,0),(14,0),(15,0)] rvS0 .leaf)) rvS5)
def rvS7 : Sp := .cut 9 0 .leaf (.cut 9 1 (.cut 10 0 .leaf (.cut 10 16 (.cut 12 3 rvS6 .leaf) .leaf)) .leaf)
def rvS8 : Sp := .cut 8 1 .leaf (.cut 8 2 (.conj [(10,0),(11,0),(12,0)] rvS6 .leaf) (.cut 8 3 rvS7 (.cut 8 4 rvS7 .leaf)))
def rvS9 : Sp := .cut 4 0 .leaf (.cut 4 1 (.cut 5 0 .leaf (.cut 5 16 (.cut 7 3 rvS8 .leaf) .leaf)) .leaf)
def rvS10 : Sp := .cut 9 0 .leaf (.cut 9 1 (.cut 10 0 .leaf (.cut 10 16 (.cut 12 3 rvS2 .leaf) .leaf)) .leaf)
def rvS11 : Sp := .cut 8 1 .leaf (.cut 8 2 (.conj [(10,0),(11,0),(12,0)] rvS2 .leaf) (.cut 8 3 rvS10 (.cut 8 4 rvS10 .leaf)))
def rvS12 : Sp := .cut 4 0 .leaf (.cut 4 1 (.cut 5 0 .leaf (.cut 5 16 (.cut 7 3 rvS11 .leaf) .leaf)) .leaf)
def rvS13 : Sp := .conj [(3,0),(4,0),(5,0),(6,0),(7,0)] (.conj [(8,0),(9,0),(10,0),(11,0),(12,0)] .leaf .leaf) .leaf
def rvS14 : Sp := .conj [(8,0),(9,0),(10,0),(11,0),(12,0)] (.cut 1 1 .leaf .leaf) .leaf
def rvS15 : Sp := .conj [(3,0),(4,0),(5,0),(6,0),(7,0)] rvS14 .leaf
def rv0T : Sp := .cut 0 1 .leaf (.cut 0 2 (.cut 3 1 .leaf (.cut 3 2 (.conj [(5,0),(6,0),(7,0)] rvS3 .leaf) (.cut 3 3 rvS4 (.cut 3 4 rvS4 .leaf)))) (.cut 0 3 (.cut 3 1 .leaf (.cut 3 2 (.conj [(5,0),(6,0),(7,0)] rvS8 .leaf) (.cut 3 3 rvS9 (.cut 3 4 rvS9 .leaf)))) (.cut 0 4 (.cut 3 1 .leaf (.cut 3 2 (.conj [(5,0),(6,0),(7,0)] rvS11 .leaf) (.cut 3 3 rvS12 (.cut 3 4 rvS12 .leaf)))) (.cut 0 5 (.cut 13 0 rvS13 (.cut 13 16 (.cut 15 3 (.cut 2 1 rvS15 (.cut 2 4 (.conj [(1,0),(3,0),(4,0),(5,0),(6,0),(7,0),(8,0),(9,0),(10,0),(11,0),(12,0)] .leaf (.conj [(3,0),(4,0),(5,0),(6,0),(7,0)] (.conj [(1,0),(8,0),(9,0),(10,0),(11,0),(12,0)] .leaf rvS14) .leaf)) rvS15)) rvS13) rvS13)) (.cut 0 6 (.cut 13 0 rvS13 (.cut 13 16 (.cut 15 3 (.conj [(1,0),(2,0),(3,0),(4,0),(5,0),(6,0),(7,0),(8,0),(9,0),(10,0),(11,0),(12,0)] .leaf (.conj [(3,0),(4,0),(5,0),(6,0),(7,0)] (.conj [(1,0),(2,0),(8,0),(9,0),(10,0),(11,0),(12,0)] .leaf (.conj [(8,0),(9,0),(10,0),(11,0),(12,0)] rvS1 .leaf)) .leaf)) rvS13) rvS13)) .leaf)))))
noncomputable def good_rvA (L : Lf) : Bool := testsAt (okRvE 0) m8 kRv L (@runs (L.know (strsT 0 kRv)) (tyOf Tryz.prog) (fnOf Tryz.prog) (low4 (L.know (strsT 0 kRv))) 30 15 62 [.g ((cellsT 0 kRv).map L.nS)] ⟨[], 0⟩ 0)
theorem rvA_rvk0 : ckB good_rvA rv0T rv0L 20 0 = true := by kernel_rfl
theorem rvA_rvk1 : ckB good_rvA rv0T rv0L 20 1 = true := by kernel_rfl
theorem rvA_rvk2 : ckB good_rvA rv0T rv0L 20 2 = true := by kernel_rfl
theorem rvA_rvk3 : ckB good_rvA rv0T rv0L 20 3 = true := by kernel_rfl
theorem rvA_rvk4 : ckB good_rvA rv0T rv0L 20 4 = true := by kernel_rfl
theorem rvA_rvk5 : ckB good_rvA rv0T rv0L 20 5 = true := by kernel_rfl
theorem rvA_rvk6 : ckB good_rvA rv0T rv0L 20 6 = true := by kernel_rfl
theorem rvA_rvk7 : ckB good_rvA rv0T rv0L 20 7 = true := by kernel_rfl
theorem rvA_rvk8 : ckB good_rvA rv0T rv0L 20 8 = true := by kernel_rfl
theorem rvA_rvk9 : ckB good_rvA rv0T rv0L 20 9 = true := by kernel_rfl
theorem rvA_rvk10 : ckB good_rvA rv0T rv0L 20 10 = true := by kernel_rfl
theorem rvA_rvk11 : ckB good_rvA rv0T rv0L 20 11 = true := by kernel_rfl
theorem rvA_rvk12 : ckB good_rvA rv0T rv0L 20 12 = true := by kernel_rfl
theorem rvA_rvk13 : ckB good_rvA rv0T rv0L 20 13 = true := by kernel_rfl
theorem rvA_rvk14 : ckB good_rvA rv0T rv0L 20 14 = true := by kernel_rfl
theorem rvA_rvk15 : ckB good_rvA rv0T rv0L 20 15 = true := by kernel_rfl
theorem rvA_rv0 : (rv0T.leaves rv0L).all good_rvA = true := all_chunks _ 20 16 _ (Nat.le_of_ble_eq_true (by kernel_rfl)) fun i hi => match i, hi with
  | 0, _ => rvA_rvk0
  | 1, _ => rvA_rvk1
  | 2, _ => rvA_rvk2
  | 3, _ => rvA_rvk3
  | 4, _ => rvA_rvk4
  | 5, _ => rvA_rvk5
  | 6, _ => rvA_rvk6
  | 7, _ => rvA_rvk7
  | 8, _ => rvA_rvk8
  | 9, _ => rvA_rvk9
  | 10, _ => rvA_rvk10
  | 11, _ => rvA_rvk11
  | 12, _ => rvA_rvk12
  | 13, _ => rvA_rvk13
  | 14, _ => rvA_rvk14
  | 15, _ => rvA_rvk15
  | i + 16, h => absurd h (by omega)
theorem rvA_tests : Tests Tryz.prog anyW 62 kRv (okRvE 0) v8 := tests_any m8_ok (fun L => low4 (L.know (strsT 0 kRv))) (fun _ {_ _} h k => sound_low4 (baseN default (Lf.ok h k))) (sp := rv0T) rvA_rv0
noncomputable def good_rvB (L : Lf) : Bool := testsAt (okRvE 0) m8 kRv L (@runs (L.know (strsT 0 kRv)) (tyOf Tryz.prog) (fnOf Tryz.prog) (low4 (L.know (strsT 0 kRv))) 30 15 124 [.g ((cellsT 0 kRv).map L.nS)] ⟨[], 0⟩ 0)
theorem rvB_rvk0 : ckB good_rvB rv0T rv0L 20 0 = true := by kernel_rfl
theorem rvB_rvk1 : ckB good_rvB rv0T rv0L 20 1 = true := by kernel_rfl
theorem rvB_rvk2 : ckB good_rvB rv0T rv0L 20 2 = true := by kernel_rfl
theorem rvB_rvk3 : ckB good_rvB rv0T rv0L 20 3 = true := by kernel_rfl
theorem rvB_rvk4 : ckB good_rvB rv0T rv0L 20 4 = true := by kernel_rfl
theorem rvB_rvk5 : ckB good_rvB rv0T rv0L 20 5 = true := by kernel_rfl
theorem rvB_rvk6 : ckB good_rvB rv0T rv0L 20 6 = true := by kernel_rfl
theorem rvB_rvk7 : ckB good_rvB rv0T rv0L 20 7 = true := by kernel_rfl
theorem rvB_rvk8 : ckB good_rvB rv0T rv0L 20 8 = true := by kernel_rfl
theorem rvB_rvk9 : ckB good_rvB rv0T rv0L 20 9 = true := by kernel_rfl
theorem rvB_rvk10 : ckB good_rvB rv0T rv0L 20 10 = true := by kernel_rfl
theorem rvB_rvk11 : ckB good_rvB rv0T rv0L 20 11 = true := by kernel_rfl
theorem rvB_rvk12 : ckB good_rvB rv0T rv0L 20 12 = true := by kernel_rfl
theorem rvB_rvk13 : ckB good_rvB rv0T rv0L 20 13 = true := by kernel_rfl
theorem rvB_rvk14 : ckB good_rvB rv0T rv0L 20 14 = true := by kernel_rfl
theorem rvB_rvk15 : ckB good_rvB rv0T rv0L 20 15 = true := by kernel_rfl
theorem rvB_rv0 : (rv0T.leaves rv0L).all good_rvB = true := all_chunks _ 20 16 _ (Nat.le_of_ble_eq_true (by kernel_rfl)) fun i hi => match i, hi with
  | 0, _ => rvB_rvk0
  | 1, _ => rvB_rvk1
  | 2, _ => rvB_rvk2
  | 3, _ => rvB_rvk3
  | 4, _ => rvB_rvk4
  | 5, _ => rvB_rvk5
  | 6, _ => rvB_rvk6
  | 7, _ => rvB_rvk7
  | 8, _ => rvB_rvk8
  | 9, _ => rvB_rvk9
  | 10, _ => rvB_rvk10
  | 11, _ => rvB_rvk11
  | 12, _ => rvB_rvk12
  | 13, _ => rvB_rvk13
  | 14, _ => rvB_rvk14
  | 15, _ => rvB_rvk15
  | i + 16, h => absurd h (by omega)
theorem rvB_tests : Tests Tryz.prog anyW 124 kRv (okRvE 0) v8 := tests_any m8_ok (fun L => low4 (L.know (strsT 0 kRv))) (fun _ {_ _} h k => sound_low4 (baseN default (Lf.ok h k))) (sp := rv0T) rvB_rv0
noncomputable def good_rvC (L : Lf) : Bool := testsAt (okRvE 0) mB kRv L (@runs (L.know (strsT 0 kRv)) (tyOf Tryz.prog) (fnOf Tryz.prog) (low4 (L.know (strsT 0 kRv))) 30 15 176 [.g ((cellsT 0 kRv).map L.nS)] ⟨[], 0⟩ 0)
theorem rvC_rvk0 : ckB good_rvC rv0T rv0L 20 0 = true := by kernel_rfl
theorem rvC_rvk1 : ckB good_rvC rv0T rv0L 20 1 = true := by kernel_rfl
theorem rvC_rvk2 : ckB good_rvC rv0T rv0L 20 2 = true := by kernel_rfl
theorem rvC_rvk3 : ckB good_rvC rv0T rv0L 20 3 = true := by kernel_rfl
theorem rvC_rvk4 : ckB good_rvC rv0T rv0L 20 4 = true := by kernel_rfl
theorem rvC_rvk5 : ckB good_rvC rv0T rv0L 20 5 = true := by kernel_rfl
theorem rvC_rvk6 : ckB good_rvC rv0T rv0L 20 6 = true := by kernel_rfl
theorem rvC_rvk7 : ckB good_rvC rv0T rv0L 20 7 = true := by kernel_rfl
theorem rvC_rvk8 : ckB good_rvC rv0T rv0L 20 8 = true := by kernel_rfl
theorem rvC_rvk9 : ckB good_rvC rv0T rv0L 20 9 = true := by kernel_rfl
theorem rvC_rvk10 : ckB good_rvC rv0T rv0L 20 10 = true := by kernel_rfl
theorem rvC_rvk11 : ckB good_rvC rv0T rv0L 20 11 = true := by kernel_rfl
theorem rvC_rvk12 : ckB good_rvC rv0T rv0L 20 12 = true := by kernel_rfl
theorem rvC_rvk13 : ckB good_rvC rv0T rv0L 20 13 = true := by kernel_rfl
theorem rvC_rvk14 : ckB good_rvC rv0T rv0L 20 14 = true := by kernel_rfl
theorem rvC_rvk15 : ckB good_rvC rv0T rv0L 20 15 = true := by kernel_rfl
theorem rvC_rv0 : (rv0T.leaves rv0L).all good_rvC = true := all_chunks _ 20 16 _ (Nat.le_of_ble_eq_true (by kernel_rfl)) fun i hi => match i, hi with
  | 0, _ => rvC_rvk0
  | 1, _ => rvC_rvk1
  | 2, _ => rvC_rvk2
  | 3, _ => rvC_rvk3
  | 4, _ => rvC_rvk4
  | 5, _ => rvC_rvk5
  | 6, _ => rvC_rvk6
  | 7, _ => rvC_rvk7
  | 8, _ => rvC_rvk8
  | 9, _ => rvC_rvk9
  | 10, _ => rvC_rvk10
  | 11, _ => rvC_rvk11
  | 12, _ => rvC_rvk12
  | 13, _ => rvC_rvk13
  | 14, _ => rvC_rvk14
  | 15, _ => rvC_rvk15
  | i + 16, h => absurd h (by omega)
theorem rvC_tests : Tests Tryz.prog anyW 176 kRv (okRvE 0) .bool := tests_any mB_ok (fun L => low4 (L.know (strsT 0 kRv))) (fun _ {_ _} h k => sound_low4 (baseN default (Lf.ok h k))) (sp := rv0T) rvC_rv0
noncomputable def valid4 (K : Know) : Oracle := fun f a h fl => orR (tO 67 kPl (okPlE 0) m8 K f a h fl) ( orR (tO 123 kPl (okPlE 0) m8 K f a h fl) ( orR (tO 126 kOp (okOpE 0) m8 K f a h fl) ( orR (tO 125 kOp (okOpE 0) m8 K f a h fl) ( orR (tO 62 kRv (okRvE 0) m8 K f a h fl) ( orR (tO 124 kRv (okRvE 0) m8 K f a h fl) (tO 176 kRv (okRvE 0) mB K f a h fl))))))
theorem sound_valid4 (b : Base) : @Sound b Tryz.prog (valid4 b.toKnow) := @sound_or b _ _ _ (sound_t8 b ⟨_, Tryz.func67, by kernel_rfl, by kernel_rfl⟩ plA_tests) ( @sound_or b _ _ _ (sound_t8 b ⟨_, Tryz.func123, by kernel_rfl, by kernel_rfl⟩ plB_tests) ( @sound_or b _ _ _ (sound_t8 b ⟨_, Tryz.func126, by kernel_rfl, by kernel_rfl⟩ opA_tests) ( @sound_or b _ _ _ (sound_t8 b ⟨_, Tryz.func125, by kernel_rfl, by kernel_rfl⟩ opB_tests) ( @sound_or b _ _ _ (sound_t8 b ⟨_, Tryz.func62, by kernel_rfl, by kernel_rfl⟩ rvA_tests) ( @sound_or b _ _ _ (sound_t8 b ⟨_, Tryz.func124, by kernel_rfl, by kernel_rfl⟩ rvB_tests) (sound_tB b ⟨_, Tryz.func176, by kernel_rfl, by kernel_rfl⟩ rvC_tests))))))
end Go.Proofs.YtnhnelgkcldkbaaGreatDoor.Am
