/- Places, operands, rvalues: which are valid; the program's and the reference's answers by that test. -/
import Derived.Test.YtmljjflimiakfaaDoorAmC
import Derived.Test.YtmljjflimiakfaaDoorLn
namespace Go.Proofs.YtmljjflimiakfaaDoor.Am
open Go.RowKit
set_option maxRecDepth 100000
def E.ands : List E → E
  | [] => .zero []
  | [e] => e
  | e :: r => .and e (E.ands r)
/-- n cells from o on are 0 -/
def zs (o n : Nat) : List (Nat × Int) := (List.range n).map fun i => (o + i, 0)
/-- a place is valid -/
def okPlE (o : Nat) : E := .ands [.not (.lt o 0), .lt o 16, .lt (o + 2) 3]
/-- an operand is valid -/
def okOpE (o : Nat) : E := .or (.and (.zero [(o, 1)]) (.zero (zs (o + 2) 3))) (.ands [.or (.zero [(o, 2)]) (.zero [(o, 3)]), .zero [(o + 1, 0)], okPlE (o + 2)])
/-- an rvalue is valid -/
def okRvE (o : Nat) : E :=
  .or (.ands [.zero [(o, 1)], okOpE (o + 3), .zero (zs (o + 8) 5), .zero (zs (o + 13) 3), .zero [(o + 1, 0)], .zero [(o + 2, 0)]])
  (.or (.ands [.zero [(o, 2)], okOpE (o + 3), okOpE (o + 8), .zero (zs (o + 13) 3), .not (.lt (o + 1) 1), .lt (o + 1) 7, .zero [(o + 2, 0)]])
  (.or (.ands [.zero [(o, 3)], okOpE (o + 3), okOpE (o + 8), .zero (zs (o + 13) 3), .zero [(o + 1, 0)], .zero [(o + 2, 0)]])
  (.or (.ands [.zero [(o, 4)], .zero (zs (o + 3) 5), .zero (zs (o + 8) 5), okPlE (o + 13), .zero [(o + 1, 0)], .not (.lt (o + 2) 1), .lt (o + 2) 4])
  (.ands [.zero [(o, 5)], .zero (zs (o + 3) 5), .zero (zs (o + 8) 5), okPlE (o + 13), .zero [(o + 1, 0)], .zero [(o + 2, 0)]]))))
abbrev kPl : List Kd := [.i .i64, .b, .i .u8]
abbrev kOp : List Kd := .i .u8 :: .i .i64 :: kPl
abbrev kRv : List Kd := .i .u8 :: .i .u8 :: .i .u8 :: (kOp ++ (kOp ++ kPl))
/-- 0 or 8 -/
def v8 (b : Bool) : Value := .int .i64 (bif b then 0 else 8)
def m8 (b : Bool) : V := V.s (.int .i64 (bif b then 0 else 8))
def mB (b : Bool) : V := V.s (.bool b)
theorem m8_ok (b0 : Base) (r : Ren) (b : Bool) (u : Value) (h : @VV b0 r (m8 b) u) : u = v8 b := h
theorem mB_ok (b0 : Base) (r : Ren) (b : Bool) (u : Value) (h : @VV b0 r (mB b) u) : u = .bool b := h
/-- whoever calls -/
abbrev anyW : World → Prop := fun _ => True
section
variable {F : FuncId} {ks : List Kd} {e : E} {val : Bool → Value}
theorem tests_any {mk : Bool → V} (hmk : ∀ (b0 : Base) r b u, @VV b0 r (mk b) u → u = val b) (lib : Lf → Oracle)
    (hl : ∀ (L : Lf) {rho : Nat → Int} {sig : Nat → List UInt8} (h : L.Holds rho sig) (k : Lens (strsT 0 ks) rho sig), @Sound (baseN default (Lf.ok h k)) Tryd.prog (lib L)) {sp : Sp}
    (hrun : ((sp.leaves (Lf.start [(true, ks)])).all fun L => testsAt e mk ks L (@runs (L.know (strsT 0 ks)) (tyOf Tryd.prog) (fnOf Tryd.prog) (lib L) 30 15 F [.g ((cellsT 0 ks).map L.nS)] ⟨[], 0⟩ 0)) = true) : Tests Tryd.prog anyW F ks e val :=
  fun us hk w _ => tests_of (nb := 0) (w0 := default) (fun L => @runs (L.know (strsT 0 ks)) (tyOf Tryd.prog) (fnOf Tryd.prog) (lib L) 30 15) mk hmk
    (fun L {rho sig} h k d => @sound_runsN default _ rho sig (Lf.ok h k) _ (hl L h k) 30 15) hrun us hk w ⟨Nat.zero_le _, fun _ h => by cases h⟩
noncomputable def tO (F : FuncId) (ks : List Kd) (e : E) (mk : Bool → V) (K : Know) : Oracle := pureO F (@testG K ks e mk)
theorem sound_t8 (b : Base) (hc : Callable Tryd.prog F) (h : Tests Tryd.prog anyW F ks e v8) : @Sound b Tryd.prog (tO F ks e m8 b.toKnow) := @sound_test b Tryd.prog anyW F hc ks e v8 h (fun _ _ => trivial) m8 (fun _ _ => rfl)
theorem sound_tB (b : Base) (hc : Callable Tryd.prog F) (h : Tests Tryd.prog anyW F ks e .bool) : @Sound b Tryd.prog (tO F ks e mB b.toKnow) := @sound_test b Tryd.prog anyW F hc ks e .bool h (fun _ _ => trivial) mB (fun _ _ => rfl)
end

noncomputable def pl0L : Lf := Lf.start [(true, kPl)]
def pl0T : Sp := (.cut 0 0 .leaf (.cut 0 16 (.cut 2 3 .leaf .leaf) .leaf))
noncomputable def good_plA (L : Lf) : Bool := testsAt (okPlE 0) m8 kPl L (@runs (L.know (strsT 0 kPl)) (tyOf Tryd.prog) (fnOf Tryd.prog) (noneO) 30 15 24 [.g ((cellsT 0 kPl).map L.nS)] ⟨[], 0⟩ 0)
theorem plA_pl0 : (pl0T.leaves pl0L).all good_plA = true := by kernel_rfl
theorem plA_tests : Tests Tryd.prog anyW 24 kPl (okPlE 0) v8 := tests_any m8_ok (fun _ => noneO) (fun _ {_ _} h k => sound_noneO (Lf.ok h k)) (sp := pl0T) plA_pl0
noncomputable def good_plB (L : Lf) : Bool := testsAt (okPlE 0) m8 kPl L (@runs (L.know (strsT 0 kPl)) (tyOf Tryd.prog) (fnOf Tryd.prog) (noneO) 30 15 18 [.g ((cellsT 0 kPl).map L.nS)] ⟨[], 0⟩ 0)
theorem plB_pl0 : (pl0T.leaves pl0L).all good_plB = true := by kernel_rfl
theorem plB_tests : Tests Tryd.prog anyW 18 kPl (okPlE 0) v8 := tests_any m8_ok (fun _ => noneO) (fun _ {_ _} h k => sound_noneO (Lf.ok h k)) (sp := pl0T) plB_pl0
noncomputable def op0L : Lf := Lf.start [(true, kOp)]
def op0T : Sp := (.cut 0 1 .leaf (.cut 0 2 (.conj [(2, 0), (3, 0), (4, 0)] .leaf .leaf) (.cut 0 3 (.cut 1 0 .leaf (.cut 1 1 (.cut 2 0 .leaf (.cut 2 16 (.cut 4 3 .leaf .leaf) .leaf)) .leaf)) (.cut 0 4 (.cut 1 0 .leaf (.cut 1 1 (.cut 2 0 .leaf (.cut 2 16 (.cut 4 3 .leaf .leaf) .leaf)) .leaf)) .leaf))))
noncomputable def good_opA (L : Lf) : Bool := testsAt (okOpE 0) m8 kOp L (@runs (L.know (strsT 0 kOp)) (tyOf Tryd.prog) (fnOf Tryd.prog) (noneO) 30 15 23 [.g ((cellsT 0 kOp).map L.nS)] ⟨[], 0⟩ 0)
theorem opA_op0 : (op0T.leaves op0L).all good_opA = true := by kernel_rfl
theorem opA_tests : Tests Tryd.prog anyW 23 kOp (okOpE 0) v8 := tests_any m8_ok (fun _ => noneO) (fun _ {_ _} h k => sound_noneO (Lf.ok h k)) (sp := op0T) opA_op0
noncomputable def good_opB (L : Lf) : Bool := testsAt (okOpE 0) m8 kOp L (@runs (L.know (strsT 0 kOp)) (tyOf Tryd.prog) (fnOf Tryd.prog) (noneO) 30 15 17 [.g ((cellsT 0 kOp).map L.nS)] ⟨[], 0⟩ 0)
theorem opB_op0 : (op0T.leaves op0L).all good_opB = true := by kernel_rfl
theorem opB_tests : Tests Tryd.prog anyW 17 kOp (okOpE 0) v8 := tests_any m8_ok (fun _ => noneO) (fun _ {_ _} h k => sound_noneO (Lf.ok h k)) (sp := op0T) opB_op0
noncomputable def low4 (K : Know) : Oracle := fun f a h fl => orR (tO 24 kPl (okPlE 0) m8 K f a h fl) ( orR (tO 18 kPl (okPlE 0) m8 K f a h fl) ( orR (tO 23 kOp (okOpE 0) m8 K f a h fl) (tO 17 kOp (okOpE 0) m8 K f a h fl)))
theorem sound_low4 (b : Base) : @Sound b Tryd.prog (low4 b.toKnow) := @sound_or b _ _ _ (sound_t8 b ⟨_, Tryd.func24, by kernel_rfl, by kernel_rfl⟩ plA_tests) ( @sound_or b _ _ _ (sound_t8 b ⟨_, Tryd.func18, by kernel_rfl, by kernel_rfl⟩ plB_tests) ( @sound_or b _ _ _ (sound_t8 b ⟨_, Tryd.func23, by kernel_rfl, by kernel_rfl⟩ opA_tests) (sound_t8 b ⟨_, Tryd.func17, by kernel_rfl, by kernel_rfl⟩ opB_tests)))
noncomputable def rv0L : Lf := Lf.start [(true, kRv)]
noncomputable def rv1L : Lf := (rv0L.hi 0 (1 - 1))
def rv1T : Sp := .leaf
noncomputable def rv2L : Lf := (rv0L.lo 0 1)
noncomputable def rv3L : Lf := (rv2L.hi 0 (2 - 1))
noncomputable def rv4L : Lf := (rv3L.hi 3 (1 - 1))
def rv4T : Sp := .leaf
noncomputable def rv5L : Lf := (rv3L.lo 3 1)
noncomputable def rv6L : Lf := (rv5L.hi 3 (2 - 1))
def rv6T : Sp := (.conj [(5, 0), (6, 0), (7, 0)] (.conj [(1, 0), (2, 0), (8, 0), (9, 0), (10, 0), (11, 0), (12, 0), (13, 0), (14, 0), (15, 0)] .leaf (.conj [(8, 0), (9, 0), (10, 0), (11, 0), (12, 0)] (.conj [(1, 0), (2, 0), (13, 0), (14, 0), (15, 0)] .leaf (.conj [(13, 0), (14, 0), (15, 0)] (.conj [(1, 0), (2, 0)] .leaf (.cut 1 1 (.cut 2 1 .leaf .leaf) .leaf)) .leaf)) .leaf)) .leaf)
noncomputable def rv7L : Lf := (rv5L.lo 3 2)
noncomputable def rv8L : Lf := (rv7L.hi 3 (3 - 1))
def rv8T : Sp := (.cut 4 0 .leaf (.cut 4 1 (.cut 5 0 .leaf (.cut 5 16 (.cut 7 3 (.conj [(1, 0), (2, 0), (8, 0), (9, 0), (10, 0), (11, 0), (12, 0), (13, 0), (14, 0), (15, 0)] .leaf (.conj [(8, 0), (9, 0), (10, 0), (11, 0), (12, 0)] (.conj [(1, 0), (2, 0), (13, 0), (14, 0), (15, 0)] .leaf (.conj [(13, 0), (14, 0), (15, 0)] (.conj [(1, 0), (2, 0)] .leaf (.cut 1 1 (.cut 2 1 .leaf .leaf) .leaf)) .leaf)) .leaf)) .leaf) .leaf)) .leaf))
noncomputable def rv9L : Lf := (rv7L.lo 3 3)
def rv9T : Sp := (.cut 3 4 (.cut 4 0 .leaf (.cut 4 1 (.cut 5 0 .leaf (.cut 5 16 (.cut 7 3 (.conj [(1, 0), (2, 0), (8, 0), (9, 0), (10, 0), (11, 0), (12, 0), (13, 0), (14, 0), (15, 0)] .leaf (.conj [(8, 0), (9, 0), (10, 0), (11, 0), (12, 0)] (.conj [(1, 0), (2, 0), (13, 0), (14, 0), (15, 0)] .leaf (.conj [(13, 0), (14, 0), (15, 0)] (.conj [(1, 0), (2, 0)] .leaf (.cut 1 1 (.cut 2 1 .leaf .leaf) .leaf)) .leaf)) .leaf)) .leaf) .leaf)) .leaf)) .leaf)
def rv7T : Sp := .cut 3 3 rv8T rv9T
def rv5T : Sp := .cut 3 2 rv6T rv7T
def rv3T : Sp := .cut 3 1 rv4T rv5T
noncomputable def rv10L : Lf := (rv2L.lo 0 2)
noncomputable def rv11L : Lf := (rv10L.hi 0 (3 - 1))
noncomputable def rv12L : Lf := (rv11L.hi 3 (1 - 1))
def rv12T : Sp := .leaf
noncomputable def rv13L : Lf := (rv11L.lo 3 1)
noncomputable def rv14L : Lf := (rv13L.hi 3 (2 - 1))
noncomputable def rv15L : Lf := (rv14L.all [(5, 0), (6, 0), (7, 0)])
noncomputable def rv16L : Lf := (rv15L.hi 8 (1 - 1))
def rv16T : Sp := .leaf
noncomputable def rv17L : Lf := (rv15L.lo 8 1)
noncomputable def rv18L : Lf := (rv17L.hi 8 (2 - 1))
def rv18T : Sp := (.conj [(10, 0), (11, 0), (12, 0)] (.cut 1 1 (.conj [(13, 0), (14, 0), (15, 0)] .leaf .leaf) (.cut 1 7 (.conj [(2, 0), (13, 0), (14, 0), (15, 0)] .leaf (.conj [(13, 0), (14, 0), (15, 0)] (.cut 2 1 .leaf .leaf) .leaf)) (.conj [(13, 0), (14, 0), (15, 0)] .leaf .leaf))) .leaf)
noncomputable def rv19L : Lf := (rv17L.lo 8 2)
noncomputable def rv20L : Lf := (rv19L.hi 8 (3 - 1))
def rv20T : Sp := (.cut 9 0 .leaf (.cut 9 1 (.cut 10 0 .leaf (.cut 10 16 (.cut 12 3 (.cut 1 1 (.conj [(13, 0), (14, 0), (15, 0)] .leaf .leaf) (.cut 1 7 (.conj [(2, 0), (13, 0), (14, 0), (15, 0)] .leaf (.conj [(13, 0), (14, 0), (15, 0)] (.cut 2 1 .leaf .leaf) .leaf)) (.conj [(13, 0), (14, 0), (15, 0)] .leaf .leaf))) .leaf) .leaf)) .leaf))
noncomputable def rv21L : Lf := (rv19L.lo 8 3)
def rv21T : Sp := (.cut 8 4 (.cut 9 0 .leaf (.cut 9 1 (.cut 10 0 .leaf (.cut 10 16 (.cut 12 3 (.cut 1 1 (.conj [(13, 0), (14, 0), (15, 0)] .leaf .leaf) (.cut 1 7 (.conj [(2, 0), (13, 0), (14, 0), (15, 0)] .leaf (.conj [(13, 0), (14, 0), (15, 0)] (.cut 2 1 .leaf .leaf) .leaf)) (.conj [(13, 0), (14, 0), (15, 0)] .leaf .leaf))) .leaf) .leaf)) .leaf)) .leaf)
def rv19T : Sp := .cut 8 3 rv20T rv21T
def rv17T : Sp := .cut 8 2 rv18T rv19T
def rv15T : Sp := .cut 8 1 rv16T rv17T
noncomputable def rv22L : Lf := { rv14L with cf := [(5, 0), (6, 0), (7, 0)] :: rv14L.cf }
def rv22T : Sp := .leaf
def rv14T : Sp := .conj [(5, 0), (6, 0), (7, 0)] rv15T rv22T
noncomputable def rv23L : Lf := (rv13L.lo 3 2)
noncomputable def rv24L : Lf := (rv23L.hi 3 (3 - 1))
noncomputable def rv25L : Lf := (rv24L.hi 4 (0 - 1))
def rv25T : Sp := .leaf
noncomputable def rv26L : Lf := (rv24L.lo 4 0)
noncomputable def rv27L : Lf := (rv26L.hi 4 (1 - 1))
noncomputable def rv28L : Lf := (rv27L.hi 5 (0 - 1))
def rv28T : Sp := .leaf
noncomputable def rv29L : Lf := (rv27L.lo 5 0)
noncomputable def rv30L : Lf := (rv29L.hi 5 (16 - 1))
noncomputable def rv31L : Lf := (rv30L.hi 7 (3 - 1))
noncomputable def rv32L : Lf := (rv31L.hi 8 (1 - 1))
def rv32T : Sp := .leaf
noncomputable def rv33L : Lf := (rv31L.lo 8 1)
noncomputable def rv34L : Lf := (rv33L.hi 8 (2 - 1))
def rv34T : Sp := (.conj [(10, 0), (11, 0), (12, 0)] (.cut 1 1 (.conj [(13, 0), (14, 0), (15, 0)] .leaf .leaf) (.cut 1 7 (.conj [(2, 0), (13, 0), (14, 0), (15, 0)] .leaf (.conj [(13, 0), (14, 0), (15, 0)] (.cut 2 1 .leaf .leaf) .leaf)) (.conj [(13, 0), (14, 0), (15, 0)] .leaf .leaf))) .leaf)
noncomputable def rv35L : Lf := (rv33L.lo 8 2)
noncomputable def rv36L : Lf := (rv35L.hi 8 (3 - 1))
def rv36T : Sp := (.cut 9 0 .leaf (.cut 9 1 (.cut 10 0 .leaf (.cut 10 16 (.cut 12 3 (.cut 1 1 (.conj [(13, 0), (14, 0), (15, 0)] .leaf .leaf) (.cut 1 7 (.conj [(2, 0), (13, 0), (14, 0), (15, 0)] .leaf (.conj [(13, 0), (14, 0), (15, 0)] (.cut 2 1 .leaf .leaf) .leaf)) (.conj [(13, 0), (14, 0), (15, 0)] .leaf .leaf))) .leaf) .leaf)) .leaf))
noncomputable def rv37L : Lf := (rv35L.lo 8 3)
def rv37T : Sp := (.cut 8 4 (.cut 9 0 .leaf (.cut 9 1 (.cut 10 0 .leaf (.cut 10 16 (.cut 12 3 (.cut 1 1 (.conj [(13, 0), (14, 0), (15, 0)] .leaf .leaf) (.cut 1 7 (.conj [(2, 0), (13, 0), (14, 0), (15, 0)] .leaf (.conj [(13, 0), (14, 0), (15, 0)] (.cut 2 1 .leaf .leaf) .leaf)) (.conj [(13, 0), (14, 0), (15, 0)] .leaf .leaf))) .leaf) .leaf)) .leaf)) .leaf)
def rv35T : Sp := .cut 8 3 rv36T rv37T
def rv33T : Sp := .cut 8 2 rv34T rv35T
def rv31T : Sp := .cut 8 1 rv32T rv33T
noncomputable def rv38L : Lf := (rv30L.lo 7 3)
def rv38T : Sp := .leaf
def rv30T : Sp := .cut 7 3 rv31T rv38T
noncomputable def rv39L : Lf := (rv29L.lo 5 16)
def rv39T : Sp := .leaf
def rv29T : Sp := .cut 5 16 rv30T rv39T
def rv27T : Sp := .cut 5 0 rv28T rv29T
noncomputable def rv40L : Lf := (rv26L.lo 4 1)
def rv40T : Sp := .leaf
def rv26T : Sp := .cut 4 1 rv27T rv40T
def rv24T : Sp := .cut 4 0 rv25T rv26T
noncomputable def rv41L : Lf := (rv23L.lo 3 3)
noncomputable def rv42L : Lf := (rv41L.hi 3 (4 - 1))
noncomputable def rv43L : Lf := (rv42L.hi 4 (0 - 1))
def rv43T : Sp := .leaf
noncomputable def rv44L : Lf := (rv42L.lo 4 0)
noncomputable def rv45L : Lf := (rv44L.hi 4 (1 - 1))
noncomputable def rv46L : Lf := (rv45L.hi 5 (0 - 1))
def rv46T : Sp := .leaf
noncomputable def rv47L : Lf := (rv45L.lo 5 0)
noncomputable def rv48L : Lf := (rv47L.hi 5 (16 - 1))
noncomputable def rv49L : Lf := (rv48L.hi 7 (3 - 1))
noncomputable def rv50L : Lf := (rv49L.hi 8 (1 - 1))
def rv50T : Sp := .leaf
noncomputable def rv51L : Lf := (rv49L.lo 8 1)
noncomputable def rv52L : Lf := (rv51L.hi 8 (2 - 1))
def rv52T : Sp := (.conj [(10, 0), (11, 0), (12, 0)] (.cut 1 1 (.conj [(13, 0), (14, 0), (15, 0)] .leaf .leaf) (.cut 1 7 (.conj [(2, 0), (13, 0), (14, 0), (15, 0)] .leaf (.conj [(13, 0), (14, 0), (15, 0)] (.cut 2 1 .leaf .leaf) .leaf)) (.conj [(13, 0), (14, 0), (15, 0)] .leaf .leaf))) .leaf)
noncomputable def rv53L : Lf := (rv51L.lo 8 2)
noncomputable def rv54L : Lf := (rv53L.hi 8 (3 - 1))
def rv54T : Sp := (.cut 9 0 .leaf (.cut 9 1 (.cut 10 0 .leaf (.cut 10 16 (.cut 12 3 (.cut 1 1 (.conj [(13, 0), (14, 0), (15, 0)] .leaf .leaf) (.cut 1 7 (.conj [(2, 0), (13, 0), (14, 0), (15, 0)] .leaf (.conj [(13, 0), (14, 0), (15, 0)] (.cut 2 1 .leaf .leaf) .leaf)) (.conj [(13, 0), (14, 0), (15, 0)] .leaf .leaf))) .leaf) .leaf)) .leaf))
noncomputable def rv55L : Lf := (rv53L.lo 8 3)
def rv55T : Sp := (.cut 8 4 (.cut 9 0 .leaf (.cut 9 1 (.cut 10 0 .leaf (.cut 10 16 (.cut 12 3 (.cut 1 1 (.conj [(13, 0), (14, 0), (15, 0)] .leaf .leaf) (.cut 1 7 (.conj [(2, 0), (13, 0), (14, 0), (15, 0)] .leaf (.conj [(13, 0), (14, 0), (15, 0)] (.cut 2 1 .leaf .leaf) .leaf)) (.conj [(13, 0), (14, 0), (15, 0)] .leaf .leaf))) .leaf) .leaf)) .leaf)) .leaf)
def rv53T : Sp := .cut 8 3 rv54T rv55T
def rv51T : Sp := .cut 8 2 rv52T rv53T
def rv49T : Sp := .cut 8 1 rv50T rv51T
noncomputable def rv56L : Lf := (rv48L.lo 7 3)
def rv56T : Sp := .leaf
def rv48T : Sp := .cut 7 3 rv49T rv56T
noncomputable def rv57L : Lf := (rv47L.lo 5 16)
def rv57T : Sp := .leaf
def rv47T : Sp := .cut 5 16 rv48T rv57T
def rv45T : Sp := .cut 5 0 rv46T rv47T
noncomputable def rv58L : Lf := (rv44L.lo 4 1)
def rv58T : Sp := .leaf
def rv44T : Sp := .cut 4 1 rv45T rv58T
def rv42T : Sp := .cut 4 0 rv43T rv44T
noncomputable def rv59L : Lf := (rv41L.lo 3 4)
def rv59T : Sp := .leaf
def rv41T : Sp := .cut 3 4 rv42T rv59T
def rv23T : Sp := .cut 3 3 rv24T rv41T
def rv13T : Sp := .cut 3 2 rv14T rv23T
def rv11T : Sp := .cut 3 1 rv12T rv13T
noncomputable def rv60L : Lf := (rv10L.lo 0 3)
noncomputable def rv61L : Lf := (rv60L.hi 0 (4 - 1))
noncomputable def rv62L : Lf := (rv61L.hi 3 (1 - 1))
def rv62T : Sp := .leaf
noncomputable def rv63L : Lf := (rv61L.lo 3 1)
noncomputable def rv64L : Lf := (rv63L.hi 3 (2 - 1))
noncomputable def rv65L : Lf := (rv64L.all [(5, 0), (6, 0), (7, 0)])
noncomputable def rv66L : Lf := (rv65L.hi 8 (1 - 1))
def rv66T : Sp := .leaf
noncomputable def rv67L : Lf := (rv65L.lo 8 1)
noncomputable def rv68L : Lf := (rv67L.hi 8 (2 - 1))
def rv68T : Sp := (.conj [(10, 0), (11, 0), (12, 0)] (.conj [(1, 0), (2, 0), (13, 0), (14, 0), (15, 0)] .leaf (.conj [(13, 0), (14, 0), (15, 0)] (.conj [(1, 0), (2, 0)] .leaf (.cut 1 1 (.cut 2 1 .leaf .leaf) .leaf)) .leaf)) .leaf)
noncomputable def rv69L : Lf := (rv67L.lo 8 2)
def rv69T : Sp := (.cut 8 3 (.cut 9 0 .leaf (.cut 9 1 (.cut 10 0 .leaf (.cut 10 16 (.cut 12 3 (.conj [(1, 0), (2, 0), (13, 0), (14, 0), (15, 0)] .leaf (.conj [(13, 0), (14, 0), (15, 0)] (.conj [(1, 0), (2, 0)] .leaf (.cut 1 1 (.cut 2 1 .leaf .leaf) .leaf)) .leaf)) .leaf) .leaf)) .leaf)) (.cut 8 4 (.cut 9 0 .leaf (.cut 9 1 (.cut 10 0 .leaf (.cut 10 16 (.cut 12 3 (.conj [(1, 0), (2, 0), (13, 0), (14, 0), (15, 0)] .leaf (.conj [(13, 0), (14, 0), (15, 0)] (.conj [(1, 0), (2, 0)] .leaf (.cut 1 1 (.cut 2 1 .leaf .leaf) .leaf)) .leaf)) .leaf) .leaf)) .leaf)) .leaf))
def rv67T : Sp := .cut 8 2 rv68T rv69T
def rv65T : Sp := .cut 8 1 rv66T rv67T
noncomputable def rv70L : Lf := { rv64L with cf := [(5, 0), (6, 0), (7, 0)] :: rv64L.cf }
def rv70T : Sp := .leaf
def rv64T : Sp := .conj [(5, 0), (6, 0), (7, 0)] rv65T rv70T
noncomputable def rv71L : Lf := (rv63L.lo 3 2)
noncomputable def rv72L : Lf := (rv71L.hi 3 (3 - 1))
noncomputable def rv73L : Lf := (rv72L.hi 4 (0 - 1))
def rv73T : Sp := .leaf
noncomputable def rv74L : Lf := (rv72L.lo 4 0)
noncomputable def rv75L : Lf := (rv74L.hi 4 (1 - 1))
noncomputable def rv76L : Lf := (rv75L.hi 5 (0 - 1))
def rv76T : Sp := .leaf
noncomputable def rv77L : Lf := (rv75L.lo 5 0)
noncomputable def rv78L : Lf := (rv77L.hi 5 (16 - 1))
noncomputable def rv79L : Lf := (rv78L.hi 7 (3 - 1))
noncomputable def rv80L : Lf := (rv79L.hi 8 (1 - 1))
def rv80T : Sp := .leaf
noncomputable def rv81L : Lf := (rv79L.lo 8 1)
noncomputable def rv82L : Lf := (rv81L.hi 8 (2 - 1))
def rv82T : Sp := (.conj [(10, 0), (11, 0), (12, 0)] (.conj [(1, 0), (2, 0), (13, 0), (14, 0), (15, 0)] .leaf (.conj [(13, 0), (14, 0), (15, 0)] (.conj [(1, 0), (2, 0)] .leaf (.cut 1 1 (.cut 2 1 .leaf .leaf) .leaf)) .leaf)) .leaf)
noncomputable def rv83L : Lf := (rv81L.lo 8 2)
def rv83T : Sp := (.cut 8 3 (.cut 9 0 .leaf (.cut 9 1 (.cut 10 0 .leaf (.cut 10 16 (.cut 12 3 (.conj [(1, 0), (2, 0), (13, 0), (14, 0), (15, 0)] .leaf (.conj [(13, 0), (14, 0), (15, 0)] (.conj [(1, 0), (2, 0)] .leaf (.cut 1 1 (.cut 2 1 .leaf .leaf) .leaf)) .leaf)) .leaf) .leaf)) .leaf)) (.cut 8 4 (.cut 9 0 .leaf (.cut 9 1 (.cut 10 0 .leaf (.cut 10 16 (.cut 12 3 (.conj [(1, 0), (2, 0), (13, 0), (14, 0), (15, 0)] .leaf (.conj [(13, 0), (14, 0), (15, 0)] (.conj [(1, 0), (2, 0)] .leaf (.cut 1 1 (.cut 2 1 .leaf .leaf) .leaf)) .leaf)) .leaf) .leaf)) .leaf)) .leaf))
def rv81T : Sp := .cut 8 2 rv82T rv83T
def rv79T : Sp := .cut 8 1 rv80T rv81T
noncomputable def rv84L : Lf := (rv78L.lo 7 3)
def rv84T : Sp := .leaf
def rv78T : Sp := .cut 7 3 rv79T rv84T
noncomputable def rv85L : Lf := (rv77L.lo 5 16)
def rv85T : Sp := .leaf
def rv77T : Sp := .cut 5 16 rv78T rv85T
def rv75T : Sp := .cut 5 0 rv76T rv77T
noncomputable def rv86L : Lf := (rv74L.lo 4 1)
def rv86T : Sp := .leaf
def rv74T : Sp := .cut 4 1 rv75T rv86T
def rv72T : Sp := .cut 4 0 rv73T rv74T
noncomputable def rv87L : Lf := (rv71L.lo 3 3)
noncomputable def rv88L : Lf := (rv87L.hi 3 (4 - 1))
noncomputable def rv89L : Lf := (rv88L.hi 4 (0 - 1))
def rv89T : Sp := .leaf
noncomputable def rv90L : Lf := (rv88L.lo 4 0)
noncomputable def rv91L : Lf := (rv90L.hi 4 (1 - 1))
noncomputable def rv92L : Lf := (rv91L.hi 5 (0 - 1))
def rv92T : Sp := .leaf
noncomputable def rv93L : Lf := (rv91L.lo 5 0)
noncomputable def rv94L : Lf := (rv93L.hi 5 (16 - 1))
noncomputable def rv95L : Lf := (rv94L.hi 7 (3 - 1))
noncomputable def rv96L : Lf := (rv95L.hi 8 (1 - 1))
def rv96T : Sp := .leaf
noncomputable def rv97L : Lf := (rv95L.lo 8 1)
noncomputable def rv98L : Lf := (rv97L.hi 8 (2 - 1))
def rv98T : Sp := (.conj [(10, 0), (11, 0), (12, 0)] (.conj [(1, 0), (2, 0), (13, 0), (14, 0), (15, 0)] .leaf (.conj [(13, 0), (14, 0), (15, 0)] (.conj [(1, 0), (2, 0)] .leaf (.cut 1 1 (.cut 2 1 .leaf .leaf) .leaf)) .leaf)) .leaf)
noncomputable def rv99L : Lf := (rv97L.lo 8 2)
def rv99T : Sp := (.cut 8 3 (.cut 9 0 .leaf (.cut 9 1 (.cut 10 0 .leaf (.cut 10 16 (.cut 12 3 (.conj [(1, 0), (2, 0), (13, 0), (14, 0), (15, 0)] .leaf (.conj [(13, 0), (14, 0), (15, 0)] (.conj [(1, 0), (2, 0)] .leaf (.cut 1 1 (.cut 2 1 .leaf .leaf) .leaf)) .leaf)) .leaf) .leaf)) .leaf)) (.cut 8 4 (.cut 9 0 .leaf (.cut 9 1 (.cut 10 0 .leaf (.cut 10 16 (.cut 12 3 (.conj [(1, 0), (2, 0), (13, 0), (14, 0), (15, 0)] .leaf (.conj [(13, 0), (14, 0), (15, 0)] (.conj [(1, 0), (2, 0)] .leaf (.cut 1 1 (.cut 2 1 .leaf .leaf) .leaf)) .leaf)) .leaf) .leaf)) .leaf)) .leaf))
def rv97T : Sp := .cut 8 2 rv98T rv99T
def rv95T : Sp := .cut 8 1 rv96T rv97T
noncomputable def rv100L : Lf := (rv94L.lo 7 3)
def rv100T : Sp := .leaf
def rv94T : Sp := .cut 7 3 rv95T rv100T
noncomputable def rv101L : Lf := (rv93L.lo 5 16)
def rv101T : Sp := .leaf
def rv93T : Sp := .cut 5 16 rv94T rv101T
def rv91T : Sp := .cut 5 0 rv92T rv93T
noncomputable def rv102L : Lf := (rv90L.lo 4 1)
def rv102T : Sp := .leaf
def rv90T : Sp := .cut 4 1 rv91T rv102T
def rv88T : Sp := .cut 4 0 rv89T rv90T
noncomputable def rv103L : Lf := (rv87L.lo 3 4)
def rv103T : Sp := .leaf
def rv87T : Sp := .cut 3 4 rv88T rv103T
def rv71T : Sp := .cut 3 3 rv72T rv87T
def rv63T : Sp := .cut 3 2 rv64T rv71T
def rv61T : Sp := .cut 3 1 rv62T rv63T
noncomputable def rv104L : Lf := (rv60L.lo 0 4)
noncomputable def rv105L : Lf := (rv104L.hi 0 (5 - 1))
def rv105T : Sp := (.cut 13 0 (.conj [(3, 0), (4, 0), (5, 0), (6, 0), (7, 0)] (.conj [(8, 0), (9, 0), (10, 0), (11, 0), (12, 0)] .leaf .leaf) .leaf) (.cut 13 16 (.cut 15 3 (.cut 2 1 (.conj [(3, 0), (4, 0), (5, 0), (6, 0), (7, 0)] (.conj [(8, 0), (9, 0), (10, 0), (11, 0), (12, 0)] (.cut 1 1 .leaf .leaf) .leaf) .leaf) (.cut 2 4 (.conj [(1, 0), (3, 0), (4, 0), (5, 0), (6, 0), (7, 0), (8, 0), (9, 0), (10, 0), (11, 0), (12, 0)] .leaf (.conj [(3, 0), (4, 0), (5, 0), (6, 0), (7, 0)] (.conj [(1, 0), (8, 0), (9, 0), (10, 0), (11, 0), (12, 0)] .leaf (.conj [(8, 0), (9, 0), (10, 0), (11, 0), (12, 0)] (.cut 1 1 .leaf .leaf) .leaf)) .leaf)) (.conj [(3, 0), (4, 0), (5, 0), (6, 0), (7, 0)] (.conj [(8, 0), (9, 0), (10, 0), (11, 0), (12, 0)] (.cut 1 1 .leaf .leaf) .leaf) .leaf))) (.conj [(3, 0), (4, 0), (5, 0), (6, 0), (7, 0)] (.conj [(8, 0), (9, 0), (10, 0), (11, 0), (12, 0)] .leaf .leaf) .leaf)) (.conj [(3, 0), (4, 0), (5, 0), (6, 0), (7, 0)] (.conj [(8, 0), (9, 0), (10, 0), (11, 0), (12, 0)] .leaf .leaf) .leaf)))
noncomputable def rv106L : Lf := (rv104L.lo 0 5)
def rv106T : Sp := (.cut 0 6 (.cut 13 0 (.conj [(3, 0), (4, 0), (5, 0), (6, 0), (7, 0)] (.conj [(8, 0), (9, 0), (10, 0), (11, 0), (12, 0)] .leaf .leaf) .leaf) (.cut 13 16 (.cut 15 3 (.conj [(1, 0), (2, 0), (3, 0), (4, 0), (5, 0), (6, 0), (7, 0), (8, 0), (9, 0), (10, 0), (11, 0), (12, 0)] .leaf (.conj [(3, 0), (4, 0), (5, 0), (6, 0), (7, 0)] (.conj [(1, 0), (2, 0), (8, 0), (9, 0), (10, 0), (11, 0), (12, 0)] .leaf (.conj [(8, 0), (9, 0), (10, 0), (11, 0), (12, 0)] (.conj [(1, 0), (2, 0)] .leaf (.cut 1 1 (.cut 2 1 .leaf .leaf) .leaf)) .leaf)) .leaf)) (.conj [(3, 0), (4, 0), (5, 0), (6, 0), (7, 0)] (.conj [(8, 0), (9, 0), (10, 0), (11, 0), (12, 0)] .leaf .leaf) .leaf)) (.conj [(3, 0), (4, 0), (5, 0), (6, 0), (7, 0)] (.conj [(8, 0), (9, 0), (10, 0), (11, 0), (12, 0)] .leaf .leaf) .leaf))) .leaf)
def rv104T : Sp := .cut 0 5 rv105T rv106T
def rv60T : Sp := .cut 0 4 rv61T rv104T
def rv10T : Sp := .cut 0 3 rv11T rv60T
def rv2T : Sp := .cut 0 2 rv3T rv10T
def rv0T : Sp := .cut 0 1 rv1T rv2T
end Go.Proofs.YtmljjflimiakfaaDoor.Am
