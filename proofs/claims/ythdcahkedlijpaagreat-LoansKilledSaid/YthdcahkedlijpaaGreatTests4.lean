/- Places, operands, rvalues: which are valid; the program's and the reference's answers by that test. -/
import Derived.Test.YthdcahkedlijpaaGreatAmC
import Derived.Test.YthdcahkedlijpaaGreatLn
namespace Go.Proofs.YthdcahkedlijpaaGreat.Am
open Go.RowKit
set_option maxRecDepth 100000
def E.ands : List E → E
  | [] => .zero []
  | [e] => e
  | e :: r => .and e (E.ands r)
def zs (o n : Nat) : List (Nat × Int) := (List.range n).map fun i => (o + i, 0)
def okPlE (o : Nat) : E := .ands [.not (.lt o 0), .lt o 16, .lt (o + 2) 3]
def okOpE (o : Nat) : E := .or (.and (.zero [(o, 1)]) (.zero (zs (o + 2) 3))) (.ands [.or (.zero [(o, 2)]) (.zero [(o, 3)]), .zero [(o + 1, 0)], okPlE (o + 2)])
def okRvE (o : Nat) : E :=
  .or (.ands [.zero [(o, 1)], okOpE (o + 3), .zero (zs (o + 8) 5), .zero (zs (o + 13) 3), .zero [(o + 1, 0)], .zero [(o + 2, 0)]])
  (.or (.ands [.zero [(o, 2)], okOpE (o + 3), okOpE (o + 8), .zero (zs (o + 13) 3), .not (.lt (o + 1) 1), .lt (o + 1) 7, .zero [(o + 2, 0)]])
  (.or (.ands [.zero [(o, 3)], okOpE (o + 3), okOpE (o + 8), .zero (zs (o + 13) 3), .zero [(o + 1, 0)], .zero [(o + 2, 0)]])
  (.or (.ands [.zero [(o, 4)], .zero (zs (o + 3) 5), .zero (zs (o + 8) 5), okPlE (o + 13), .zero [(o + 1, 0)], .not (.lt (o + 2) 1), .lt (o + 2) 4])
  (.ands [.zero [(o, 5)], .zero (zs (o + 3) 5), .zero (zs (o + 8) 5), okPlE (o + 13), .zero [(o + 1, 0)], .zero [(o + 2, 0)]]))))
abbrev kPl : List Kd := [.i .i64, .b, .i .u8]
abbrev kOp : List Kd := .i .u8 :: .i .i64 :: kPl
abbrev kRv : List Kd := .i .u8 :: .i .u8 :: .i .u8 :: (kOp ++ (kOp ++ kPl))
def v8 (b : Bool) : Value := .int .i64 (bif b then 0 else 8)
def m8 (b : Bool) : V := V.s (.int .i64 (bif b then 0 else 8))
def mB (b : Bool) : V := V.s (.bool b)
theorem m8_ok (b0 : Base) (r : Ren) (b : Bool) (u : Value) (h : @VV b0 r (m8 b) u) : u = v8 b := h
theorem mB_ok (b0 : Base) (r : Ren) (b : Bool) (u : Value) (h : @VV b0 r (mB b) u) : u = .bool b := h
abbrev anyW : World → Prop := fun _ => True
section
variable {F : FuncId} {ks : List Kd} {e : E} {val : Bool → Value}
theorem tests_any {mk : Bool → V} (hmk : ∀ (b0 : Base) r b u, @VV b0 r (mk b) u → u = val b) (lib : Lf → Oracle)
    (hl : ∀ (L : Lf) {rho : Nat → Int} {sig : Nat → List UInt8} (h : L.Holds rho sig) (k : Lens (strsT 0 ks) rho sig), @Sound (baseN default (Lf.ok h k)) Tryz.prog (lib L)) {sp : Sp}
    (hrun : ((sp.leaves (Lf.start [(true, ks)])).all fun L => testsAt e mk ks L (@runs (L.know (strsT 0 ks)) (tyOf Tryz.prog) (fnOf Tryz.prog) (lib L) 30 15 F [.g ((cellsT 0 ks).map L.nS)] ⟨[], 0⟩ 0)) = true) : Tests Tryz.prog anyW F ks e val :=
  fun us hk w _ => tests_of (nb := 0) (w0 := default) (fun L => @runs (L.know (strsT 0 ks)) (tyOf Tryz.prog) (fnOf Tryz.prog) (lib L) 30 15) mk hmk
    (fun L {rho sig} h k d => @sound_runsN default _ rho sig (Lf.ok h k) _ (hl L h k) 30 15) hrun us hk w ⟨Nat.zero_le _, fun _ h => by cases h⟩
noncomputable def tO (F : FuncId) (ks : List Kd) (e : E) (mk : Bool → V) (K : Know) : Oracle := pureO F (@testG K ks e mk)
theorem sound_t8 (b : Base) (hc : Callable Tryz.prog F) (h : Tests Tryz.prog anyW F ks e v8) : @Sound b Tryz.prog (tO F ks e m8 b.toKnow) := @sound_test b Tryz.prog anyW F hc ks e v8 h (fun _ _ => trivial) m8 (fun _ _ => rfl)
theorem sound_tB (b : Base) (hc : Callable Tryz.prog F) (h : Tests Tryz.prog anyW F ks e .bool) : @Sound b Tryz.prog (tO F ks e mB b.toKnow) := @sound_test b Tryz.prog anyW F hc ks e .bool h (fun _ _ => trivial) mB (fun _ _ => rfl)
end
noncomputable def pl0L : Lf := Lf.start [(true, kPl)]
def pl0T : Sp := (.cut 0 0 .leaf (.cut 0 16 (.cut 2 3 .leaf .leaf) .leaf))
noncomputable def good_plA (L : Lf) : Bool := testsAt (okPlE 0) m8 kPl L (@runs (L.know (strsT 0 kPl)) (tyOf Tryz.prog) (fnOf Tryz.prog) (noneO) 30 15 94 [.g ((cellsT 0 kPl).map L.nS)] ⟨[], 0⟩ 0)
theorem plA_pl0 : (pl0T.leaves pl0L).all good_plA = true := by kernel_rfl
theorem plA_tests : Tests Tryz.prog anyW 94 kPl (okPlE 0) v8 := tests_any m8_ok (fun _ => noneO) (fun _ {_ _} h k => sound_noneO (Lf.ok h k)) (sp := pl0T) plA_pl0
noncomputable def good_plB (L : Lf) : Bool := testsAt (okPlE 0) m8 kPl L (@runs (L.know (strsT 0 kPl)) (tyOf Tryz.prog) (fnOf Tryz.prog) (noneO) 30 15 99 [.g ((cellsT 0 kPl).map L.nS)] ⟨[], 0⟩ 0)
theorem plB_pl0 : (pl0T.leaves pl0L).all good_plB = true := by kernel_rfl
theorem plB_tests : Tests Tryz.prog anyW 99 kPl (okPlE 0) v8 := tests_any m8_ok (fun _ => noneO) (fun _ {_ _} h k => sound_noneO (Lf.ok h k)) (sp := pl0T) plB_pl0
noncomputable def op0L : Lf := Lf.start [(true, kOp)]
def op0T : Sp := (.cut 0 1 .leaf (.cut 0 2 (.conj [(2, 0), (3, 0), (4, 0)] .leaf .leaf) (.cut 0 3 (.cut 1 0 .leaf (.cut 1 1 (.cut 2 0 .leaf (.cut 2 16 (.cut 4 3 .leaf .leaf) .leaf)) .leaf)) (.cut 0 4 (.cut 1 0 .leaf (.cut 1 1 (.cut 2 0 .leaf (.cut 2 16 (.cut 4 3 .leaf .leaf) .leaf)) .leaf)) .leaf))))
noncomputable def good_opA (L : Lf) : Bool := testsAt (okOpE 0) m8 kOp L (@runs (L.know (strsT 0 kOp)) (tyOf Tryz.prog) (fnOf Tryz.prog) (noneO) 30 15 96 [.g ((cellsT 0 kOp).map L.nS)] ⟨[], 0⟩ 0)
theorem opA_op0 : (op0T.leaves op0L).all good_opA = true := by kernel_rfl
theorem opA_tests : Tests Tryz.prog anyW 96 kOp (okOpE 0) v8 := tests_any m8_ok (fun _ => noneO) (fun _ {_ _} h k => sound_noneO (Lf.ok h k)) (sp := op0T) opA_op0
noncomputable def good_opB (L : Lf) : Bool := testsAt (okOpE 0) m8 kOp L (@runs (L.know (strsT 0 kOp)) (tyOf Tryz.prog) (fnOf Tryz.prog) (noneO) 30 15 101 [.g ((cellsT 0 kOp).map L.nS)] ⟨[], 0⟩ 0)
theorem opB_op0 : (op0T.leaves op0L).all good_opB = true := by kernel_rfl
theorem opB_tests : Tests Tryz.prog anyW 101 kOp (okOpE 0) v8 := tests_any m8_ok (fun _ => noneO) (fun _ {_ _} h k => sound_noneO (Lf.ok h k)) (sp := op0T) opB_op0
noncomputable def low4 (K : Know) : Oracle := fun f a h fl => orR (tO 94 kPl (okPlE 0) m8 K f a h fl) ( orR (tO 99 kPl (okPlE 0) m8 K f a h fl) ( orR (tO 96 kOp (okOpE 0) m8 K f a h fl) (tO 101 kOp (okOpE 0) m8 K f a h fl)))
theorem sound_low4 (b : Base) : @Sound b Tryz.prog (low4 b.toKnow) := @sound_or b _ _ _ (sound_t8 b ⟨_, Tryz.func94, by kernel_rfl, by kernel_rfl⟩ plA_tests) ( @sound_or b _ _ _ (sound_t8 b ⟨_, Tryz.func99, by kernel_rfl, by kernel_rfl⟩ plB_tests) ( @sound_or b _ _ _ (sound_t8 b ⟨_, Tryz.func96, by kernel_rfl, by kernel_rfl⟩ opA_tests) (sound_t8 b ⟨_, Tryz.func101, by kernel_rfl, by kernel_rfl⟩ opB_tests)))
noncomputable def rv0L : Lf := Lf.start [(true, kRv)]
noncomputable def rv1L : Lf := (rv0L.hi 0 (1 - 1))
def rv1T : Sp := .leaf
noncomputable def rv2L : Lf := (rv0L.lo 0 1)
noncomputable def rv3L : Lf := (rv2L.hi 0 (2 - 1))
noncomputable def rv4L : Lf := (rv3L.hi 3 (1 - 1))
def rv4T : Sp := .leaf
noncomputable def rv5L : Lf := (rv3L.lo 3 1)
noncomputable def rv6L : Lf := (rv5L.hi 3 (2 - 1))
def rv6T : Sp := (.conj [(5, 0), (6, 0), (7, 0)] (.conj [(1, 0), (2, 0), (8, 0), (9, 0), (10, 0), (11, 0), (12, 0), (13, 0), (14, 0), (15, 0)] .leaf (.conj [(8, 0), (9, 0), (10, 0), (11, 0), (12, 0)] (.conj [(1, 0), (2, 0), (13, 0), (14, 0), (15, 0)] .leaf (.conj [(13, 0), (14, 0), (15, 0)] (.conj [(1, 0), (2, 0)] .leaf (.cut 1 1 (.cut 2 1 .leaf .leaf) .leaf)) .leaf)) .leaf)) .leaf)
noncomputable def rv7L : Lf := (rv5L.lo 3 2)
noncomputable def rv8L : Lf := (rv7L.hi 3 (3 - 1))
def rv8T : Sp := (.cut 4 0 .leaf (.cut 4 1 (.cut 5 0 .leaf (.cut 5 16 (.cut 7 3 (.conj [(1, 0), (2, 0), (8, 0), (9, 0), (10, 0), (11, 0), (12, 0), (13, 0), (14, 0), (15, 0)] .leaf (.conj [(8, 0), (9, 0), (10, 0), (11, 0), (12, 0)] (.conj [(1, 0), (2, 0), (13, 0), (14, 0), (15, 0)] .leaf (.conj [(13, 0), (14, 0), (15, 0)] (.conj [(1, 0), (2, 0)] .leaf (.cut 1 1 (.cut 2 1 .leaf .leaf) .leaf)) .leaf)) .leaf)) .leaf) .leaf)) .leaf))
noncomputable def rv9L : Lf := (rv7L.lo 3 3)
def rv9T : Sp := (.cut 3 4 (.cut 4 0 .leaf (.cut 4 1 (.cut 5 0 .leaf (.cut 5 16 (.cut 7 3 (.conj [(1, 0), (2, 0), (8, 0), (9, 0), (10, 0), (11, 0), (12, 0), (13, 0), (14, 0), (15, 0)] .leaf (.conj [(8, 0), (9, 0), (10, 0), (11, 0), (12, 0)] (.conj [(1, 0), (2, 0), (13, 0), (14, 0), (15, 0)] .leaf (.conj [(13, 0), (14, 0), (15, 0)] (.conj [(1, 0), (2, 0)] .leaf (.cut 1 1 (.cut 2 1 .leaf .leaf) .leaf)) .leaf)) .leaf)) .leaf) .leaf)) .leaf)) .leaf)
def rv7T : Sp := .cut 3 3 rv8T rv9T
def rv5T : Sp := .cut 3 2 rv6T rv7T
def rv3T : Sp := .cut 3 1 rv4T rv5T
noncomputable def rv10L : Lf := (rv2L.lo 0 2)
noncomputable def rv11L : Lf := (rv10L.hi 0 (3 - 1))
noncomputable def rv12L : Lf := (rv11L.hi 3 (1 - 1))
def rv12T : Sp := .leaf
noncomputable def rv13L : Lf := (rv11L.lo 3 1)
noncomputable def rv14L : Lf := (rv13L.hi 3 (2 - 1))
noncomputable def rv15L : Lf := (rv14L.all [(5, 0), (6, 0), (7, 0)])
noncomputable def rv16L : Lf := (rv15L.hi 8 (1 - 1))
def rv16T : Sp := .leaf
noncomputable def rv17L : Lf := (rv15L.lo 8 1)
noncomputable def rv18L : Lf := (rv17L.hi 8 (2 - 1))
def rv18T : Sp := (.conj [(10, 0), (11, 0), (12, 0)] (.cut 1 1 (.conj [(13, 0), (14, 0), (15, 0)] .leaf .leaf) (.cut 1 7 (.conj [(2, 0), (13, 0), (14, 0), (15, 0)] .leaf (.conj [(13, 0), (14, 0), (15, 0)] (.cut 2 1 .leaf .leaf) .leaf)) (.conj [(13, 0), (14, 0), (15, 0)] .leaf .leaf))) .leaf)
noncomputable def rv19L : Lf := (rv17L.lo 8 2)
noncomputable def rv20L : Lf := (rv19L.hi 8 (3 - 1))
def rv20T : Sp := (.cut 9 0 .leaf (.cut 9 1 (.cut 10 0 .leaf (.cut 10 16 (.cut 12 3 (.cut 1 1 (.conj [(13, 0), (14, 0), (15, 0)] .leaf .leaf) (.cut 1 7 (.conj [(2, 0), (13, 0), (14, 0), (15, 0)] .leaf (.conj [(13, 0), (14, 0), (15, 0)] (.cut 2 1 .leaf .leaf) .leaf)) (.conj [(13, 0), (14, 0), (15, 0)] .leaf .leaf))) .leaf) .leaf)) .leaf))
noncomputable def rv21L : Lf := (rv19L.lo 8 3)
def rv21T : Sp := (.cut 8 4 (.cut 9 0 .leaf (.cut 9 1 (.cut 10 0 .leaf (.cut 10 16 (.cut 12 3 (.cut 1 1 (.conj [(13, 0), (14, 0), (15, 0)] .leaf .leaf) (.cut 1 7 (.conj [(2, 0), (13, 0), (14, 0), (15, 0)] .leaf (.conj [(13, 0), (14, 0), (15, 0)] (.cut 2 1 .leaf .leaf) .leaf)) (.conj [(13, 0), (14, 0), (15, 0)] .leaf .leaf))) .leaf) .leaf)) .leaf)) .leaf)
def rv19T : Sp := .cut 8 3 rv20T rv21T
def rv17T : Sp := .cut 8 2 rv18T rv19T
def rv15T : Sp := .cut 8 1 rv16T rv17T
noncomputable def rv22L : Lf := { rv14L with cf := [(5, 0), (6, 0), (7, 0)] :: rv14L.cf }
def rv22T : Sp := .leaf
def rv14T : Sp := .conj [(5, 0), (6, 0), (7, 0)] rv15T rv22T
noncomputable def rv23L : Lf := (rv13L.lo 3 2)
noncomputable def rv24L : Lf := (rv23L.hi 3 (3 - 1))
noncomputable def rv25L : Lf := (rv24L.hi 4 (0 - 1))
def rv25T : Sp := .leaf
noncomputable def rv26L : Lf := (rv24L.lo 4 0)
noncomputable def rv27L : Lf := (rv26L.hi 4 (1 - 1))
noncomputable def rv28L : Lf := (rv27L.hi 5 (0 - 1))
def rv28T : Sp := .leaf
noncomputable def rv29L : Lf := (rv27L.lo 5 0)
noncomputable def rv30L : Lf := (rv29L.hi 5 (16 - 1))
noncomputable def rv31L : Lf := (rv30L.hi 7 (3 - 1))
noncomputable def rv32L : Lf := (rv31L.hi 8 (1 - 1))
def rv32T : Sp := .leaf
noncomputable def rv33L : Lf := (rv31L.lo 8 1)
noncomputable def rv34L : Lf := (rv33L.hi 8 (2 - 1))
def rv34T : Sp := (.conj [(10, 0), (11, 0), (12, 0)] (.cut 1 1 (.conj [(13, 0), (14, 0), (15, 0)] .leaf .leaf) (.cut 1 7 (.conj [(2, 0), (13, 0), (14, 0), (15, 0)] .leaf (.conj [(13, 0), (14, 0), (15, 0)] (.cut 2 1 .leaf .leaf) .leaf)) (.conj [(13, 0), (14, 0), (15, 0)] .leaf .leaf))) .leaf)
noncomputable def rv35L : Lf := (rv33L.lo 8 2)
noncomputable def rv36L : Lf := (rv35L.hi 8 (3 - 1))
def rv36T : Sp := (.cut 9 0 .leaf (.cut 9 1 (.cut 10 0 .leaf (.cut 10 16 (.cut 12 3 (.cut 1 1 (.conj [(13, 0), (14, 0), (15, 0)] .leaf .leaf) (.cut 1 7 (.conj [(2, 0), (13, 0), (14, 0), (15, 0)] .leaf (.conj [(13, 0), (14, 0), (15, 0)] (.cut 2 1 .leaf .leaf) .leaf)) (.conj [(13, 0), (14, 0), (15, 0)] .leaf .leaf))) .leaf) .leaf)) .leaf))
noncomputable def rv37L : Lf := (rv35L.lo 8 3)
def rv37T : Sp := (.cut 8 4 (.cut 9 0 .leaf (.cut 9 1 (.cut 10 0 .leaf (.cut 10 16 (.cut 12 3 (.cut 1 1 (.conj [(13, 0), (14, 0), (15, 0)] .leaf .leaf) (.cut 1 7 (.conj [(2, 0), (13, 0), (14, 0), (15, 0)] .leaf (.conj [(13, 0), (14, 0), (15, 0)] (.cut 2 1 .leaf .leaf) .leaf)) (.conj [(13, 0), (14, 0), (15, 0)] .leaf .leaf))) .leaf) .leaf)) .leaf)) .leaf)
def rv35T : Sp := .cut 8 3 rv36T rv37T
def rv33T : Sp := .cut 8 2 rv34T rv35T
def rv31T : Sp := .cut 8 1 rv32T rv33T
noncomputable def rv38L : Lf := (rv30L.lo 7 3)
def rv38T : Sp := .leaf
def rv30T : Sp := .cut 7 3 rv31T rv38T
noncomputable def rv39L : Lf := (rv29L.lo 5 16)
def rv39T : Sp := .leaf
def rv29T : Sp := .cut 5 16 rv30T rv39T
def rv27T : Sp := .cut 5 0 rv28T rv29T
noncomputable def rv40L : Lf := (rv26L.lo 4 1)
def rv40T : Sp := .leaf
def rv26T : Sp := .cut 4 1 rv27T rv40T
def rv24T : Sp := .cut 4 0 rv25T rv26T
noncomputable def rv41L : Lf := (rv23L.lo 3 3)
noncomputable def rv42L : Lf := (rv41L.hi 3 (4 - 1))
noncomputable def rv43L : Lf := (rv42L.hi 4 (0 - 1))
def rv43T : Sp := .leaf
noncomputable def rv44L : Lf := (rv42L.lo 4 0)
noncomputable def rv45L : Lf := (rv44L.hi 4 (1 - 1))
noncomputable def rv46L : Lf := (rv45L.hi 5 (0 - 1))
def rv46T : Sp := .leaf
noncomputable def rv47L : Lf := (rv45L.lo 5 0)
noncomputable def rv48L : Lf := (rv47L.hi 5 (16 - 1))
noncomputable def rv49L : Lf := (rv48L.hi 7 (3 - 1))
noncomputable def rv50L : Lf := (rv49L.hi 8 (1 - 1))
def rv50T : Sp := .leaf
noncomputable def rv51L : Lf := (rv49L.lo 8 1)
noncomputable def rv52L : Lf := (rv51L.hi 8 (2 - 1))
def rv52T : Sp := (.conj [(10, 0), (11, 0), (12, 0)] (.cut 1 1 (.conj [(13, 0), (14, 0), (15, 0)] .leaf .leaf) (.cut 1 7 (.conj [(2, 0), (13, 0), (14, 0), (15, 0)] .leaf (.conj [(13, 0), (14, 0), (15, 0)] (.cut 2 1 .leaf .leaf) .leaf)) (.conj [(13, 0), (14, 0), (15, 0)] .leaf .leaf))) .leaf)
noncomputable def rv53L : Lf := (rv51L.lo 8 2)
noncomputable def rv54L : Lf := (rv53L.hi 8 (3 - 1))
def rv54T : Sp := (.cut 9 0 .leaf (.cut 9 1 (.cut 10 0 .leaf (.cut 10 16 (.cut 12 3 (.cut 1 1 (.conj [(13, 0), (14, 0), (15, 0)] .leaf .leaf) (.cut 1 7 (.conj [(2, 0), (13, 0), (14, 0), (15, 0)] .leaf (.conj [(13, 0), (14, 0), (15, 0)] (.cut 2 1 .leaf .leaf) .leaf)) (.conj [(13, 0), (14, 0), (15, 0)] .leaf .leaf))) .leaf) .leaf)) .leaf))
noncomputable def rv55L : Lf := (rv53L.lo 8 3)
def rv55T : Sp := (.cut 8 4 (.cut 9 0 .leaf (.cut 9 1 (.cut 10 0 .leaf (.cut 10 16 (.cut 12 3 (.cut 1 1 (.conj [(13, 0), (14, 0), (15, 0)] .leaf .leaf) (.cut 1 7 (.conj [(2, 0), (13, 0), (14, 0), (15, 0)] .leaf (.conj [(13, 0), (14, 0), (15, 0)] (.cut 2 1 .leaf .leaf) .leaf)) (.conj [(13, 0), (14, 0), (15, 0)] .leaf .leaf))) .leaf) .leaf)) .leaf)) .leaf)
def rv53T : Sp := .cut 8 3 rv54T rv55T
def rv51T : Sp := .cut 8 2 rv52T rv53T
def rv49T : Sp := .cut 8 1 rv50T rv51T
noncomputable def rv56L : Lf := (rv48L.lo 7 3)
def rv56T : Sp := .leaf
def rv48T : Sp := .cut 7 3 rv49T rv56T
noncomputable def rv57L : Lf := (rv47L.lo 5 16)
def rv57T : Sp := .leaf
def rv47T : Sp := .cut 5 16 rv48T rv57T
def rv45T : Sp := .cut 5 0 rv46T rv47T
noncomputable def rv58L : Lf := (rv44L.lo 4 1)
def rv58T : Sp := .leaf
def rv44T : Sp := .cut 4 1 rv45T rv58T
def rv42T : Sp := .cut 4 0 rv43T rv44T
noncomputable def rv59L : Lf := (rv41L.lo 3 4)
def rv59T : Sp := .leaf
def rv41T : Sp := .cut 3 4 rv42T rv59T
def rv23T : Sp := .cut 3 3 rv24T rv41T
def rv13T : Sp := .cut 3 2 rv14T rv23T
def rv11T : Sp := .cut 3 1 rv12T rv13T
noncomputable def rv60L : Lf := (rv10L.lo 0 3)
noncomputable def rv61L : Lf := (rv60L.hi 0 (4 - 1))
noncomputable def rv62L : Lf := (rv61L.hi 3 (1 - 1))
def rv62T : Sp := .leaf
noncomputable def rv63L : Lf := (rv61L.lo 3 1)
noncomputable def rv64L : Lf := (rv63L.hi 3 (2 - 1))
noncomputable def rv65L : Lf := (rv64L.all [(5, 0), (6, 0), (7, 0)])
noncomputable def rv66L : Lf := (rv65L.hi 8 (1 - 1))
def rv66T : Sp := .leaf
noncomputable def rv67L : Lf := (rv65L.lo 8 1)
noncomputable def rv68L : Lf := (rv67L.hi 8 (2 - 1))
def rv68T : Sp := (.conj [(10, 0), (11, 0), (12, 0)] (.conj [(1, 0), (2, 0), (13, 0), (14, 0), (15, 0)] .leaf (.conj [(13, 0), (14, 0), (15, 0)] (.conj [(1, 0), (2, 0)] .leaf (.cut 1 1 (.cut 2 1 .leaf .leaf) .leaf)) .leaf)) .leaf)
noncomputable def rv69L : Lf := (rv67L.lo 8 2)
def rv69T : Sp := (.cut 8 3 (.cut 9 0 .leaf (.cut 9 1 (.cut 10 0 .leaf (.cut 10 16 (.cut 12 3 (.conj [(1, 0), (2, 0), (13, 0), (14, 0), (15, 0)] .leaf (.conj [(13, 0), (14, 0), (15, 0)] (.conj [(1, 0), (2, 0)] .leaf (.cut 1 1 (.cut 2 1 .leaf .leaf) .leaf)) .leaf)) .leaf) .leaf)) .leaf)) (.cut 8 4 (.cut 9 0 .leaf (.cut 9 1 (.cut 10 0 .leaf (.cut 10 16 (.cut 12 3 (.conj [(1, 0), (2, 0), (13, 0), (14, 0), (15, 0)] .leaf (.conj [(13, 0), (14, 0), (15, 0)] (.conj [(1, 0), (2, 0)] .leaf (.cut 1 1 (.cut 2 1 .leaf .leaf) .leaf)) .leaf)) .leaf) .leaf)) .leaf)) .leaf))
def rv67T : Sp := .cut 8 2 rv68T rv69T
def rv65T : Sp := .cut 8 1 rv66T rv67T
noncomputable def rv70L : Lf := { rv64L with cf := [(5, 0), (6, 0), (7, 0)] :: rv64L.cf }
def rv70T : Sp := .leaf
def rv64T : Sp := .conj [(5, 0), (6, 0), (7, 0)] rv65T rv70T
noncomputable def rv71L : Lf := (rv63L.lo 3 2)
noncomputable def rv72L : Lf := (rv71L.hi 3 (3 - 1))
noncomputable def rv73L : Lf := (rv72L.hi 4 (0 - 1))
def rv73T : Sp := .leaf
noncomputable def rv74L : Lf := (rv72L.lo 4 0)
noncomputable def rv75L : Lf := (rv74L.hi 4 (1 - 1))
noncomputable def rv76L : Lf := (rv75L.hi 5 (0 - 1))
def rv76T : Sp := .leaf
noncomputable def rv77L : Lf := (rv75L.lo 5 0)
noncomputable def rv78L : Lf := (rv77L.hi 5 (16 - 1))
noncomputable def rv79L : Lf := (rv78L.hi 7 (3 - 1))
noncomputable def rv80L : Lf := (rv79L.hi 8 (1 - 1))
def rv80T : Sp := .leaf
noncomputable def rv81L : Lf := (rv79L.lo 8 1)
noncomputable def rv82L : Lf := (rv81L.hi 8 (2 - 1))
def rv82T : Sp := (.conj [(10, 0), (11, 0), (12, 0)] (.conj [(1, 0), (2, 0), (13, 0), (14, 0), (15, 0)] .leaf (.conj [(13, 0), (14, 0), (15, 0)] (.conj [(1, 0), (2, 0)] .leaf (.cut 1 1 (.cut 2 1 .leaf .leaf) .leaf)) .leaf)) .leaf)
noncomputable def rv83L : Lf := (rv81L.lo 8 2)
def rv83T : Sp := (.cut 8 3 (.cut 9 0 .leaf (.cut 9 1 (.cut 10 0 .leaf (.cut 10 16 (.cut 12 3 (.conj [(1, 0), (2, 0), (13, 0), (14, 0), (15, 0)] .leaf (.conj [(13, 0), (14, 0), (15, 0)] (.conj [(1, 0), (2, 0)] .leaf (.cut 1 1 (.cut 2 1 .leaf .leaf) .leaf)) .leaf)) .leaf) .leaf)) .leaf)) (.cut 8 4 (.cut 9 0 .leaf (.cut 9 1 (.cut 10 0 .leaf (.cut 10 16 (.cut 12 3 (.conj [(1, 0), (2, 0), (13, 0), (14, 0), (15, 0)] .leaf (.conj [(13, 0), (14, 0), (15, 0)] (.conj [(1, 0), (2, 0)] .leaf (.cut 1 1 (.cut 2 1 .leaf .leaf) .leaf)) .leaf)) .leaf) .leaf)) .leaf)) .leaf))
def rv81T : Sp := .cut 8 2 rv82T rv83T
def rv79T : Sp := .cut 8 1 rv80T rv81T
noncomputable def rv84L : Lf := (rv78L.lo 7 3)
def rv84T : Sp := .leaf
def rv78T : Sp := .cut 7 3 rv79T rv84T
noncomputable def rv85L : Lf := (rv77L.lo 5 16)
def rv85T : Sp := .leaf
def rv77T : Sp := .cut 5 16 rv78T rv85T
def rv75T : Sp := .cut 5 0 rv76T rv77T
noncomputable def rv86L : Lf := (rv74L.lo 4 1)
def rv86T : Sp := .leaf
def rv74T : Sp := .cut 4 1 rv75T rv86T
def rv72T : Sp := .cut 4 0 rv73T rv74T
noncomputable def rv87L : Lf := (rv71L.lo 3 3)
noncomputable def rv88L : Lf := (rv87L.hi 3 (4 - 1))
noncomputable def rv89L : Lf := (rv88L.hi 4 (0 - 1))
def rv89T : Sp := .leaf
noncomputable def rv90L : Lf := (rv88L.lo 4 0)
noncomputable def rv91L : Lf := (rv90L.hi 4 (1 - 1))
noncomputable def rv92L : Lf := (rv91L.hi 5 (0 - 1))
def rv92T : Sp := .leaf
noncomputable def rv93L : Lf := (rv91L.lo 5 0)
noncomputable def rv94L : Lf := (rv93L.hi 5 (16 - 1))
noncomputable def rv95L : Lf := (rv94L.hi 7 (3 - 1))
noncomputable def rv96L : Lf := (rv95L.hi 8 (1 - 1))
def rv96T : Sp := .leaf
noncomputable def rv97L : Lf := (rv95L.lo 8 1)
noncomputable def rv98L : Lf := (rv97L.hi 8 (2 - 1))
def rv98T : Sp := (.conj [(10, 0), (11, 0), (12, 0)] (.conj [(1, 0), (2, 0), (13, 0), (14, 0), (15, 0)] .leaf (.conj [(13, 0), (14, 0), (15, 0)] (.conj [(1, 0), (2, 0)] .leaf (.cut 1 1 (.cut 2 1 .leaf .leaf) .leaf)) .leaf)) .leaf)
noncomputable def rv99L : Lf := (rv97L.lo 8 2)
def rv99T : Sp := (.cut 8 3 (.cut 9 0 .leaf (.cut 9 1 (.cut 10 0 .leaf (.cut 10 16 (.cut 12 3 (.conj [(1, 0), (2, 0), (13, 0), (14, 0), (15, 0)] .leaf (.conj [(13, 0), (14, 0), (15, 0)] (.conj [(1, 0), (2, 0)] .leaf (.cut 1 1 (.cut 2 1 .leaf .leaf) .leaf)) .leaf)) .leaf) .leaf)) .leaf)) (.cut 8 4 (.cut 9 0 .leaf (.cut 9 1 (.cut 10 0 .leaf (.cut 10 16 (.cut 12 3 (.conj [(1, 0), (2, 0), (13, 0), (14, 0), (15, 0)] .leaf (.conj [(13, 0), (14, 0), (15, 0)] (.conj [(1, 0), (2, 0)] .leaf (.cut 1 1 (.cut 2 1 .leaf .leaf) .leaf)) .leaf)) .leaf) .leaf)) .leaf)) .leaf))
def rv97T : Sp := .cut 8 2 rv98T rv99T
def rv95T : Sp := .cut 8 1 rv96T rv97T
noncomputable def rv100L : Lf := (rv94L.lo 7 3)
def rv100T : Sp := .leaf
def rv94T : Sp := .cut 7 3 rv95T rv100T
noncomputable def rv101L : Lf := (rv93L.lo 5 16)
def rv101T : Sp := .leaf
def rv93T : Sp := .cut 5 16 rv94T rv101T
def rv91T : Sp := .cut 5 0 rv92T rv93T
noncomputable def rv102L : Lf := (rv90L.lo 4 1)
def rv102T : Sp := .leaf
def rv90T : Sp := .cut 4 1 rv91T rv102T
def rv88T : Sp := .cut 4 0 rv89T rv90T
noncomputable def rv103L : Lf := (rv87L.lo 3 4)
def rv103T : Sp := .leaf
def rv87T : Sp := .cut 3 4 rv88T rv103T
def rv71T : Sp := .cut 3 3 rv72T rv87T
def rv63T : Sp := .cut 3 2 rv64T rv71T
def rv61T : Sp := .cut 3 1 rv62T rv63T
noncomputable def rv104L : Lf := (rv60L.lo 0 4)
noncomputable def rv105L : Lf := (rv104L.hi 0 (5 - 1))
def rv105T : Sp := (.cut 13 0 (.conj [(3, 0), (4, 0), (5, 0), (6, 0), (7, 0)] (.conj [(8, 0), (9, 0), (10, 0), (11, 0), (12, 0)] .leaf .leaf) .leaf) (.cut 13 16 (.cut 15 3 (.cut 2 1 (.conj [(3, 0), (4, 0), (5, 0), (6, 0), (7, 0)] (.conj [(8, 0), (9, 0), (10, 0), (11, 0), (12, 0)] (.cut 1 1 .leaf .leaf) .leaf) .leaf) (.cut 2 4 (.conj [(1, 0), (3, 0), (4, 0), (5, 0), (6, 0), (7, 0), (8, 0), (9, 0), (10, 0), (11, 0), (12, 0)] .leaf (.conj [(3, 0), (4, 0), (5, 0), (6, 0), (7, 0)] (.conj [(1, 0), (8, 0), (9, 0), (10, 0), (11, 0), (12, 0)] .leaf (.conj [(8, 0), (9, 0), (10, 0), (11, 0), (12, 0)] (.cut 1 1 .leaf .leaf) .leaf)) .leaf)) (.conj [(3, 0), (4, 0), (5, 0), (6, 0), (7, 0)] (.conj [(8, 0), (9, 0), (10, 0), (11, 0), (12, 0)] (.cut 1 1 .leaf .leaf) .leaf) .leaf))) (.conj [(3, 0), (4, 0), (5, 0), (6, 0), (7, 0)] (.conj [(8, 0), (9, 0), (10, 0), (11, 0), (12, 0)] .leaf .leaf) .leaf)) (.conj [(3, 0), (4, 0), (5, 0), (6, 0), (7, 0)] (.conj [(8, 0), (9, 0), (10, 0), (11, 0), (12, 0)] .leaf .leaf) .leaf)))
noncomputable def rv106L : Lf := (rv104L.lo 0 5)
def rv106T : Sp := (.cut 0 6 (.cut 13 0 (.conj [(3, 0), (4, 0), (5, 0), (6, 0), (7, 0)] (.conj [(8, 0), (9, 0), (10, 0), (11, 0), (12, 0)] .leaf .leaf) .leaf) (.cut 13 16 (.cut 15 3 (.conj [(1, 0), (2, 0), (3, 0), (4, 0), (5, 0), (6, 0), (7, 0), (8, 0), (9, 0), (10, 0), (11, 0), (12, 0)] .leaf (.conj [(3, 0), (4, 0), (5, 0), (6, 0), (7, 0)] (.conj [(1, 0), (2, 0), (8, 0), (9, 0), (10, 0), (11, 0), (12, 0)] .leaf (.conj [(8, 0), (9, 0), (10, 0), (11, 0), (12, 0)] (.conj [(1, 0), (2, 0)] .leaf (.cut 1 1 (.cut 2 1 .leaf .leaf) .leaf)) .leaf)) .leaf)) (.conj [(3, 0), (4, 0), (5, 0), (6, 0), (7, 0)] (.conj [(8, 0), (9, 0), (10, 0), (11, 0), (12, 0)] .leaf .leaf) .leaf)) (.conj [(3, 0), (4, 0), (5, 0), (6, 0), (7, 0)] (.conj [(8, 0), (9, 0), (10, 0), (11, 0), (12, 0)] .leaf .leaf) .leaf))) .leaf)
def rv104T : Sp := .cut 0 5 rv105T rv106T
def rv60T : Sp := .cut 0 4 rv61T rv104T
def rv10T : Sp := .cut 0 3 rv11T rv60T
def rv2T : Sp := .cut 0 2 rv3T rv10T
def rv0T : Sp := .cut 0 1 rv1T rv2T
noncomputable def good_rvA (L : Lf) : Bool := testsAt (okRvE 0) m8 kRv L (@runs (L.know (strsT 0 kRv)) (tyOf Tryz.prog) (fnOf Tryz.prog) (low4 (L.know (strsT 0 kRv))) 30 15 95 [.g ((cellsT 0 kRv).map L.nS)] ⟨[], 0⟩ 0)
theorem rvA_rv1 : (rv1T.leaves rv1L).all good_rvA = true := by kernel_rfl
theorem rvA_rv4 : (rv4T.leaves rv4L).all good_rvA = true := by kernel_rfl
theorem rvA_rv6 : (rv6T.leaves rv6L).all good_rvA = true := by kernel_rfl
theorem rvA_rv8 : (rv8T.leaves rv8L).all good_rvA = true := by kernel_rfl
theorem rvA_rv9 : (rv9T.leaves rv9L).all good_rvA = true := by kernel_rfl
theorem rvA_rv12 : (rv12T.leaves rv12L).all good_rvA = true := by kernel_rfl
theorem rvA_rv16 : (rv16T.leaves rv16L).all good_rvA = true := by kernel_rfl
theorem rvA_rv18 : (rv18T.leaves rv18L).all good_rvA = true := by kernel_rfl
theorem rvA_rv20 : (rv20T.leaves rv20L).all good_rvA = true := by kernel_rfl
theorem rvA_rv21 : (rv21T.leaves rv21L).all good_rvA = true := by kernel_rfl
theorem rvA_rv22 : (rv22T.leaves rv22L).all good_rvA = true := by kernel_rfl
theorem rvA_rv25 : (rv25T.leaves rv25L).all good_rvA = true := by kernel_rfl
theorem rvA_rv28 : (rv28T.leaves rv28L).all good_rvA = true := by kernel_rfl
theorem rvA_rv32 : (rv32T.leaves rv32L).all good_rvA = true := by kernel_rfl
theorem rvA_rv34 : (rv34T.leaves rv34L).all good_rvA = true := by kernel_rfl
theorem rvA_rv36 : (rv36T.leaves rv36L).all good_rvA = true := by kernel_rfl
theorem rvA_rv37 : (rv37T.leaves rv37L).all good_rvA = true := by kernel_rfl
theorem rvA_rv38 : (rv38T.leaves rv38L).all good_rvA = true := by kernel_rfl
theorem rvA_rv39 : (rv39T.leaves rv39L).all good_rvA = true := by kernel_rfl
theorem rvA_rv40 : (rv40T.leaves rv40L).all good_rvA = true := by kernel_rfl
theorem rvA_rv43 : (rv43T.leaves rv43L).all good_rvA = true := by kernel_rfl
theorem rvA_rv46 : (rv46T.leaves rv46L).all good_rvA = true := by kernel_rfl
theorem rvA_rv50 : (rv50T.leaves rv50L).all good_rvA = true := by kernel_rfl
theorem rvA_rv52 : (rv52T.leaves rv52L).all good_rvA = true := by kernel_rfl
theorem rvA_rv54 : (rv54T.leaves rv54L).all good_rvA = true := by kernel_rfl
theorem rvA_rv55 : (rv55T.leaves rv55L).all good_rvA = true := by kernel_rfl
theorem rvA_rv56 : (rv56T.leaves rv56L).all good_rvA = true := by kernel_rfl
theorem rvA_rv57 : (rv57T.leaves rv57L).all good_rvA = true := by kernel_rfl
theorem rvA_rv58 : (rv58T.leaves rv58L).all good_rvA = true := by kernel_rfl
theorem rvA_rv59 : (rv59T.leaves rv59L).all good_rvA = true := by kernel_rfl
theorem rvA_rv62 : (rv62T.leaves rv62L).all good_rvA = true := by kernel_rfl
theorem rvA_rv66 : (rv66T.leaves rv66L).all good_rvA = true := by kernel_rfl
theorem rvA_rv68 : (rv68T.leaves rv68L).all good_rvA = true := by kernel_rfl
theorem rvA_rv69 : (rv69T.leaves rv69L).all good_rvA = true := by kernel_rfl
theorem rvA_rv70 : (rv70T.leaves rv70L).all good_rvA = true := by kernel_rfl
theorem rvA_rv73 : (rv73T.leaves rv73L).all good_rvA = true := by kernel_rfl
theorem rvA_rv76 : (rv76T.leaves rv76L).all good_rvA = true := by kernel_rfl
theorem rvA_rv80 : (rv80T.leaves rv80L).all good_rvA = true := by kernel_rfl
theorem rvA_rv82 : (rv82T.leaves rv82L).all good_rvA = true := by kernel_rfl
theorem rvA_rv83 : (rv83T.leaves rv83L).all good_rvA = true := by kernel_rfl
theorem rvA_rv84 : (rv84T.leaves rv84L).all good_rvA = true := by kernel_rfl
theorem rvA_rv85 : (rv85T.leaves rv85L).all good_rvA = true := by kernel_rfl
theorem rvA_rv86 : (rv86T.leaves rv86L).all good_rvA = true := by kernel_rfl
theorem rvA_rv89 : (rv89T.leaves rv89L).all good_rvA = true := by kernel_rfl
theorem rvA_rv92 : (rv92T.leaves rv92L).all good_rvA = true := by kernel_rfl
theorem rvA_rv96 : (rv96T.leaves rv96L).all good_rvA = true := by kernel_rfl
theorem rvA_rv98 : (rv98T.leaves rv98L).all good_rvA = true := by kernel_rfl
theorem rvA_rv99 : (rv99T.leaves rv99L).all good_rvA = true := by kernel_rfl
theorem rvA_rv100 : (rv100T.leaves rv100L).all good_rvA = true := by kernel_rfl
theorem rvA_rv101 : (rv101T.leaves rv101L).all good_rvA = true := by kernel_rfl
theorem rvA_rv102 : (rv102T.leaves rv102L).all good_rvA = true := by kernel_rfl
theorem rvA_rv103 : (rv103T.leaves rv103L).all good_rvA = true := by kernel_rfl
theorem rvA_rv105 : (rv105T.leaves rv105L).all good_rvA = true := by kernel_rfl
theorem rvA_rv106 : (rv106T.leaves rv106L).all good_rvA = true := by kernel_rfl
theorem rvA_rv7 : (rv7T.leaves rv7L).all good_rvA = true := by
  have e : rv7T.leaves rv7L = rv8T.leaves rv8L ++ rv9T.leaves rv9L := rfl
  rw [e]
  simp only [List.all_append, rvA_rv8, rvA_rv9, Bool.and_self]
theorem rvA_rv5 : (rv5T.leaves rv5L).all good_rvA = true := by
  have e : rv5T.leaves rv5L = rv6T.leaves rv6L ++ rv7T.leaves rv7L := rfl
  rw [e]
  simp only [List.all_append, rvA_rv6, rvA_rv7, Bool.and_self]
theorem rvA_rv3 : (rv3T.leaves rv3L).all good_rvA = true := by
  have e : rv3T.leaves rv3L = rv4T.leaves rv4L ++ rv5T.leaves rv5L := rfl
  rw [e]
  simp only [List.all_append, rvA_rv4, rvA_rv5, Bool.and_self]
theorem rvA_rv19 : (rv19T.leaves rv19L).all good_rvA = true := by
  have e : rv19T.leaves rv19L = rv20T.leaves rv20L ++ rv21T.leaves rv21L := rfl
  rw [e]
  simp only [List.all_append, rvA_rv20, rvA_rv21, Bool.and_self]
theorem rvA_rv17 : (rv17T.leaves rv17L).all good_rvA = true := by
  have e : rv17T.leaves rv17L = rv18T.leaves rv18L ++ rv19T.leaves rv19L := rfl
  rw [e]
  simp only [List.all_append, rvA_rv18, rvA_rv19, Bool.and_self]
theorem rvA_rv15 : (rv15T.leaves rv15L).all good_rvA = true := by
  have e : rv15T.leaves rv15L = rv16T.leaves rv16L ++ rv17T.leaves rv17L := rfl
  rw [e]
  simp only [List.all_append, rvA_rv16, rvA_rv17, Bool.and_self]
theorem rvA_rv14 : (rv14T.leaves rv14L).all good_rvA = true := by
  have e : rv14T.leaves rv14L = rv15T.leaves rv15L ++ rv22T.leaves rv22L := rfl
  rw [e]
  simp only [List.all_append, rvA_rv15, rvA_rv22, Bool.and_self]
theorem rvA_rv35 : (rv35T.leaves rv35L).all good_rvA = true := by
  have e : rv35T.leaves rv35L = rv36T.leaves rv36L ++ rv37T.leaves rv37L := rfl
  rw [e]
  simp only [List.all_append, rvA_rv36, rvA_rv37, Bool.and_self]
theorem rvA_rv33 : (rv33T.leaves rv33L).all good_rvA = true := by
  have e : rv33T.leaves rv33L = rv34T.leaves rv34L ++ rv35T.leaves rv35L := rfl
  rw [e]
  simp only [List.all_append, rvA_rv34, rvA_rv35, Bool.and_self]
theorem rvA_rv31 : (rv31T.leaves rv31L).all good_rvA = true := by
  have e : rv31T.leaves rv31L = rv32T.leaves rv32L ++ rv33T.leaves rv33L := rfl
  rw [e]
  simp only [List.all_append, rvA_rv32, rvA_rv33, Bool.and_self]
theorem rvA_rv30 : (rv30T.leaves rv30L).all good_rvA = true := by
  have e : rv30T.leaves rv30L = rv31T.leaves rv31L ++ rv38T.leaves rv38L := rfl
  rw [e]
  simp only [List.all_append, rvA_rv31, rvA_rv38, Bool.and_self]
theorem rvA_rv29 : (rv29T.leaves rv29L).all good_rvA = true := by
  have e : rv29T.leaves rv29L = rv30T.leaves rv30L ++ rv39T.leaves rv39L := rfl
  rw [e]
  simp only [List.all_append, rvA_rv30, rvA_rv39, Bool.and_self]
theorem rvA_rv27 : (rv27T.leaves rv27L).all good_rvA = true := by
  have e : rv27T.leaves rv27L = rv28T.leaves rv28L ++ rv29T.leaves rv29L := rfl
  rw [e]
  simp only [List.all_append, rvA_rv28, rvA_rv29, Bool.and_self]
theorem rvA_rv26 : (rv26T.leaves rv26L).all good_rvA = true := by
  have e : rv26T.leaves rv26L = rv27T.leaves rv27L ++ rv40T.leaves rv40L := rfl
  rw [e]
  simp only [List.all_append, rvA_rv27, rvA_rv40, Bool.and_self]
theorem rvA_rv24 : (rv24T.leaves rv24L).all good_rvA = true := by
  have e : rv24T.leaves rv24L = rv25T.leaves rv25L ++ rv26T.leaves rv26L := rfl
  rw [e]
  simp only [List.all_append, rvA_rv25, rvA_rv26, Bool.and_self]
theorem rvA_rv53 : (rv53T.leaves rv53L).all good_rvA = true := by
  have e : rv53T.leaves rv53L = rv54T.leaves rv54L ++ rv55T.leaves rv55L := rfl
  rw [e]
  simp only [List.all_append, rvA_rv54, rvA_rv55, Bool.and_self]
theorem rvA_rv51 : (rv51T.leaves rv51L).all good_rvA = true := by
  have e : rv51T.leaves rv51L = rv52T.leaves rv52L ++ rv53T.leaves rv53L := rfl
  rw [e]
  simp only [List.all_append, rvA_rv52, rvA_rv53, Bool.and_self]
theorem rvA_rv49 : (rv49T.leaves rv49L).all good_rvA = true := by
  have e : rv49T.leaves rv49L = rv50T.leaves rv50L ++ rv51T.leaves rv51L := rfl
  rw [e]
  simp only [List.all_append, rvA_rv50, rvA_rv51, Bool.and_self]
theorem rvA_rv48 : (rv48T.leaves rv48L).all good_rvA = true := by
  have e : rv48T.leaves rv48L = rv49T.leaves rv49L ++ rv56T.leaves rv56L := rfl
  rw [e]
  simp only [List.all_append, rvA_rv49, rvA_rv56, Bool.and_self]
theorem rvA_rv47 : (rv47T.leaves rv47L).all good_rvA = true := by
  have e : rv47T.leaves rv47L = rv48T.leaves rv48L ++ rv57T.leaves rv57L := rfl
  rw [e]
  simp only [List.all_append, rvA_rv48, rvA_rv57, Bool.and_self]
theorem rvA_rv45 : (rv45T.leaves rv45L).all good_rvA = true := by
  have e : rv45T.leaves rv45L = rv46T.leaves rv46L ++ rv47T.leaves rv47L := rfl
  rw [e]
  simp only [List.all_append, rvA_rv46, rvA_rv47, Bool.and_self]
theorem rvA_rv44 : (rv44T.leaves rv44L).all good_rvA = true := by
  have e : rv44T.leaves rv44L = rv45T.leaves rv45L ++ rv58T.leaves rv58L := rfl
  rw [e]
  simp only [List.all_append, rvA_rv45, rvA_rv58, Bool.and_self]
theorem rvA_rv42 : (rv42T.leaves rv42L).all good_rvA = true := by
  have e : rv42T.leaves rv42L = rv43T.leaves rv43L ++ rv44T.leaves rv44L := rfl
  rw [e]
  simp only [List.all_append, rvA_rv43, rvA_rv44, Bool.and_self]
theorem rvA_rv41 : (rv41T.leaves rv41L).all good_rvA = true := by
  have e : rv41T.leaves rv41L = rv42T.leaves rv42L ++ rv59T.leaves rv59L := rfl
  rw [e]
  simp only [List.all_append, rvA_rv42, rvA_rv59, Bool.and_self]
theorem rvA_rv23 : (rv23T.leaves rv23L).all good_rvA = true := by
  have e : rv23T.leaves rv23L = rv24T.leaves rv24L ++ rv41T.leaves rv41L := rfl
  rw [e]
  simp only [List.all_append, rvA_rv24, rvA_rv41, Bool.and_self]
theorem rvA_rv13 : (rv13T.leaves rv13L).all good_rvA = true := by
  have e : rv13T.leaves rv13L = rv14T.leaves rv14L ++ rv23T.leaves rv23L := rfl
  rw [e]
  simp only [List.all_append, rvA_rv14, rvA_rv23, Bool.and_self]
theorem rvA_rv11 : (rv11T.leaves rv11L).all good_rvA = true := by
  have e : rv11T.leaves rv11L = rv12T.leaves rv12L ++ rv13T.leaves rv13L := rfl
  rw [e]
  simp only [List.all_append, rvA_rv12, rvA_rv13, Bool.and_self]
theorem rvA_rv67 : (rv67T.leaves rv67L).all good_rvA = true := by
  have e : rv67T.leaves rv67L = rv68T.leaves rv68L ++ rv69T.leaves rv69L := rfl
  rw [e]
  simp only [List.all_append, rvA_rv68, rvA_rv69, Bool.and_self]
theorem rvA_rv65 : (rv65T.leaves rv65L).all good_rvA = true := by
  have e : rv65T.leaves rv65L = rv66T.leaves rv66L ++ rv67T.leaves rv67L := rfl
  rw [e]
  simp only [List.all_append, rvA_rv66, rvA_rv67, Bool.and_self]
theorem rvA_rv64 : (rv64T.leaves rv64L).all good_rvA = true := by
  have e : rv64T.leaves rv64L = rv65T.leaves rv65L ++ rv70T.leaves rv70L := rfl
  rw [e]
  simp only [List.all_append, rvA_rv65, rvA_rv70, Bool.and_self]
theorem rvA_rv81 : (rv81T.leaves rv81L).all good_rvA = true := by
  have e : rv81T.leaves rv81L = rv82T.leaves rv82L ++ rv83T.leaves rv83L := rfl
  rw [e]
  simp only [List.all_append, rvA_rv82, rvA_rv83, Bool.and_self]
theorem rvA_rv79 : (rv79T.leaves rv79L).all good_rvA = true := by
  have e : rv79T.leaves rv79L = rv80T.leaves rv80L ++ rv81T.leaves rv81L := rfl
  rw [e]
  simp only [List.all_append, rvA_rv80, rvA_rv81, Bool.and_self]
theorem rvA_rv78 : (rv78T.leaves rv78L).all good_rvA = true := by
  have e : rv78T.leaves rv78L = rv79T.leaves rv79L ++ rv84T.leaves rv84L := rfl
  rw [e]
  simp only [List.all_append, rvA_rv79, rvA_rv84, Bool.and_self]
theorem rvA_rv77 : (rv77T.leaves rv77L).all good_rvA = true := by
  have e : rv77T.leaves rv77L = rv78T.leaves rv78L ++ rv85T.leaves rv85L := rfl
  rw [e]
  simp only [List.all_append, rvA_rv78, rvA_rv85, Bool.and_self]
theorem rvA_rv75 : (rv75T.leaves rv75L).all good_rvA = true := by
  have e : rv75T.leaves rv75L = rv76T.leaves rv76L ++ rv77T.leaves rv77L := rfl
  rw [e]
  simp only [List.all_append, rvA_rv76, rvA_rv77, Bool.and_self]
theorem rvA_rv74 : (rv74T.leaves rv74L).all good_rvA = true := by
  have e : rv74T.leaves rv74L = rv75T.leaves rv75L ++ rv86T.leaves rv86L := rfl
  rw [e]
  simp only [List.all_append, rvA_rv75, rvA_rv86, Bool.and_self]
theorem rvA_rv72 : (rv72T.leaves rv72L).all good_rvA = true := by
  have e : rv72T.leaves rv72L = rv73T.leaves rv73L ++ rv74T.leaves rv74L := rfl
  rw [e]
  simp only [List.all_append, rvA_rv73, rvA_rv74, Bool.and_self]
theorem rvA_rv97 : (rv97T.leaves rv97L).all good_rvA = true := by
  have e : rv97T.leaves rv97L = rv98T.leaves rv98L ++ rv99T.leaves rv99L := rfl
  rw [e]
  simp only [List.all_append, rvA_rv98, rvA_rv99, Bool.and_self]
theorem rvA_rv95 : (rv95T.leaves rv95L).all good_rvA = true := by
  have e : rv95T.leaves rv95L = rv96T.leaves rv96L ++ rv97T.leaves rv97L := rfl
  rw [e]
  simp only [List.all_append, rvA_rv96, rvA_rv97, Bool.and_self]
theorem rvA_rv94 : (rv94T.leaves rv94L).all good_rvA = true := by
  have e : rv94T.leaves rv94L = rv95T.leaves rv95L ++ rv100T.leaves rv100L := rfl
  rw [e]
  simp only [List.all_append, rvA_rv95, rvA_rv100, Bool.and_self]
theorem rvA_rv93 : (rv93T.leaves rv93L).all good_rvA = true := by
  have e : rv93T.leaves rv93L = rv94T.leaves rv94L ++ rv101T.leaves rv101L := rfl
  rw [e]
  simp only [List.all_append, rvA_rv94, rvA_rv101, Bool.and_self]
theorem rvA_rv91 : (rv91T.leaves rv91L).all good_rvA = true := by
  have e : rv91T.leaves rv91L = rv92T.leaves rv92L ++ rv93T.leaves rv93L := rfl
  rw [e]
  simp only [List.all_append, rvA_rv92, rvA_rv93, Bool.and_self]
theorem rvA_rv90 : (rv90T.leaves rv90L).all good_rvA = true := by
  have e : rv90T.leaves rv90L = rv91T.leaves rv91L ++ rv102T.leaves rv102L := rfl
  rw [e]
  simp only [List.all_append, rvA_rv91, rvA_rv102, Bool.and_self]
theorem rvA_rv88 : (rv88T.leaves rv88L).all good_rvA = true := by
  have e : rv88T.leaves rv88L = rv89T.leaves rv89L ++ rv90T.leaves rv90L := rfl
  rw [e]
  simp only [List.all_append, rvA_rv89, rvA_rv90, Bool.and_self]
theorem rvA_rv87 : (rv87T.leaves rv87L).all good_rvA = true := by
  have e : rv87T.leaves rv87L = rv88T.leaves rv88L ++ rv103T.leaves rv103L := rfl
  rw [e]
  simp only [List.all_append, rvA_rv88, rvA_rv103, Bool.and_self]
theorem rvA_rv71 : (rv71T.leaves rv71L).all good_rvA = true := by
  have e : rv71T.leaves rv71L = rv72T.leaves rv72L ++ rv87T.leaves rv87L := rfl
  rw [e]
  simp only [List.all_append, rvA_rv72, rvA_rv87, Bool.and_self]
theorem rvA_rv63 : (rv63T.leaves rv63L).all good_rvA = true := by
  have e : rv63T.leaves rv63L = rv64T.leaves rv64L ++ rv71T.leaves rv71L := rfl
  rw [e]
  simp only [List.all_append, rvA_rv64, rvA_rv71, Bool.and_self]
theorem rvA_rv61 : (rv61T.leaves rv61L).all good_rvA = true := by
  have e : rv61T.leaves rv61L = rv62T.leaves rv62L ++ rv63T.leaves rv63L := rfl
  rw [e]
  simp only [List.all_append, rvA_rv62, rvA_rv63, Bool.and_self]
theorem rvA_rv104 : (rv104T.leaves rv104L).all good_rvA = true := by
  have e : rv104T.leaves rv104L = rv105T.leaves rv105L ++ rv106T.leaves rv106L := rfl
  rw [e]
  simp only [List.all_append, rvA_rv105, rvA_rv106, Bool.and_self]
theorem rvA_rv60 : (rv60T.leaves rv60L).all good_rvA = true := by
  have e : rv60T.leaves rv60L = rv61T.leaves rv61L ++ rv104T.leaves rv104L := rfl
  rw [e]
  simp only [List.all_append, rvA_rv61, rvA_rv104, Bool.and_self]
theorem rvA_rv10 : (rv10T.leaves rv10L).all good_rvA = true := by
  have e : rv10T.leaves rv10L = rv11T.leaves rv11L ++ rv60T.leaves rv60L := rfl
  rw [e]
  simp only [List.all_append, rvA_rv11, rvA_rv60, Bool.and_self]
theorem rvA_rv2 : (rv2T.leaves rv2L).all good_rvA = true := by
  have e : rv2T.leaves rv2L = rv3T.leaves rv3L ++ rv10T.leaves rv10L := rfl
  rw [e]
  simp only [List.all_append, rvA_rv3, rvA_rv10, Bool.and_self]
theorem rvA_rv0 : (rv0T.leaves rv0L).all good_rvA = true := by
  have e : rv0T.leaves rv0L = rv1T.leaves rv1L ++ rv2T.leaves rv2L := rfl
  rw [e]
  simp only [List.all_append, rvA_rv1, rvA_rv2, Bool.and_self]
theorem rvA_tests : Tests Tryz.prog anyW 95 kRv (okRvE 0) v8 := tests_any m8_ok (fun L => low4 (L.know (strsT 0 kRv))) (fun _ {_ _} h k => sound_low4 (baseN default (Lf.ok h k))) (sp := rv0T) rvA_rv0
noncomputable def good_rvB (L : Lf) : Bool := testsAt (okRvE 0) m8 kRv L (@runs (L.know (strsT 0 kRv)) (tyOf Tryz.prog) (fnOf Tryz.prog) (low4 (L.know (strsT 0 kRv))) 30 15 100 [.g ((cellsT 0 kRv).map L.nS)] ⟨[], 0⟩ 0)
theorem rvB_rv1 : (rv1T.leaves rv1L).all good_rvB = true := by kernel_rfl
theorem rvB_rv4 : (rv4T.leaves rv4L).all good_rvB = true := by kernel_rfl
theorem rvB_rv6 : (rv6T.leaves rv6L).all good_rvB = true := by kernel_rfl
theorem rvB_rv8 : (rv8T.leaves rv8L).all good_rvB = true := by kernel_rfl
theorem rvB_rv9 : (rv9T.leaves rv9L).all good_rvB = true := by kernel_rfl
theorem rvB_rv12 : (rv12T.leaves rv12L).all good_rvB = true := by kernel_rfl
theorem rvB_rv16 : (rv16T.leaves rv16L).all good_rvB = true := by kernel_rfl
theorem rvB_rv18 : (rv18T.leaves rv18L).all good_rvB = true := by kernel_rfl
theorem rvB_rv20 : (rv20T.leaves rv20L).all good_rvB = true := by kernel_rfl
theorem rvB_rv21 : (rv21T.leaves rv21L).all good_rvB = true := by kernel_rfl
theorem rvB_rv22 : (rv22T.leaves rv22L).all good_rvB = true := by kernel_rfl
theorem rvB_rv25 : (rv25T.leaves rv25L).all good_rvB = true := by kernel_rfl
theorem rvB_rv28 : (rv28T.leaves rv28L).all good_rvB = true := by kernel_rfl
theorem rvB_rv32 : (rv32T.leaves rv32L).all good_rvB = true := by kernel_rfl
theorem rvB_rv34 : (rv34T.leaves rv34L).all good_rvB = true := by kernel_rfl
theorem rvB_rv36 : (rv36T.leaves rv36L).all good_rvB = true := by kernel_rfl
theorem rvB_rv37 : (rv37T.leaves rv37L).all good_rvB = true := by kernel_rfl
theorem rvB_rv38 : (rv38T.leaves rv38L).all good_rvB = true := by kernel_rfl
theorem rvB_rv39 : (rv39T.leaves rv39L).all good_rvB = true := by kernel_rfl
theorem rvB_rv40 : (rv40T.leaves rv40L).all good_rvB = true := by kernel_rfl
theorem rvB_rv43 : (rv43T.leaves rv43L).all good_rvB = true := by kernel_rfl
theorem rvB_rv46 : (rv46T.leaves rv46L).all good_rvB = true := by kernel_rfl
theorem rvB_rv50 : (rv50T.leaves rv50L).all good_rvB = true := by kernel_rfl
theorem rvB_rv52 : (rv52T.leaves rv52L).all good_rvB = true := by kernel_rfl
theorem rvB_rv54 : (rv54T.leaves rv54L).all good_rvB = true := by kernel_rfl
theorem rvB_rv55 : (rv55T.leaves rv55L).all good_rvB = true := by kernel_rfl
theorem rvB_rv56 : (rv56T.leaves rv56L).all good_rvB = true := by kernel_rfl
theorem rvB_rv57 : (rv57T.leaves rv57L).all good_rvB = true := by kernel_rfl
theorem rvB_rv58 : (rv58T.leaves rv58L).all good_rvB = true := by kernel_rfl
theorem rvB_rv59 : (rv59T.leaves rv59L).all good_rvB = true := by kernel_rfl
theorem rvB_rv62 : (rv62T.leaves rv62L).all good_rvB = true := by kernel_rfl
theorem rvB_rv66 : (rv66T.leaves rv66L).all good_rvB = true := by kernel_rfl
theorem rvB_rv68 : (rv68T.leaves rv68L).all good_rvB = true := by kernel_rfl
theorem rvB_rv69 : (rv69T.leaves rv69L).all good_rvB = true := by kernel_rfl
theorem rvB_rv70 : (rv70T.leaves rv70L).all good_rvB = true := by kernel_rfl
theorem rvB_rv73 : (rv73T.leaves rv73L).all good_rvB = true := by kernel_rfl
theorem rvB_rv76 : (rv76T.leaves rv76L).all good_rvB = true := by kernel_rfl
theorem rvB_rv80 : (rv80T.leaves rv80L).all good_rvB = true := by kernel_rfl
theorem rvB_rv82 : (rv82T.leaves rv82L).all good_rvB = true := by kernel_rfl
theorem rvB_rv83 : (rv83T.leaves rv83L).all good_rvB = true := by kernel_rfl
theorem rvB_rv84 : (rv84T.leaves rv84L).all good_rvB = true := by kernel_rfl
theorem rvB_rv85 : (rv85T.leaves rv85L).all good_rvB = true := by kernel_rfl
theorem rvB_rv86 : (rv86T.leaves rv86L).all good_rvB = true := by kernel_rfl
theorem rvB_rv89 : (rv89T.leaves rv89L).all good_rvB = true := by kernel_rfl
theorem rvB_rv92 : (rv92T.leaves rv92L).all good_rvB = true := by kernel_rfl
theorem rvB_rv96 : (rv96T.leaves rv96L).all good_rvB = true := by kernel_rfl
theorem rvB_rv98 : (rv98T.leaves rv98L).all good_rvB = true := by kernel_rfl
theorem rvB_rv99 : (rv99T.leaves rv99L).all good_rvB = true := by kernel_rfl
theorem rvB_rv100 : (rv100T.leaves rv100L).all good_rvB = true := by kernel_rfl
theorem rvB_rv101 : (rv101T.leaves rv101L).all good_rvB = true := by kernel_rfl
theorem rvB_rv102 : (rv102T.leaves rv102L).all good_rvB = true := by kernel_rfl
theorem rvB_rv103 : (rv103T.leaves rv103L).all good_rvB = true := by kernel_rfl
theorem rvB_rv105 : (rv105T.leaves rv105L).all good_rvB = true := by kernel_rfl
theorem rvB_rv106 : (rv106T.leaves rv106L).all good_rvB = true := by kernel_rfl
theorem rvB_rv7 : (rv7T.leaves rv7L).all good_rvB = true := by
  have e : rv7T.leaves rv7L = rv8T.leaves rv8L ++ rv9T.leaves rv9L := rfl
  rw [e]
  simp only [List.all_append, rvB_rv8, rvB_rv9, Bool.and_self]
theorem rvB_rv5 : (rv5T.leaves rv5L).all good_rvB = true := by
  have e : rv5T.leaves rv5L = rv6T.leaves rv6L ++ rv7T.leaves rv7L := rfl
  rw [e]
  simp only [List.all_append, rvB_rv6, rvB_rv7, Bool.and_self]
theorem rvB_rv3 : (rv3T.leaves rv3L).all good_rvB = true := by
  have e : rv3T.leaves rv3L = rv4T.leaves rv4L ++ rv5T.leaves rv5L := rfl
  rw [e]
  simp only [List.all_append, rvB_rv4, rvB_rv5, Bool.and_self]
theorem rvB_rv19 : (rv19T.leaves rv19L).all good_rvB = true := by
  have e : rv19T.leaves rv19L = rv20T.leaves rv20L ++ rv21T.leaves rv21L := rfl
  rw [e]
  simp only [List.all_append, rvB_rv20, rvB_rv21, Bool.and_self]
theorem rvB_rv17 : (rv17T.leaves rv17L).all good_rvB = true := by
  have e : rv17T.leaves rv17L = rv18T.leaves rv18L ++ rv19T.leaves rv19L := rfl
  rw [e]
  simp only [List.all_append, rvB_rv18, rvB_rv19, Bool.and_self]
theorem rvB_rv15 : (rv15T.leaves rv15L).all good_rvB = true := by
  have e : rv15T.leaves rv15L = rv16T.leaves rv16L ++ rv17T.leaves rv17L := rfl
  rw [e]
  simp only [List.all_append, rvB_rv16, rvB_rv17, Bool.and_self]
theorem rvB_rv14 : (rv14T.leaves rv14L).all good_rvB = true := by
  have e : rv14T.leaves rv14L = rv15T.leaves rv15L ++ rv22T.leaves rv22L := rfl
  rw [e]
  simp only [List.all_append, rvB_rv15, rvB_rv22, Bool.and_self]
theorem rvB_rv35 : (rv35T.leaves rv35L).all good_rvB = true := by
  have e : rv35T.leaves rv35L = rv36T.leaves rv36L ++ rv37T.leaves rv37L := rfl
  rw [e]
  simp only [List.all_append, rvB_rv36, rvB_rv37, Bool.and_self]
theorem rvB_rv33 : (rv33T.leaves rv33L).all good_rvB = true := by
  have e : rv33T.leaves rv33L = rv34T.leaves rv34L ++ rv35T.leaves rv35L := rfl
  rw [e]
  simp only [List.all_append, rvB_rv34, rvB_rv35, Bool.and_self]
theorem rvB_rv31 : (rv31T.leaves rv31L).all good_rvB = true := by
  have e : rv31T.leaves rv31L = rv32T.leaves rv32L ++ rv33T.leaves rv33L := rfl
  rw [e]
  simp only [List.all_append, rvB_rv32, rvB_rv33, Bool.and_self]
theorem rvB_rv30 : (rv30T.leaves rv30L).all good_rvB = true := by
  have e : rv30T.leaves rv30L = rv31T.leaves rv31L ++ rv38T.leaves rv38L := rfl
  rw [e]
  simp only [List.all_append, rvB_rv31, rvB_rv38, Bool.and_self]
theorem rvB_rv29 : (rv29T.leaves rv29L).all good_rvB = true := by
  have e : rv29T.leaves rv29L = rv30T.leaves rv30L ++ rv39T.leaves rv39L := rfl
  rw [e]
  simp only [List.all_append, rvB_rv30, rvB_rv39, Bool.and_self]
theorem rvB_rv27 : (rv27T.leaves rv27L).all good_rvB = true := by
  have e : rv27T.leaves rv27L = rv28T.leaves rv28L ++ rv29T.leaves rv29L := rfl
  rw [e]
  simp only [List.all_append, rvB_rv28, rvB_rv29, Bool.and_self]
theorem rvB_rv26 : (rv26T.leaves rv26L).all good_rvB = true := by
  have e : rv26T.leaves rv26L = rv27T.leaves rv27L ++ rv40T.leaves rv40L := rfl
  rw [e]
  simp only [List.all_append, rvB_rv27, rvB_rv40, Bool.and_self]
theorem rvB_rv24 : (rv24T.leaves rv24L).all good_rvB = true := by
  have e : rv24T.leaves rv24L = rv25T.leaves rv25L ++ rv26T.leaves rv26L := rfl
  rw [e]
  simp only [List.all_append, rvB_rv25, rvB_rv26, Bool.and_self]
theorem rvB_rv53 : (rv53T.leaves rv53L).all good_rvB = true := by
  have e : rv53T.leaves rv53L = rv54T.leaves rv54L ++ rv55T.leaves rv55L := rfl
  rw [e]
  simp only [List.all_append, rvB_rv54, rvB_rv55, Bool.and_self]
theorem rvB_rv51 : (rv51T.leaves rv51L).all good_rvB = true := by
  have e : rv51T.leaves rv51L = rv52T.leaves rv52L ++ rv53T.leaves rv53L := rfl
  rw [e]
  simp only [List.all_append, rvB_rv52, rvB_rv53, Bool.and_self]
theorem rvB_rv49 : (rv49T.leaves rv49L).all good_rvB = true := by
  have e : rv49T.leaves rv49L = rv50T.leaves rv50L ++ rv51T.leaves rv51L := rfl
  rw [e]
  simp only [List.all_append, rvB_rv50, rvB_rv51, Bool.and_self]
theorem rvB_rv48 : (rv48T.leaves rv48L).all good_rvB = true := by
  have e : rv48T.leaves rv48L = rv49T.leaves rv49L ++ rv56T.leaves rv56L := rfl
  rw [e]
  simp only [List.all_append, rvB_rv49, rvB_rv56, Bool.and_self]
theorem rvB_rv47 : (rv47T.leaves rv47L).all good_rvB = true := by
  have e : rv47T.leaves rv47L = rv48T.leaves rv48L ++ rv57T.leaves rv57L := rfl
  rw [e]
  simp only [List.all_append, rvB_rv48, rvB_rv57, Bool.and_self]
theorem rvB_rv45 : (rv45T.leaves rv45L).all good_rvB = true := by
  have e : rv45T.leaves rv45L = rv46T.leaves rv46L ++ rv47T.leaves rv47L := rfl
  rw [e]
  simp only [List.all_append, rvB_rv46, rvB_rv47, Bool.and_self]
theorem rvB_rv44 : (rv44T.leaves rv44L).all good_rvB = true := by
  have e : rv44T.leaves rv44L = rv45T.leaves rv45L ++ rv58T.leaves rv58L := rfl
  rw [e]
  simp only [List.all_append, rvB_rv45, rvB_rv58, Bool.and_self]
theorem rvB_rv42 : (rv42T.leaves rv42L).all good_rvB = true := by
  have e : rv42T.leaves rv42L = rv43T.leaves rv43L ++ rv44T.leaves rv44L := rfl
  rw [e]
  simp only [List.all_append, rvB_rv43, rvB_rv44, Bool.and_self]
theorem rvB_rv41 : (rv41T.leaves rv41L).all good_rvB = true := by
  have e : rv41T.leaves rv41L = rv42T.leaves rv42L ++ rv59T.leaves rv59L := rfl
  rw [e]
  simp only [List.all_append, rvB_rv42, rvB_rv59, Bool.and_self]
theorem rvB_rv23 : (rv23T.leaves rv23L).all good_rvB = true := by
  have e : rv23T.leaves rv23L = rv24T.leaves rv24L ++ rv41T.leaves rv41L := rfl
  rw [e]
  simp only [List.all_append, rvB_rv24, rvB_rv41, Bool.and_self]
theorem rvB_rv13 : (rv13T.leaves rv13L).all good_rvB = true := by
  have e : rv13T.leaves rv13L = rv14T.leaves rv14L ++ rv23T.leaves rv23L := rfl
  rw [e]
  simp only [List.all_append, rvB_rv14, rvB_rv23, Bool.and_self]
theorem rvB_rv11 : (rv11T.leaves rv11L).all good_rvB = true := by
  have e : rv11T.leaves rv11L = rv12T.leaves rv12L ++ rv13T.leaves rv13L := rfl
  rw [e]
  simp only [List.all_append, rvB_rv12, rvB_rv13, Bool.and_self]
theorem rvB_rv67 : (rv67T.leaves rv67L).all good_rvB = true := by
  have e : rv67T.leaves rv67L = rv68T.leaves rv68L ++ rv69T.leaves rv69L := rfl
  rw [e]
  simp only [List.all_append, rvB_rv68, rvB_rv69, Bool.and_self]
theorem rvB_rv65 : (rv65T.leaves rv65L).all good_rvB = true := by
  have e : rv65T.leaves rv65L = rv66T.leaves rv66L ++ rv67T.leaves rv67L := rfl
  rw [e]
  simp only [List.all_append, rvB_rv66, rvB_rv67, Bool.and_self]
theorem rvB_rv64 : (rv64T.leaves rv64L).all good_rvB = true := by
  have e : rv64T.leaves rv64L = rv65T.leaves rv65L ++ rv70T.leaves rv70L := rfl
  rw [e]
  simp only [List.all_append, rvB_rv65, rvB_rv70, Bool.and_self]
theorem rvB_rv81 : (rv81T.leaves rv81L).all good_rvB = true := by
  have e : rv81T.leaves rv81L = rv82T.leaves rv82L ++ rv83T.leaves rv83L := rfl
  rw [e]
  simp only [List.all_append, rvB_rv82, rvB_rv83, Bool.and_self]
theorem rvB_rv79 : (rv79T.leaves rv79L).all good_rvB = true := by
  have e : rv79T.leaves rv79L = rv80T.leaves rv80L ++ rv81T.leaves rv81L := rfl
  rw [e]
  simp only [List.all_append, rvB_rv80, rvB_rv81, Bool.and_self]
theorem rvB_rv78 : (rv78T.leaves rv78L).all good_rvB = true := by
  have e : rv78T.leaves rv78L = rv79T.leaves rv79L ++ rv84T.leaves rv84L := rfl
  rw [e]
  simp only [List.all_append, rvB_rv79, rvB_rv84, Bool.and_self]
theorem rvB_rv77 : (rv77T.leaves rv77L).all good_rvB = true := by
  have e : rv77T.leaves rv77L = rv78T.leaves rv78L ++ rv85T.leaves rv85L := rfl
  rw [e]
  simp only [List.all_append, rvB_rv78, rvB_rv85, Bool.and_self]
theorem rvB_rv75 : (rv75T.leaves rv75L).all good_rvB = true := by
  have e : rv75T.leaves rv75L = rv76T.leaves rv76L ++ rv77T.leaves rv77L := rfl
  rw [e]
  simp only [List.all_append, rvB_rv76, rvB_rv77, Bool.and_self]
theorem rvB_rv74 : (rv74T.leaves rv74L).all good_rvB = true := by
  have e : rv74T.leaves rv74L = rv75T.leaves rv75L ++ rv86T.leaves rv86L := rfl
  rw [e]
  simp only [List.all_append, rvB_rv75, rvB_rv86, Bool.and_self]
theorem rvB_rv72 : (rv72T.leaves rv72L).all good_rvB = true := by
  have e : rv72T.leaves rv72L = rv73T.leaves rv73L ++ rv74T.leaves rv74L := rfl
  rw [e]
  simp only [List.all_append, rvB_rv73, rvB_rv74, Bool.and_self]
theorem rvB_rv97 : (rv97T.leaves rv97L).all good_rvB = true := by
  have e : rv97T.leaves rv97L = rv98T.leaves rv98L ++ rv99T.leaves rv99L := rfl
  rw [e]
  simp only [List.all_append, rvB_rv98, rvB_rv99, Bool.and_self]
theorem rvB_rv95 : (rv95T.leaves rv95L).all good_rvB = true := by
  have e : rv95T.leaves rv95L = rv96T.leaves rv96L ++ rv97T.leaves rv97L := rfl
  rw [e]
  simp only [List.all_append, rvB_rv96, rvB_rv97, Bool.and_self]
theorem rvB_rv94 : (rv94T.leaves rv94L).all good_rvB = true := by
  have e : rv94T.leaves rv94L = rv95T.leaves rv95L ++ rv100T.leaves rv100L := rfl
  rw [e]
  simp only [List.all_append, rvB_rv95, rvB_rv100, Bool.and_self]
theorem rvB_rv93 : (rv93T.leaves rv93L).all good_rvB = true := by
  have e : rv93T.leaves rv93L = rv94T.leaves rv94L ++ rv101T.leaves rv101L := rfl
  rw [e]
  simp only [List.all_append, rvB_rv94, rvB_rv101, Bool.and_self]
theorem rvB_rv91 : (rv91T.leaves rv91L).all good_rvB = true := by
  have e : rv91T.leaves rv91L = rv92T.leaves rv92L ++ rv93T.leaves rv93L := rfl
  rw [e]
  simp only [List.all_append, rvB_rv92, rvB_rv93, Bool.and_self]
theorem rvB_rv90 : (rv90T.leaves rv90L).all good_rvB = true := by
  have e : rv90T.leaves rv90L = rv91T.leaves rv91L ++ rv102T.leaves rv102L := rfl
  rw [e]
  simp only [List.all_append, rvB_rv91, rvB_rv102, Bool.and_self]
theorem rvB_rv88 : (rv88T.leaves rv88L).all good_rvB = true := by
  have e : rv88T.leaves rv88L = rv89T.leaves rv89L ++ rv90T.leaves rv90L := rfl
  rw [e]
  simp only [List.all_append, rvB_rv89, rvB_rv90, Bool.and_self]
theorem rvB_rv87 : (rv87T.leaves rv87L).all good_rvB = true := by
  have e : rv87T.leaves rv87L = rv88T.leaves rv88L ++ rv103T.leaves rv103L := rfl
  rw [e]
  simp only [List.all_append, rvB_rv88, rvB_rv103, Bool.and_self]
theorem rvB_rv71 : (rv71T.leaves rv71L).all good_rvB = true := by
  have e : rv71T.leaves rv71L = rv72T.leaves rv72L ++ rv87T.leaves rv87L := rfl
  rw [e]
  simp only [List.all_append, rvB_rv72, rvB_rv87, Bool.and_self]
theorem rvB_rv63 : (rv63T.leaves rv63L).all good_rvB = true := by
  have e : rv63T.leaves rv63L = rv64T.leaves rv64L ++ rv71T.leaves rv71L := rfl
  rw [e]
  simp only [List.all_append, rvB_rv64, rvB_rv71, Bool.and_self]
theorem rvB_rv61 : (rv61T.leaves rv61L).all good_rvB = true := by
  have e : rv61T.leaves rv61L = rv62T.leaves rv62L ++ rv63T.leaves rv63L := rfl
  rw [e]
  simp only [List.all_append, rvB_rv62, rvB_rv63, Bool.and_self]
theorem rvB_rv104 : (rv104T.leaves rv104L).all good_rvB = true := by
  have e : rv104T.leaves rv104L = rv105T.leaves rv105L ++ rv106T.leaves rv106L := rfl
  rw [e]
  simp only [List.all_append, rvB_rv105, rvB_rv106, Bool.and_self]
theorem rvB_rv60 : (rv60T.leaves rv60L).all good_rvB = true := by
  have e : rv60T.leaves rv60L = rv61T.leaves rv61L ++ rv104T.leaves rv104L := rfl
  rw [e]
  simp only [List.all_append, rvB_rv61, rvB_rv104, Bool.and_self]
theorem rvB_rv10 : (rv10T.leaves rv10L).all good_rvB = true := by
  have e : rv10T.leaves rv10L = rv11T.leaves rv11L ++ rv60T.leaves rv60L := rfl
  rw [e]
  simp only [List.all_append, rvB_rv11, rvB_rv60, Bool.and_self]
theorem rvB_rv2 : (rv2T.leaves rv2L).all good_rvB = true := by
  have e : rv2T.leaves rv2L = rv3T.leaves rv3L ++ rv10T.leaves rv10L := rfl
  rw [e]
  simp only [List.all_append, rvB_rv3, rvB_rv10, Bool.and_self]
theorem rvB_rv0 : (rv0T.leaves rv0L).all good_rvB = true := by
  have e : rv0T.leaves rv0L = rv1T.leaves rv1L ++ rv2T.leaves rv2L := rfl
  rw [e]
  simp only [List.all_append, rvB_rv1, rvB_rv2, Bool.and_self]
theorem rvB_tests : Tests Tryz.prog anyW 100 kRv (okRvE 0) v8 := tests_any m8_ok (fun L => low4 (L.know (strsT 0 kRv))) (fun _ {_ _} h k => sound_low4 (baseN default (Lf.ok h k))) (sp := rv0T) rvB_rv0
noncomputable def good_rvC (L : Lf) : Bool := testsAt (okRvE 0) mB kRv L (@runs (L.know (strsT 0 kRv)) (tyOf Tryz.prog) (fnOf Tryz.prog) (low4 (L.know (strsT 0 kRv))) 30 15 112 [.g ((cellsT 0 kRv).map L.nS)] ⟨[], 0⟩ 0)
theorem rvC_rv1 : (rv1T.leaves rv1L).all good_rvC = true := by kernel_rfl
theorem rvC_rv4 : (rv4T.leaves rv4L).all good_rvC = true := by kernel_rfl
theorem rvC_rv6 : (rv6T.leaves rv6L).all good_rvC = true := by kernel_rfl
theorem rvC_rv8 : (rv8T.leaves rv8L).all good_rvC = true := by kernel_rfl
theorem rvC_rv9 : (rv9T.leaves rv9L).all good_rvC = true := by kernel_rfl
theorem rvC_rv12 : (rv12T.leaves rv12L).all good_rvC = true := by kernel_rfl
theorem rvC_rv16 : (rv16T.leaves rv16L).all good_rvC = true := by kernel_rfl
theorem rvC_rv18 : (rv18T.leaves rv18L).all good_rvC = true := by kernel_rfl
theorem rvC_rv20 : (rv20T.leaves rv20L).all good_rvC = true := by kernel_rfl
theorem rvC_rv21 : (rv21T.leaves rv21L).all good_rvC = true := by kernel_rfl
theorem rvC_rv22 : (rv22T.leaves rv22L).all good_rvC = true := by kernel_rfl
theorem rvC_rv25 : (rv25T.leaves rv25L).all good_rvC = true := by kernel_rfl
theorem rvC_rv28 : (rv28T.leaves rv28L).all good_rvC = true := by kernel_rfl
theorem rvC_rv32 : (rv32T.leaves rv32L).all good_rvC = true := by kernel_rfl
theorem rvC_rv34 : (rv34T.leaves rv34L).all good_rvC = true := by kernel_rfl
theorem rvC_rv36 : (rv36T.leaves rv36L).all good_rvC = true := by kernel_rfl
theorem rvC_rv37 : (rv37T.leaves rv37L).all good_rvC = true := by kernel_rfl
theorem rvC_rv38 : (rv38T.leaves rv38L).all good_rvC = true := by kernel_rfl
theorem rvC_rv39 : (rv39T.leaves rv39L).all good_rvC = true := by kernel_rfl
theorem rvC_rv40 : (rv40T.leaves rv40L).all good_rvC = true := by kernel_rfl
theorem rvC_rv43 : (rv43T.leaves rv43L).all good_rvC = true := by kernel_rfl
theorem rvC_rv46 : (rv46T.leaves rv46L).all good_rvC = true := by kernel_rfl
theorem rvC_rv50 : (rv50T.leaves rv50L).all good_rvC = true := by kernel_rfl
theorem rvC_rv52 : (rv52T.leaves rv52L).all good_rvC = true := by kernel_rfl
theorem rvC_rv54 : (rv54T.leaves rv54L).all good_rvC = true := by kernel_rfl
theorem rvC_rv55 : (rv55T.leaves rv55L).all good_rvC = true := by kernel_rfl
theorem rvC_rv56 : (rv56T.leaves rv56L).all good_rvC = true := by kernel_rfl
theorem rvC_rv57 : (rv57T.leaves rv57L).all good_rvC = true := by kernel_rfl
theorem rvC_rv58 : (rv58T.leaves rv58L).all good_rvC = true := by kernel_rfl
theorem rvC_rv59 : (rv59T.leaves rv59L).all good_rvC = true := by kernel_rfl
theorem rvC_rv62 : (rv62T.leaves rv62L).all good_rvC = true := by kernel_rfl
theorem rvC_rv66 : (rv66T.leaves rv66L).all good_rvC = true := by kernel_rfl
theorem rvC_rv68 : (rv68T.leaves rv68L).all good_rvC = true := by kernel_rfl
theorem rvC_rv69 : (rv69T.leaves rv69L).all good_rvC = true := by kernel_rfl
theorem rvC_rv70 : (rv70T.leaves rv70L).all good_rvC = true := by kernel_rfl
theorem rvC_rv73 : (rv73T.leaves rv73L).all good_rvC = true := by kernel_rfl
theorem rvC_rv76 : (rv76T.leaves rv76L).all good_rvC = true := by kernel_rfl
theorem rvC_rv80 : (rv80T.leaves rv80L).all good_rvC = true := by kernel_rfl
theorem rvC_rv82 : (rv82T.leaves rv82L).all good_rvC = true := by kernel_rfl
theorem rvC_rv83 : (rv83T.leaves rv83L).all good_rvC = true := by kernel_rfl
theorem rvC_rv84 : (rv84T.leaves rv84L).all good_rvC = true := by kernel_rfl
theorem rvC_rv85 : (rv85T.leaves rv85L).all good_rvC = true := by kernel_rfl
theorem rvC_rv86 : (rv86T.leaves rv86L).all good_rvC = true := by kernel_rfl
theorem rvC_rv89 : (rv89T.leaves rv89L).all good_rvC = true := by kernel_rfl
theorem rvC_rv92 : (rv92T.leaves rv92L).all good_rvC = true := by kernel_rfl
theorem rvC_rv96 : (rv96T.leaves rv96L).all good_rvC = true := by kernel_rfl
theorem rvC_rv98 : (rv98T.leaves rv98L).all good_rvC = true := by kernel_rfl
theorem rvC_rv99 : (rv99T.leaves rv99L).all good_rvC = true := by kernel_rfl
theorem rvC_rv100 : (rv100T.leaves rv100L).all good_rvC = true := by kernel_rfl
theorem rvC_rv101 : (rv101T.leaves rv101L).all good_rvC = true := by kernel_rfl
theorem rvC_rv102 : (rv102T.leaves rv102L).all good_rvC = true := by kernel_rfl
theorem rvC_rv103 : (rv103T.leaves rv103L).all good_rvC = true := by kernel_rfl
theorem rvC_rv105 : (rv105T.leaves rv105L).all good_rvC = true := by kernel_rfl
theorem rvC_rv106 : (rv106T.leaves rv106L).all good_rvC = true := by kernel_rfl
theorem rvC_rv7 : (rv7T.leaves rv7L).all good_rvC = true := by
  have e : rv7T.leaves rv7L = rv8T.leaves rv8L ++ rv9T.leaves rv9L := rfl
  rw [e]
  simp only [List.all_append, rvC_rv8, rvC_rv9, Bool.and_self]
theorem rvC_rv5 : (rv5T.leaves rv5L).all good_rvC = true := by
  have e : rv5T.leaves rv5L = rv6T.leaves rv6L ++ rv7T.leaves rv7L := rfl
  rw [e]
  simp only [List.all_append, rvC_rv6, rvC_rv7, Bool.and_self]
theorem rvC_rv3 : (rv3T.leaves rv3L).all good_rvC = true := by
  have e : rv3T.leaves rv3L = rv4T.leaves rv4L ++ rv5T.leaves rv5L := rfl
  rw [e]
  simp only [List.all_append, rvC_rv4, rvC_rv5, Bool.and_self]
theorem rvC_rv19 : (rv19T.leaves rv19L).all good_rvC = true := by
  have e : rv19T.leaves rv19L = rv20T.leaves rv20L ++ rv21T.leaves rv21L := rfl
  rw [e]
  simp only [List.all_append, rvC_rv20, rvC_rv21, Bool.and_self]
theorem rvC_rv17 : (rv17T.leaves rv17L).all good_rvC = true := by
  have e : rv17T.leaves rv17L = rv18T.leaves rv18L ++ rv19T.leaves rv19L := rfl
  rw [e]
  simp only [List.all_append, rvC_rv18, rvC_rv19, Bool.and_self]
theorem rvC_rv15 : (rv15T.leaves rv15L).all good_rvC = true := by
  have e : rv15T.leaves rv15L = rv16T.leaves rv16L ++ rv17T.leaves rv17L := rfl
  rw [e]
  simp only [List.all_append, rvC_rv16, rvC_rv17, Bool.and_self]
theorem rvC_rv14 : (rv14T.leaves rv14L).all good_rvC = true := by
  have e : rv14T.leaves rv14L = rv15T.leaves rv15L ++ rv22T.leaves rv22L := rfl
  rw [e]
  simp only [List.all_append, rvC_rv15, rvC_rv22, Bool.and_self]
theorem rvC_rv35 : (rv35T.leaves rv35L).all good_rvC = true := by
  have e : rv35T.leaves rv35L = rv36T.leaves rv36L ++ rv37T.leaves rv37L := rfl
  rw [e]
  simp only [List.all_append, rvC_rv36, rvC_rv37, Bool.and_self]
theorem rvC_rv33 : (rv33T.leaves rv33L).all good_rvC = true := by
  have e : rv33T.leaves rv33L = rv34T.leaves rv34L ++ rv35T.leaves rv35L := rfl
  rw [e]
  simp only [List.all_append, rvC_rv34, rvC_rv35, Bool.and_self]
theorem rvC_rv31 : (rv31T.leaves rv31L).all good_rvC = true := by
  have e : rv31T.leaves rv31L = rv32T.leaves rv32L ++ rv33T.leaves rv33L := rfl
  rw [e]
  simp only [List.all_append, rvC_rv32, rvC_rv33, Bool.and_self]
theorem rvC_rv30 : (rv30T.leaves rv30L).all good_rvC = true := by
  have e : rv30T.leaves rv30L = rv31T.leaves rv31L ++ rv38T.leaves rv38L := rfl
  rw [e]
  simp only [List.all_append, rvC_rv31, rvC_rv38, Bool.and_self]
theorem rvC_rv29 : (rv29T.leaves rv29L).all good_rvC = true := by
  have e : rv29T.leaves rv29L = rv30T.leaves rv30L ++ rv39T.leaves rv39L := rfl
  rw [e]
  simp only [List.all_append, rvC_rv30, rvC_rv39, Bool.and_self]
theorem rvC_rv27 : (rv27T.leaves rv27L).all good_rvC = true := by
  have e : rv27T.leaves rv27L = rv28T.leaves rv28L ++ rv29T.leaves rv29L := rfl
  rw [e]
  simp only [List.all_append, rvC_rv28, rvC_rv29, Bool.and_self]
theorem rvC_rv26 : (rv26T.leaves rv26L).all good_rvC = true := by
  have e : rv26T.leaves rv26L = rv27T.leaves rv27L ++ rv40T.leaves rv40L := rfl
  rw [e]
  simp only [List.all_append, rvC_rv27, rvC_rv40, Bool.and_self]
theorem rvC_rv24 : (rv24T.leaves rv24L).all good_rvC = true := by
  have e : rv24T.leaves rv24L = rv25T.leaves rv25L ++ rv26T.leaves rv26L := rfl
  rw [e]
  simp only [List.all_append, rvC_rv25, rvC_rv26, Bool.and_self]
theorem rvC_rv53 : (rv53T.leaves rv53L).all good_rvC = true := by
  have e : rv53T.leaves rv53L = rv54T.leaves rv54L ++ rv55T.leaves rv55L := rfl
  rw [e]
  simp only [List.all_append, rvC_rv54, rvC_rv55, Bool.and_self]
theorem rvC_rv51 : (rv51T.leaves rv51L).all good_rvC = true := by
  have e : rv51T.leaves rv51L = rv52T.leaves rv52L ++ rv53T.leaves rv53L := rfl
  rw [e]
  simp only [List.all_append, rvC_rv52, rvC_rv53, Bool.and_self]
theorem rvC_rv49 : (rv49T.leaves rv49L).all good_rvC = true := by
  have e : rv49T.leaves rv49L = rv50T.leaves rv50L ++ rv51T.leaves rv51L := rfl
  rw [e]
  simp only [List.all_append, rvC_rv50, rvC_rv51, Bool.and_self]
theorem rvC_rv48 : (rv48T.leaves rv48L).all good_rvC = true := by
  have e : rv48T.leaves rv48L = rv49T.leaves rv49L ++ rv56T.leaves rv56L := rfl
  rw [e]
  simp only [List.all_append, rvC_rv49, rvC_rv56, Bool.and_self]
theorem rvC_rv47 : (rv47T.leaves rv47L).all good_rvC = true := by
  have e : rv47T.leaves rv47L = rv48T.leaves rv48L ++ rv57T.leaves rv57L := rfl
  rw [e]
  simp only [List.all_append, rvC_rv48, rvC_rv57, Bool.and_self]
theorem rvC_rv45 : (rv45T.leaves rv45L).all good_rvC = true := by
  have e : rv45T.leaves rv45L = rv46T.leaves rv46L ++ rv47T.leaves rv47L := rfl
  rw [e]
  simp only [List.all_append, rvC_rv46, rvC_rv47, Bool.and_self]
theorem rvC_rv44 : (rv44T.leaves rv44L).all good_rvC = true := by
  have e : rv44T.leaves rv44L = rv45T.leaves rv45L ++ rv58T.leaves rv58L := rfl
  rw [e]
  simp only [List.all_append, rvC_rv45, rvC_rv58, Bool.and_self]
theorem rvC_rv42 : (rv42T.leaves rv42L).all good_rvC = true := by
  have e : rv42T.leaves rv42L = rv43T.leaves rv43L ++ rv44T.leaves rv44L := rfl
  rw [e]
  simp only [List.all_append, rvC_rv43, rvC_rv44, Bool.and_self]
theorem rvC_rv41 : (rv41T.leaves rv41L).all good_rvC = true := by
  have e : rv41T.leaves rv41L = rv42T.leaves rv42L ++ rv59T.leaves rv59L := rfl
  rw [e]
  simp only [List.all_append, rvC_rv42, rvC_rv59, Bool.and_self]
theorem rvC_rv23 : (rv23T.leaves rv23L).all good_rvC = true := by
  have e : rv23T.leaves rv23L = rv24T.leaves rv24L ++ rv41T.leaves rv41L := rfl
  rw [e]
  simp only [List.all_append, rvC_rv24, rvC_rv41, Bool.and_self]
theorem rvC_rv13 : (rv13T.leaves rv13L).all good_rvC = true := by
  have e : rv13T.leaves rv13L = rv14T.leaves rv14L ++ rv23T.leaves rv23L := rfl
  rw [e]
  simp only [List.all_append, rvC_rv14, rvC_rv23, Bool.and_self]
theorem rvC_rv11 : (rv11T.leaves rv11L).all good_rvC = true := by
  have e : rv11T.leaves rv11L = rv12T.leaves rv12L ++ rv13T.leaves rv13L := rfl
  rw [e]
  simp only [List.all_append, rvC_rv12, rvC_rv13, Bool.and_self]
theorem rvC_rv67 : (rv67T.leaves rv67L).all good_rvC = true := by
  have e : rv67T.leaves rv67L = rv68T.leaves rv68L ++ rv69T.leaves rv69L := rfl
  rw [e]
  simp only [List.all_append, rvC_rv68, rvC_rv69, Bool.and_self]
theorem rvC_rv65 : (rv65T.leaves rv65L).all good_rvC = true := by
  have e : rv65T.leaves rv65L = rv66T.leaves rv66L ++ rv67T.leaves rv67L := rfl
  rw [e]
  simp only [List.all_append, rvC_rv66, rvC_rv67, Bool.and_self]
theorem rvC_rv64 : (rv64T.leaves rv64L).all good_rvC = true := by
  have e : rv64T.leaves rv64L = rv65T.leaves rv65L ++ rv70T.leaves rv70L := rfl
  rw [e]
  simp only [List.all_append, rvC_rv65, rvC_rv70, Bool.and_self]
theorem rvC_rv81 : (rv81T.leaves rv81L).all good_rvC = true := by
  have e : rv81T.leaves rv81L = rv82T.leaves rv82L ++ rv83T.leaves rv83L := rfl
  rw [e]
  simp only [List.all_append, rvC_rv82, rvC_rv83, Bool.and_self]
theorem rvC_rv79 : (rv79T.leaves rv79L).all good_rvC = true := by
  have e : rv79T.leaves rv79L = rv80T.leaves rv80L ++ rv81T.leaves rv81L := rfl
  rw [e]
  simp only [List.all_append, rvC_rv80, rvC_rv81, Bool.and_self]
theorem rvC_rv78 : (rv78T.leaves rv78L).all good_rvC = true := by
  have e : rv78T.leaves rv78L = rv79T.leaves rv79L ++ rv84T.leaves rv84L := rfl
  rw [e]
  simp only [List.all_append, rvC_rv79, rvC_rv84, Bool.and_self]
theorem rvC_rv77 : (rv77T.leaves rv77L).all good_rvC = true := by
  have e : rv77T.leaves rv77L = rv78T.leaves rv78L ++ rv85T.leaves rv85L := rfl
  rw [e]
  simp only [List.all_append, rvC_rv78, rvC_rv85, Bool.and_self]
theorem rvC_rv75 : (rv75T.leaves rv75L).all good_rvC = true := by
  have e : rv75T.leaves rv75L = rv76T.leaves rv76L ++ rv77T.leaves rv77L := rfl
  rw [e]
  simp only [List.all_append, rvC_rv76, rvC_rv77, Bool.and_self]
theorem rvC_rv74 : (rv74T.leaves rv74L).all good_rvC = true := by
  have e : rv74T.leaves rv74L = rv75T.leaves rv75L ++ rv86T.leaves rv86L := rfl
  rw [e]
  simp only [List.all_append, rvC_rv75, rvC_rv86, Bool.and_self]
theorem rvC_rv72 : (rv72T.leaves rv72L).all good_rvC = true := by
  have e : rv72T.leaves rv72L = rv73T.leaves rv73L ++ rv74T.leaves rv74L := rfl
  rw [e]
  simp only [List.all_append, rvC_rv73, rvC_rv74, Bool.and_self]
theorem rvC_rv97 : (rv97T.leaves rv97L).all good_rvC = true := by
  have e : rv97T.leaves rv97L = rv98T.leaves rv98L ++ rv99T.leaves rv99L := rfl
  rw [e]
  simp only [List.all_append, rvC_rv98, rvC_rv99, Bool.and_self]
theorem rvC_rv95 : (rv95T.leaves rv95L).all good_rvC = true := by
  have e : rv95T.leaves rv95L = rv96T.leaves rv96L ++ rv97T.leaves rv97L := rfl
  rw [e]
  simp only [List.all_append, rvC_rv96, rvC_rv97, Bool.and_self]
theorem rvC_rv94 : (rv94T.leaves rv94L).all good_rvC = true := by
  have e : rv94T.leaves rv94L = rv95T.leaves rv95L ++ rv100T.leaves rv100L := rfl
  rw [e]
  simp only [List.all_append, rvC_rv95, rvC_rv100, Bool.and_self]
theorem rvC_rv93 : (rv93T.leaves rv93L).all good_rvC = true := by
  have e : rv93T.leaves rv93L = rv94T.leaves rv94L ++ rv101T.leaves rv101L := rfl
  rw [e]
  simp only [List.all_append, rvC_rv94, rvC_rv101, Bool.and_self]
theorem rvC_rv91 : (rv91T.leaves rv91L).all good_rvC = true := by
  have e : rv91T.leaves rv91L = rv92T.leaves rv92L ++ rv93T.leaves rv93L := rfl
  rw [e]
  simp only [List.all_append, rvC_rv92, rvC_rv93, Bool.and_self]
theorem rvC_rv90 : (rv90T.leaves rv90L).all good_rvC = true := by
  have e : rv90T.leaves rv90L = rv91T.leaves rv91L ++ rv102T.leaves rv102L := rfl
  rw [e]
  simp only [List.all_append, rvC_rv91, rvC_rv102, Bool.and_self]
theorem rvC_rv88 : (rv88T.leaves rv88L).all good_rvC = true := by
  have e : rv88T.leaves rv88L = rv89T.leaves rv89L ++ rv90T.leaves rv90L := rfl
  rw [e]
  simp only [List.all_append, rvC_rv89, rvC_rv90, Bool.and_self]
theorem rvC_rv87 : (rv87T.leaves rv87L).all good_rvC = true := by
  have e : rv87T.leaves rv87L = rv88T.leaves rv88L ++ rv103T.leaves rv103L := rfl
  rw [e]
  simp only [List.all_append, rvC_rv88, rvC_rv103, Bool.and_self]
theorem rvC_rv71 : (rv71T.leaves rv71L).all good_rvC = true := by
  have e : rv71T.leaves rv71L = rv72T.leaves rv72L ++ rv87T.leaves rv87L := rfl
  rw [e]
  simp only [List.all_append, rvC_rv72, rvC_rv87, Bool.and_self]
theorem rvC_rv63 : (rv63T.leaves rv63L).all good_rvC = true := by
  have e : rv63T.leaves rv63L = rv64T.leaves rv64L ++ rv71T.leaves rv71L := rfl
  rw [e]
  simp only [List.all_append, rvC_rv64, rvC_rv71, Bool.and_self]
theorem rvC_rv61 : (rv61T.leaves rv61L).all good_rvC = true := by
  have e : rv61T.leaves rv61L = rv62T.leaves rv62L ++ rv63T.leaves rv63L := rfl
  rw [e]
  simp only [List.all_append, rvC_rv62, rvC_rv63, Bool.and_self]
theorem rvC_rv104 : (rv104T.leaves rv104L).all good_rvC = true := by
  have e : rv104T.leaves rv104L = rv105T.leaves rv105L ++ rv106T.leaves rv106L := rfl
  rw [e]
  simp only [List.all_append, rvC_rv105, rvC_rv106, Bool.and_self]
theorem rvC_rv60 : (rv60T.leaves rv60L).all good_rvC = true := by
  have e : rv60T.leaves rv60L = rv61T.leaves rv61L ++ rv104T.leaves rv104L := rfl
  rw [e]
  simp only [List.all_append, rvC_rv61, rvC_rv104, Bool.and_self]
theorem rvC_rv10 : (rv10T.leaves rv10L).all good_rvC = true := by
  have e : rv10T.leaves rv10L = rv11T.leaves rv11L ++ rv60T.leaves rv60L := rfl
  rw [e]
  simp only [List.all_append, rvC_rv11, rvC_rv60, Bool.and_self]
theorem rvC_rv2 : (rv2T.leaves rv2L).all good_rvC = true := by
  have e : rv2T.leaves rv2L = rv3T.leaves rv3L ++ rv10T.leaves rv10L := rfl
  rw [e]
  simp only [List.all_append, rvC_rv3, rvC_rv10, Bool.and_self]
theorem rvC_rv0 : (rv0T.leaves rv0L).all good_rvC = true := by
  have e : rv0T.leaves rv0L = rv1T.leaves rv1L ++ rv2T.leaves rv2L := rfl
  rw [e]
  simp only [List.all_append, rvC_rv1, rvC_rv2, Bool.and_self]
theorem rvC_tests : Tests Tryz.prog anyW 112 kRv (okRvE 0) .bool := tests_any mB_ok (fun L => low4 (L.know (strsT 0 kRv))) (fun _ {_ _} h k => sound_low4 (baseN default (Lf.ok h k))) (sp := rv0T) rvC_rv0
noncomputable def valid4 (K : Know) : Oracle := fun f a h fl => orR (tO 94 kPl (okPlE 0) m8 K f a h fl) ( orR (tO 99 kPl (okPlE 0) m8 K f a h fl) ( orR (tO 96 kOp (okOpE 0) m8 K f a h fl) ( orR (tO 101 kOp (okOpE 0) m8 K f a h fl) ( orR (tO 95 kRv (okRvE 0) m8 K f a h fl) ( orR (tO 100 kRv (okRvE 0) m8 K f a h fl) (tO 112 kRv (okRvE 0) mB K f a h fl))))))
theorem sound_valid4 (b : Base) : @Sound b Tryz.prog (valid4 b.toKnow) := @sound_or b _ _ _ (sound_t8 b ⟨_, Tryz.func94, by kernel_rfl, by kernel_rfl⟩ plA_tests) ( @sound_or b _ _ _ (sound_t8 b ⟨_, Tryz.func99, by kernel_rfl, by kernel_rfl⟩ plB_tests) ( @sound_or b _ _ _ (sound_t8 b ⟨_, Tryz.func96, by kernel_rfl, by kernel_rfl⟩ opA_tests) ( @sound_or b _ _ _ (sound_t8 b ⟨_, Tryz.func101, by kernel_rfl, by kernel_rfl⟩ opB_tests) ( @sound_or b _ _ _ (sound_t8 b ⟨_, Tryz.func95, by kernel_rfl, by kernel_rfl⟩ rvA_tests) ( @sound_or b _ _ _ (sound_t8 b ⟨_, Tryz.func100, by kernel_rfl, by kernel_rfl⟩ rvB_tests) (sound_tB b ⟨_, Tryz.func112, by kernel_rfl, by kernel_rfl⟩ rvC_tests))))))
end Go.Proofs.YthdcahkedlijpaaGreat.Am
