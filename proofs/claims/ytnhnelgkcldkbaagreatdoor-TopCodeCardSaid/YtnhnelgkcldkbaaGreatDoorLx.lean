/- Numbers that are not written out, as digits: strconv.Itoa, strconv.FormatInt, and the reference's Digits, as oracles of the machine. -/
import Derived.Test.YtnhnelgkcldkbaaGreatDoorLb
import Derived.Test.YtnhnelgkcldkbaaGreatDoorDigits
namespace Go.Proofs.YtnhnelgkcldkbaaGreatDoor.Am
open Go.RowKit

def isI64 (k : Option Kd) : Bool := match k with | some (.i .i64) => true | _ => false
noncomputable def itoaXG (ks : List Kd) (args : List A) : Option V := match args with
  | [.s (.xi .i64 i)] => bif isI64 (nth ks i) then some (.a (.s (.xs [256 + i]))) else none
  | _ => none
noncomputable def fmtXG (ks : List Kd) (args : List A) : Option V := match args with
  | [.s (.xi .i64 i), .s (.int .i64 b)] => bif isI64 (nth ks i) && b == 10 then some (.a (.s (.xs [256 + i]))) else none
  | _ => none
noncomputable def itoaXO (ks : List Kd) : Oracle := pureO 68 (itoaXG ks)
noncomputable def fmtXO (ks : List Kd) : Oracle := pureO 175 (fmtXG ks)
theorem isI64_ok {ks : List Kd} {i : Nat} (h : isI64 (nth ks i) = true) : nth ks i = some (.i .i64) := by
  unfold isI64 at h
  split at h
  · assumption
  · cases h
section
variable {w0 : World} {K : Know} {rho : Nat → Int} {sig : Nat → List UInt8} (ok : KnowOk K rho sig) {ks : List Kd}
theorem sound_itoaX (d : Dec ks rho sig) (k : TabOk w0) : @Sound (base0 w0 ok) Tryz.prog (itoaXO ks) := by
  letI : Base := base0 w0 ok
  refine sound_pure ⟨_, Tryz.func68, by kernel_rfl, by kernel_rfl⟩ fun args v hg r vs ha w hw => ?_
  unfold itoaXG at hg
  split at hg
  · rename_i i
    obtain ⟨u, rfl, hu⟩ := all2_one ha
    cases hu
    cases hi : isI64 (nth ks i) <;> rw [hi] at hg <;> cases hg
    obtain ⟨e, h0, h1⟩ := d i (isI64_ok hi)
    refine (Tryz.strconv_Itoa (rho i) h0 h1 w (k.here hw)).mono fun e' w' ⟨e1, n', os, e2⟩ => ⟨_, e1, ?_, ?_⟩
    · show _ = _
      rw [strX_one, show Base.sig i = decT (rho i) from e]
      exact congrArg (fun l : List UInt8 => Value.string ⟨l.toArray⟩) (itoaK_eq (rho i) h0 h1).symm
    · rw [e2]; exact Lib.below_grow _ _ (Nat.le_refl _) _ _
  · cases hg
theorem sound_fmtX (d : Dec ks rho sig) (k : TabOk w0) : @Sound (base0 w0 ok) Tryz.prog (fmtXO ks) := by
  letI : Base := base0 w0 ok
  refine sound_pure ⟨_, Tryz.func175, by kernel_rfl, by kernel_rfl⟩ fun args v hg r vs ha w hw => ?_
  unfold fmtXG at hg
  split at hg
  · rename_i i b
    obtain ⟨u, u', rfl, hu, hu'⟩ := all2_two ha
    cases hu
    cases hu'
    cases hi : (isI64 (nth ks i) && b == 10) <;> rw [hi] at hg <;> cases hg
    simp only [Bool.and_eq_true, beq_iff_eq] at hi
    obtain ⟨hi, rfl⟩ := hi
    obtain ⟨e, h0, h1⟩ := d i (isI64_ok hi)
    refine (Tryz.strconv_FormatInt_10 (rho i) h0 h1 w (k.here hw)).mono fun e' w' ⟨e1, n', os, e2⟩ => ⟨_, e1, ?_, ?_⟩
    · show _ = _
      rw [strX_one, show Base.sig i = decT (rho i) from e]
      exact congrArg (fun l : List UInt8 => Value.string ⟨l.toArray⟩) (itoaK_eq (rho i) h0 h1).symm
    · rw [e2]; exact Lib.below_grow _ _ (Nat.le_refl _) _ _
  · cases hg
/-- numbers to digits, written out or not -/
noncomputable def numXO (ks : List Kd) : Oracle := fun f a h fl => orR (numO f a h fl) (orR (itoaXO ks f a h fl) (fmtXO ks f a h fl))
theorem sound_numX (d : Dec ks rho sig) (k : TabOk w0) : @Sound (base0 w0 ok) Tryz.prog (numXO ks) :=
  @sound_or (base0 w0 ok) _ _ _ (sound_num ok k) (@sound_or (base0 w0 ok) _ _ _ (sound_itoaX ok d k) (sound_fmtX ok d k))
end
end Go.Proofs.YtnhnelgkcldkbaaGreatDoor.Am
