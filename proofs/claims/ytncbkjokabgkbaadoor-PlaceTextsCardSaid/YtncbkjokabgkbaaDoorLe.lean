/- strconv.Atoi as an oracle of the machine; and what it asks of the package variables. -/
import Derived.Test.YtncbkjokabgkbaaDoorLb
namespace Go.Proofs.YtncbkjokabgkbaaDoor.Am
open Go.RowKit

structure ErrOk (w : World) : Prop where
  size : 3 ≤ w.heap.size
  syn : ∃ t p, w.cell? ⟨1, 0, none⟩ = some (.iface t p)
  rng : ∃ t p, w.cell? ⟨2, 0, none⟩ = some (.iface t p)
noncomputable def atoiG (args : List A) : Option V := match args with
  | [.s (.str s)] => bif Nat.ble s.length 281474976710656 then (match Lib.atoiAll s with
    | .ok v => some (.t [.s (.int .i64 v), .s .nili])
    | .range => some (.t [.s (.int .i64 (Lib.atoiSat s)), .s .ifc])
    | _ => some (.t [.s (.int .i64 0), .s .ifc])) else none
  | _ => none
noncomputable def atoiO : Oracle := pureO 63 atoiG
/-- .. and back -/
noncomputable def bothO : Oracle := fun f a h fl => orR (numO f a h fl) (atoiO f a h fl)

section
variable {w0 : World} {K : Know} {rho : Nat → Int} {sig : Nat → List UInt8} (ok : KnowOk K rho sig)
theorem sound_atoi (k : ErrOk w0) : @Sound (base0 w0 ok) Tryd.prog atoiO := by
  letI : Base := base0 w0 ok
  refine sound_pure ⟨_, Tryd.func63, by kernel_rfl, by kernel_rfl⟩ fun args v hg r vs ha w hw => ?_
  unfold atoiG at hg
  split at hg
  · rename_i s
    obtain ⟨u, rfl, hu⟩ := all2_one ha
    cases hu
    cases hi : Nat.ble s.length 281474976710656 with
    | false => rw [hi] at hg; cases hg
    | true =>
      rw [hi] at hg
      have hs : (⟨s.toArray⟩ : ByteArray).size ≤ 281474976710656 := by
        show s.toArray.size ≤ _
        simpa using Nat.le_of_ble_eq_true hi
      simp only [cond_true] at hg
      obtain ⟨t1, p1, c1⟩ := k.syn
      obtain ⟨t2, p2, c2⟩ := k.rng
      rw [← cell0 hw _ _ (by decide)] at c1 c2
      split at hg <;> rename_i hv <;> cases hg
      · refine (Tryd.strconv_Atoi_ok ⟨s.toArray⟩ (by omega) _ (by simpa using hv) w).mono fun e w' ⟨e1, e2⟩ => ⟨_, e1, ⟨_, rfl, rfl, rfl, trivial⟩, ?_⟩
        rcases e2 with rfl | ⟨t, rfl⟩
        · exact Below.refl _ _
        · exact ⟨rfl, rfl, rfl, by rw [Lib.bytesWorld_size]; omega, fun k hk => Lib.bytesWorld_at_old w 5 t k (by omega)⟩
      · exact (Tryd.strconv_Atoi_range ⟨s.toArray⟩ hs (by simpa using hv) _ w c2 (.inr ⟨_, _, rfl⟩)).mono fun e w' ⟨N, e1, _, _, e2⟩ => ⟨_, e1, ⟨_, rfl, by simp [VA, VS], ⟨_, _, rfl⟩, trivial⟩, e2⟩
      · refine (Tryd.strconv_Atoi_syntax ⟨s.toArray⟩ hs ?_ _ w c1 (.inr ⟨_, _, rfl⟩)).mono fun e w' ⟨N, e1, _, _, e2⟩ => ⟨_, e1, ⟨_, rfl, rfl, ⟨_, _, rfl⟩, trivial⟩, e2⟩
        show noNum (Lib.atoiAll s.toArray.toList) = true
        rw [show s.toArray.toList = s by simp]
        cases hx : Lib.atoiAll s with
        | ok v => exact absurd hx (by intro e; simp_all)
        | range => exact absurd hx (by intro e; simp_all)
        | _ => rfl
  · cases hg

theorem sound_both (k : TabOk w0) (h : ErrOk w0) : @Sound (base0 w0 ok) Tryd.prog bothO := @sound_or (base0 w0 ok) _ _ _ (sound_num ok k) (sound_atoi ok h)
end
end Go.Proofs.YtncbkjokabgkbaaDoor.Am
