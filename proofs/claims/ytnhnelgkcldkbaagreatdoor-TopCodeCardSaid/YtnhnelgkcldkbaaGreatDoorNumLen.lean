/- Length: how many bytes a number has. -/
import Derived.Test.YtnhnelgkcldkbaaGreatDoorNumPlain
import Derived.Test.YtnhnelgkcldkbaaGreatDoorRows
import Derived.Test.YtnhnelgkcldkbaaGreatDoorKit
import Derived.Test.YtnhnelgkcldkbaaGreatDoorShelfN
import Derived.Lib.BitFns
namespace Go.Proofs.YtnhnelgkcldkbaaGreatDoor
open Go.RowKit

theorem len_bits : ∀ (f : Nat) (n : Nat), n < 128 ^ (f + 1) → n < 18446744073709551616 → (Num.putF f n).length = max 1 ((Lib.bitLen n + 6) / 7)
  | 0, n, h, h64 => by
    have h7 : n < 128 := by simpa using h
    have : ∀ m : Fin 128, max 1 ((Lib.bitLen m.val + 6) / 7) = 1 := by decide +kernel
    simpa [Num.putF] using (this ⟨n, h7⟩).symm
  | f + 1, n, h, h64 => by
    rcases Nat.lt_or_ge n 128 with hn | hn
    · have : ∀ m : Fin 128, max 1 ((Lib.bitLen m.val + 6) / 7) = 1 := by decide +kernel
      rw [Num.putF_small _ _ (by omega)]
      simpa using (this ⟨n, hn⟩).symm
    · rw [Num.putF_big _ _ (by omega)]
      have hd : n / 128 < 128 ^ (f + 1) := by rw [Nat.pow_succ] at h; omega
      have ih := len_bits f (n / 128) hd (by omega)
      have hs := Lib.bitLen_shift 7 n (by omega) h64
      have e : ((n : Int) / 128) = ((n / 128 : Nat) : Int) := by omega
      rw [e, List.length_cons, ih, hs]
      have h1 : 1 ≤ Lib.bitLen (n / 2 ^ 7) := by
        rw [Lib.bitLen_half _ (by omega) (by omega)]; omega
      have e2 : n / 2 ^ 7 = n / 128 := rfl
      rw [e2] at h1 ⊢
      omega

theorem put_bits (n : Int) (h0 : 0 ≤ n) (h1 : n ≤ 18446744073709551615) : ((Num.put n).length : Int) = max 1 (((Lib.bitLen n.toNat : Int) + 6) / 7) := by
  obtain ⟨k, rfl⟩ := Int.eq_ofNat_of_zero_le h0
  have := len_bits 10 k (by have : (128 : Nat) ^ 11 = 151115727451828646838272 := by decide
                            omega) (by omega)
  unfold Num.put
  rw [this, Int.toNat_natCast]
  omega

theorem bitLen_le (n : Int) : Lib.bitLen n.toNat ≤ 64 := by
  have aux : ∀ f x, Lib.bitLenAux f x ≤ f := by
    intro f
    induction f with
    | zero => intro x; simp [Lib.bitLenAux]
    | succ f ih =>
      intro x
      unfold Lib.bitLenAux
      split
      · omega
      · have := ih (x / 2); omega
  exact aux 64 _

set_option maxHeartbeats 400000 in
theorem length_any (n : Int) (w : World) (h0 : 0 ≤ n) (h1 : n ≤ 18446744073709551615) :
    Calls Tryz.prog 87 #[.int .u64 n] w fun e w' => e = .returned (.int .i64 (Num.put n).length) ∧ w = w' := by
  have HP := Lib.hid (put_bits n h0 h1)
  have hl := bitLen_le n
  go_enter Tryz.func87, Tryz.ntmps87
  go_wp2_with (go_at_call 141; refine (Tryz.bits_Len64 _ _ h0 h1).mono ?_; rintro e w' ⟨rfl, rfl⟩)
  go_ret
  exact ⟨ret_int HP.out.symm, rfl⟩

end Go.Proofs.YtnhnelgkcldkbaaGreatDoor
