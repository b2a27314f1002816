/- The walks of the signed numbers' functions. -/
import Derived.Test.YthkeghhbgbbfdaaNumRef
import Derived.Test.YthkeghhbgbbfdaaNumPut
namespace Go.Proofs.Ythkeghhbgbbfdaa
open Go.RowKit

theorem get_range (xs : List Int) (p : Int) (hx : ∀ c ∈ xs, 0 ≤ c ∧ c < 256) : 0 ≤ (Num.get xs p).1 ∧ (Num.get xs p).1 ≤ 18446744073709551615 ∧ 0 ≤ (Num.get xs p).2.1 ∧
    ((Num.get xs p).2.2 = 0 ∧ 0 ≤ p ∧ (Num.get xs p).2.1 ≤ xs.length ∨ (Num.get xs p).1 = 0 ∧ (Num.get xs p).2.1 = 0 ∧ ((Num.get xs p).2.2 = 2 ∨ (Num.get xs p).2.2 = 12 ∨ (Num.get xs p).2.2 = 24)) := by
  unfold Num.get
  split
  · simp
  · rename_i hp
    split
    · rename_i h0
      obtain ⟨a1, a2, a3, a4, _, _⟩ := Num.getL_ok (xs.drop p.toNat) 0 (by omega) (fun c hc => hx c (List.mem_of_mem_drop hc)) h0
      have hl : (xs.drop p.toNat).length = xs.length - p.toNat := List.length_drop
      simp only [Int.pow_zero, Int.mul_one] at a4
      refine ⟨a3, by omega, by simp only; omega, Or.inl ⟨rfl, by omega, by simp only; omega⟩⟩
    · rename_i h0
      have := Num.getL_codes (xs.drop p.toNat) 0
      exact ⟨by simp, by simp, by simp, Or.inr ⟨rfl, rfl, by simp only; omega⟩⟩

set_option maxHeartbeats 400000 in
theorem fold_any (x : Int) (w : World) (h0 : -9223372036854775808 ≤ x) (h1 : x ≤ 9223372036854775807) :
    Calls Try.prog 24 #[.int .i64 x] w fun e w' => e = .returned (.int .u64 (Num.fold x)) ∧ w = w' := by
  rcases Int.lt_or_le x 0 with h | h
  · have HF := Lib.hid (show Num.fold x = -(x + 1) * 2 + 1 by unfold Num.fold; rw [if_neg (by omega)]; omega)
    go_enter Try.func24, Try.ntmps24
    go_wp2
    go_ret
    refine ⟨ret_int ?_, rfl⟩
    rw [HF.out]
    omega
  · have HF := Lib.hid (show Num.fold x = 2 * x by unfold Num.fold; rw [if_pos h])
    go_enter Try.func24, Try.ntmps24
    go_wp2
    go_ret
    exact ⟨ret_int HF.out.symm, rfl⟩

set_option maxHeartbeats 400000 in
theorem back_any (n : Int) (w : World) (h0 : 0 ≤ n) (h1 : n ≤ 18446744073709551615) :
    Calls Try.prog 23 #[.int .u64 n] w fun e w' => e = .returned (.int .i64 (Num.back n)) ∧ w = w' := by
  rcases Bool.eq_false_or_eq_true (n % 2 == 0) with h | h
  · have HF := Lib.hid (show Num.back n = n / 2 by unfold Num.back; rw [if_pos (by simpa using h)])
    go_enter Try.func23, Try.ntmps23
    go_wp2
    go_ret
    exact ⟨ret_int HF.out.symm, rfl⟩
  · have HF := Lib.hid (show Num.back n = -(n / 2) - 1 by unfold Num.back; rw [if_neg (by simpa using h)])
    go_enter Try.func23, Try.ntmps23
    go_wp2
    go_ret
    exact ⟨ret_int HF.out.symm, rfl⟩

/-- the bits of a signed number, folded -/
theorem fold_bits (x : Int) (h0 : -9223372036854775808 ≤ x) (h1 : x ≤ 9223372036854775807) :
    bits .xor .u64 (IntKind.u64.wrap (IntKind.u64.wrap x * 2)) (IntKind.u64.wrap (x / 9223372036854775808)) = Num.fold x := by
  have hf := Num.fold_range x h0 h1
  rcases Int.lt_or_le x 0 with h | h
  · have e1 : x / 9223372036854775808 = -1 := by omega
    have e2 : IntKind.u64.wrap (-1) = 18446744073709551615 := by rw [IntKind.wrap_u64]; rfl
    have e3 : IntKind.u64.wrap (IntKind.u64.wrap x * 2) = 2 * x + 18446744073709551616 := by rw [IntKind.wrap_u64, IntKind.wrap_u64]; omega
    rw [e1, e2, e3, u64_xor _ _ (by omega) (by omega) (by omega) (by omega)]
    have hn : Num.fold x = -2 * x - 1 := by unfold Num.fold; rw [if_neg (by omega)]
    rw [hn]
    have e4 : ∀ a : Nat, a < 18446744073709551616 → a ^^^ 18446744073709551615 = 18446744073709551615 - a := by
      intro a ha
      have h := BitVec.toNat_not (x := BitVec.ofNat 64 a)
      have hx : (~~~ BitVec.ofNat 64 a) = BitVec.ofNat 64 a ^^^ BitVec.allOnes 64 := BitVec.xor_allOnes.symm
      rw [hx, BitVec.toNat_xor, BitVec.toNat_ofNat, Nat.mod_eq_of_lt (by omega)] at h
      simpa using h
    have e5 := e4 (2 * x + 18446744073709551616).toNat (by omega)
    have e6 : ((18446744073709551615 : Int)).toNat = 18446744073709551615 := rfl
    rw [e6, e5]
    omega
  · have e1 : x / 9223372036854775808 = 0 := by omega
    have e2 : IntKind.u64.wrap 0 = 0 := rfl
    have e3 : IntKind.u64.wrap (IntKind.u64.wrap x * 2) = 2 * x := by rw [IntKind.wrap_u64, IntKind.wrap_u64]; omega
    rw [e1, e2, e3, u64_xor _ _ (by omega) (by omega) (by omega) (by omega)]
    have hn : Num.fold x = 2 * x := by unfold Num.fold; rw [if_pos h]
    rw [hn]
    simp
    omega

set_option maxHeartbeats 400000 in
theorem putSigned_any (x : Int) (w : World) (h0 : -9223372036854775808 ≤ x) (h1 : x ≤ 9223372036854775807) :
    Calls Try.prog 19 #[.int .i64 x] w fun e w' =>
      ∃ v, e = .returned v ∧ w'.ownsRow w.heap.size 5 1 v (Num.put (Num.fold x)).length ((Num.put (Num.fold x)).map (Value.int .u8)) ∧ Below w.heap.size w w' := by
  obtain ⟨hf0, hf1⟩ := Num.fold_range x h0 h1
  have hfb := fold_bits x h0 h1
  go_enter Try.func19, Try.ntmps19
  go_wp2_with (go_at_call 12; refine (put_any _ _ hf0 (by omega)).mono ?_; rintro e w' ⟨v, rfl, hown, hbel⟩)
  go_ret
  exact ⟨v, rfl, hown, hbel⟩

set_option maxHeartbeats 400000 in
theorem refPutSigned_any (x : Int) (w : World) (h0 : -9223372036854775808 ≤ x) (h1 : x ≤ 9223372036854775807) :
    Calls Try.prog 21 #[.int .i64 x] w fun e w' =>
      ∃ v, e = .returned v ∧ w'.ownsRow w.heap.size 5 1 v (Num.put (Num.fold x)).length ((Num.put (Num.fold x)).map (Value.int .u8)) ∧ Below w.heap.size w w' := by
  obtain ⟨hf0, hf1⟩ := Num.fold_range x h0 h1
  go_enter Try.func21, Try.ntmps21
  go_wp2_with (first | (go_at_call 24; refine (fold_any _ _ h0 h1).mono ?_; rintro e w' ⟨rfl, rfl⟩) | (go_at_call 13; refine (refPut_any _ _ hf0 (by omega)).mono ?_; rintro e w' ⟨v, rfl, hown, hbel⟩))
  go_ret
  exact ⟨v, rfl, hown, hbel⟩

set_option maxHeartbeats 400000 in
theorem refGetSigned_any (A : Option Addr) (cap B : Nat) (xs : List Int) (p : Int) (w : World) (hr : Row w B .u8 A xs) (hx : ∀ c ∈ xs, 0 ≤ c ∧ c < 256) (hmax : xs.length ≤ 4611686018427387904)
    (hp1 : p ≤ 9223372036854775807) :
    Calls Try.prog 20 #[.slice A xs.length cap, .int .i64 p] w fun e w' =>
      e = .returned (.tuple #[.int .i64 (Num.back (Num.get xs p).1), .int .i64 (Num.get xs p).2.1, .int .i64 (Num.get xs p).2.2]) ∧ w = w' := by
  have HC := Lib.hid (refGet_any A cap B xs p w hr hx hmax hp1)
  obtain ⟨g0, g1, g2, g3⟩ := get_range xs p hx
  clear hx hr
  generalize Num.get xs p = r at *
  obtain ⟨n, next, err⟩ := r
  simp only at g0 g1 g2 g3
  rcases Bool.eq_false_or_eq_true (err != 0) with he | he
  · have h1 : err ≠ 0 := by simpa using he
    obtain ⟨rfl, rfl, _⟩ := g3.resolve_left (fun h => h1 h.1)
    clear h1 g3
    go_enter Try.func20, Try.ntmps20
    go_wp2_with (go_at_call 11; refine HC.out.mono ?_; rintro e w' ⟨rfl, rfl⟩)
    go_ret3
    exact ⟨rfl, rfl⟩
  · have h1 : err = 0 := by simpa using he
    subst h1
    clear g3 he
    go_enter Try.func20, Try.ntmps20
    go_wp2_with (first | (go_at_call 11; refine HC.out.mono ?_; rintro e w' ⟨rfl, rfl⟩) | (go_at_call 23; refine (back_any _ _ g0 g1).mono ?_; rintro e w' ⟨rfl, rfl⟩))
    go_ret3
    exact ⟨rfl, rfl⟩

theorem i64_ofInt (a : Int) (h0 : 0 ≤ a) (h1 : a ≤ 9223372036854775807) : (BitVec.ofInt 64 a).toNat = a.toNat := by
  obtain ⟨k, rfl⟩ := Int.eq_ofNat_of_zero_le h0
  rw [BitVec.ofInt_natCast, BitVec.toNat_ofNat]
  have : k % 2 ^ 64 = k := Nat.mod_eq_of_lt (by omega)
  rw [this, Int.toNat_natCast]
theorem i64_xor_zero (a : Int) (h0 : 0 ≤ a) (h1 : a ≤ 9223372036854775807) : bits .xor .i64 a 0 = a := by
  show IntKind.i64.wrap ((BitVec.ofInt 64 a ^^^ BitVec.ofInt 64 0).toNat : Int) = _
  have e : BitVec.ofInt 64 a ^^^ BitVec.ofInt 64 0 = BitVec.ofInt 64 a := by simp
  rw [e, i64_ofInt a h0 h1, IntWalk.i64_in _ (by omega)]
  omega
theorem i64_xor_ones (a : Int) (h0 : 0 ≤ a) (h1 : a ≤ 9223372036854775807) : bits .xor .i64 a (-1) = -a - 1 := by
  show IntKind.i64.wrap ((BitVec.ofInt 64 a ^^^ BitVec.ofInt 64 (-1)).toNat : Int) = _
  have e1 : BitVec.ofInt 64 (-1) = BitVec.allOnes 64 := by decide
  rw [e1, BitVec.xor_allOnes, BitVec.toNat_not, i64_ofInt a h0 h1, IntKind.wrap_i64]
  omega
theorem back_bits (n : Int) (h0 : 0 ≤ n) (h1 : n ≤ 18446744073709551615) : bits .xor .i64 (n / 2) (wrap64 (-wrap64 (bits .and .u64 n 1))) = Num.back n := by
  have e : bits .and .u64 n 1 = n % 2 := by
    rw [u64_and n 1 h0 (by omega) (by omega) (by omega)]
    have : n.toNat &&& (1 : Int).toNat = n.toNat % 2 := nat_mask1 _
    rw [this]
    omega
  rw [e]
  rcases Int.emod_two_eq n with h | h
  · have e2 : wrap64 (-wrap64 (n % 2)) = 0 := by rw [h]; simp only [wrap64]; omega
    rw [e2, i64_xor_zero _ (by omega) (by omega), Num.back, if_pos h]
  · have e2 : wrap64 (-wrap64 (n % 2)) = -1 := by rw [h]; simp only [wrap64]; omega
    rw [e2, i64_xor_ones _ (by omega) (by omega), Num.back, if_neg (by omega)]

set_option maxHeartbeats 400000 in
theorem getSigned_any (A : Option Addr) (cap B : Nat) (xs : List Int) (p : Int) (w : World) (hr : Row w B .u8 A xs) (hx : ∀ c ∈ xs, 0 ≤ c ∧ c < 256) (hcap : xs.length ≤ cap) (hmax : xs.length ≤ 4611686018427387904)
    (hp0 : -9223372036854775808 ≤ p) (hp1 : p ≤ 9223372036854775807) :
    Calls Try.prog 16 #[.slice A xs.length cap, .int .i64 p] w fun e w' =>
      e = .returned (.tuple #[.int .i64 (Num.back (Num.get xs p).1), .int .i64 (Num.get xs p).2.1, .int .i64 (Num.get xs p).2.2]) ∧ w = w' := by
  have HC := Lib.hid (get_any A cap B xs p w hr hx hcap hmax hp0 hp1)
  obtain ⟨g0, g1, g2, g3⟩ := get_range xs p hx
  clear hx hr
  generalize Num.get xs p = r at *
  obtain ⟨n, next, err⟩ := r
  simp only at g0 g1 g2 g3
  have HB := Lib.hid (back_bits n g0 g1)
  go_enter Try.func16, Try.ntmps16
  go_wp2_with (go_at_call 10; refine HC.out.mono ?_; rintro e w' ⟨rfl, rfl⟩)
  go_ret3
  exact ⟨by rw [HB.out]; rfl, rfl⟩

end Go.Proofs.Ythkeghhbgbbfdaa
