/- The walk of NumberDigits. -/
import Derived.Test.YthkeghhbgbbfdaaNumOrder
namespace Go.Proofs.Ythkeghhbgbbfdaa
open Go.RowKit

theorem put_digit (n : Int) (i : Nat) (h0 : 0 ≤ n) (h1 : n ≤ 18446744073709551615) (hi : i < (Num.put n).length) :
    (Num.put n).getD i 0 % 128 = n / 128 ^ i % 128 ∧ (128 ≤ (Num.put n).getD i 0 ↔ i + 1 < (Num.put n).length) :=
  Num.putF_digit 10 n i h0 (by show _ < (128 : Int) ^ 11; omega) hi

set_option maxHeartbeats 800000 in
theorem digits_any (n : Int) (w : World) (h0 : 0 ≤ n) (h1 : n ≤ 18446744073709551615) :
    Calls Try.prog 6 #[.int .u64 n] w fun e w' => e = .returned (.bool true) ∧ Below w.heap.size w w' := by
  have hp1 := Num.put_pos n
  have hq10 := Num.put_le n (by omega)
  have hrange := Num.put_range n h0 (by omega)
  have HL := Lib.hid (show n / 128 ^ (Num.put n).length = 0 from Num.putF_left 10 n h0 (by show _ < (128 : Int) ^ 11; omega))
  have HE := Lib.hid (show (Num.put n).length = 1 ∨ (Num.put n).getD ((Num.put n).length - 1) 0 ≠ 0 from Num.putF_last 10 n h0)
  have HR := Lib.hid hrange
  clear hrange
  have hb1 : decide (((Num.put n).length : Int) < 1) = false := by simp; omega
  go_enter Try.func6, Try.ntmps6
  go_wp2_with fail
  refine (put_row w _ _ (Below.refl _ _) h0 h1).mono ?_
  rintro e w1 ⟨A1, cap1, rfl, hc1, hr1, hb1, hB1⟩
  have HRow := Lib.hid hr1
  obtain ⟨b, off, rfl, _, hcells⟩ := hr1 (by omega)
  have HC := Lib.hid hcells
  clear hcells
  go_wp2_with fail
  go_loop [4, 5, 6] (fun s4 s5 _ => ∃ (i : Nat) (q : Int), s5 = .int .i64 i ∧ s4 = .int .u64 q ∧ i ≤ (Num.put n).length ∧ 0 ≤ q ∧ q ≤ 18446744073709551615 ∧ Hid (q = n / 128 ^ i)) (fun _ s5 _ => (Num.put n).length - (intOf s5).toNat)
  case atStart => exact ⟨0, n, rfl, rfl, by omega, h0, h1, by simp [Hid]⟩
  case round =>
    obtain ⟨i, q, rfl, rfl, hi, hq0, hq1, HQ⟩ := hrel
    by_cases hlt : i < (Num.put n).length
    · obtain ⟨hd1, hd2⟩ := put_digit n i h0 h1 hlt
      rw [← HQ.out] at hd1
      have hmem : (Num.put n).getD i 0 ∈ Num.put n := by
        have : (Num.put n).getD i 0 = (Num.put n)[i] := by simp [List.getD, List.getElem?_eq_getElem hlt]
        rw [this]; exact List.getElem_mem hlt
      obtain ⟨hc0, hc1'⟩ := HR.out _ hmem
      have hcell := HC.out i hlt
      clear hmem
      generalize (Num.put n).getD i 0 = c at *
      have HD := Lib.hid hd1
      have HD2 := Lib.hid hd2
      clear hd1 hd2
      have heq : ((c % 128 : Int) != q % 128) = false := by rw [HD.out]; simp
      have hin : (i : Int) < ((Num.put n).length : Int) := by omega
      have hqq := Lib.hid (show q / 128 = n / 128 ^ (i + 1) by rw [HQ.out, Int.pow_succ, Int.ediv_ediv_of_nonneg (Int.le_of_lt (Int.pow_pos (by omega)))])
      by_cases hlast : i + 1 < (Num.put n).length
      · have h128 : decide (128 ≤ c) = true := by simpa using HD2.out.2 hlast
        have hil : decide ((i : Int) < ((Num.put n).length : Int) - 1) = true := by simp; omega
        go_wp2
        go_round
        case rel => exact ⟨i + 1, q / 128, by go_num, rfl, by omega, by omega, by omega, hqq⟩
        case measure => simp [intOf]; omega
      · have h128 : decide (128 ≤ c) = false := by
          have := fun h => hlast (HD2.out.1 h)
          simpa using this
        have hil : decide ((i : Int) < ((Num.put n).length : Int) - 1) = false := by simp; omega
        go_wp2
        go_round
        case rel => exact ⟨i + 1, q / 128, by go_num, rfl, by omega, by omega, by omega, hqq⟩
        case measure => simp [intOf]; omega
    · have hiL : i = (Num.put n).length := by omega
      have hq : q = 0 := by rw [HQ.out, hiL]; exact HL.out
      subst hq
      have hin : ¬ (i : Int) < ((Num.put n).length : Int) := by omega
      clear hiL
      rcases Nat.eq_or_lt_of_le hp1 with hone | hmore
      · have hl1 : (((Num.put n).length : Int) == 1) = true := by simp; omega
        clear hone
        go_wp2_with (go_at_call 15; refine (alive_from w _ hB1).mono ?_; rintro e w' ⟨rfl, hB3⟩)
        go_ret
        exact ⟨rfl, hB3⟩
      · have hl1 : (((Num.put n).length : Int) == 1) = false := by simp; omega
        have hcell := HC.out ((Num.put n).length - 1) (by omega)
        have hne := HE.out.resolve_left (by omega)
        have hne1 : ((Num.put n).getD ((Num.put n).length - 1) 0 != 0) = true := by simpa using hne
        clear hne
        generalize (Num.put n).getD ((Num.put n).length - 1) 0 = c at *
        go_wp2_with (go_at_call 15; refine (alive_from w _ hB1).mono ?_; rintro e w' ⟨rfl, hB3⟩)
        go_ret
        exact ⟨rfl, hB3⟩

end Go.Proofs.Ythkeghhbgbbfdaa
