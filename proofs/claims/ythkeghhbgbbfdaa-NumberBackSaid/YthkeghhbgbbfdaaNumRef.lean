/- The walk of the reference's Get. -/
import Derived.Test.YthkeghhbgbbfdaaNumGet
namespace Go.Proofs.Ythkeghhbgbbfdaa
open Go.RowKit

theorem pow_le (i : Nat) (hi : i ≤ 9) : (1 : Int) ≤ 128 ^ i ∧ (128 : Int) ^ i ≤ 9223372036854775808 ∧ (i ≤ 8 → (128 : Int) ^ i * 128 ≤ 9223372036854775808) := by
  have h : ∀ m : Fin 10, (1 : Int) ≤ 128 ^ m.val ∧ (128 : Int) ^ m.val ≤ 9223372036854775808 ∧ (m.val ≤ 8 → (128 : Int) ^ m.val * 128 ≤ 9223372036854775808) := by decide +kernel
  exact h ⟨i, by omega⟩

theorem ref_bits (x c : Int) (i : Nat) (hi : i ≤ 9) (hx0 : 0 ≤ x) (hx : x < 128 ^ i) (hc0 : 0 ≤ c) (hc : c < 128) (h9 : i = 9 → c ≤ 1) :
    0 ≤ c * 128 ^ i ∧ c * 128 ^ i ≤ 18446744073709551615 ∧ 0 ≤ x + c * 128 ^ i ∧ x + c * 128 ^ i < 128 ^ (i + 1) ∧ x + c * 128 ^ i ≤ 18446744073709551615 := by
  obtain ⟨_, h1, h2, h3⟩ := get_bits x c i hi hx0 hx hc0 hc h9
  have : 0 ≤ c * (128 : Int) ^ i := Int.mul_nonneg hc0 (by have := pow_le i hi; omega)
  exact ⟨this, by omega, h1, h2, h3⟩

set_option maxHeartbeats 800000 in
theorem refGet_any (A : Option Addr) (cap B : Nat) (xs : List Int) (p : Int) (w : World) (hr : Row w B .u8 A xs) (hx : ∀ c ∈ xs, 0 ≤ c ∧ c < 256) (hmax : xs.length ≤ 4611686018427387904)
    (hp1 : p ≤ 9223372036854775807) :
    Calls Try.prog 11 #[.slice A xs.length cap, .int .i64 p] w fun e w' =>
      e = .returned (.tuple #[.int .u64 (Num.get xs p).1, .int .i64 (Num.get xs p).2.1, .int .i64 (Num.get xs p).2.2]) ∧ w = w' := by
  rcases Int.lt_or_le p 0 with hneg | hpos
  · have HG := Lib.hid (show Num.get xs p = (0, 0, 2) by rw [Num.get, if_pos hneg])
    go_enter Try.func11, Try.ntmps11
    go_wp2
    go_ret3
    exact ⟨by rw [HG.out]; rfl, rfl⟩
  · obtain ⟨q, rfl⟩ := Int.eq_ofNat_of_zero_le hpos
    have HX := Lib.hid hx
    clear hx
    have h11 : decide ((q : Int) < 0) = false := by simp
    go_enter Try.func11, Try.ntmps11
    go_wp2
    go_loop [1, 7, 8, 9] (fun s1 s7 s8 s9 => ∃ (i : Nat) (x P : Int), s9 = .int .i64 i ∧ s7 = .int .u64 x ∧ s8 = .int .u64 P ∧ s1 = .int .i64 (q + i) ∧ Hid (P = 128 ^ i) ∧ i ≤ 9 ∧ (0 < i → q + i ≤ xs.length) ∧ 0 ≤ x ∧ Hid (x < 128 ^ i) ∧
        Hid (Num.getL 0 (xs.drop q) = join i x (Num.getL i (xs.drop (q + i))))) (fun _ _ _ s9 => 10 - (intOf s9).toNat)
    case atStart => exact ⟨0, 0, 1, rfl, rfl, rfl, by simp, by simp [Hid], by omega, by omega, by omega, by simp [Hid], (join_zero _ (Num.getL_err _ _)).symm⟩
    case round =>
      obtain ⟨i, x, P, rfl, rfl, rfl, rfl, HP, hi9, hi, hx0, HX1, HJ⟩ := hrel
      have hil : (i : Int) < 10 := by omega
      by_cases hlt : q + i < xs.length
      · obtain ⟨b, off, rfl, hbB, hcells⟩ := hr (by omega)
        have hcell : w.cell? ⟨b, off + (q + i), none⟩ = some (.int .u8 (xs.getD (q + i) 0)) := hcells _ hlt
        have hmem : xs.getD (q + i) 0 ∈ xs := by
          have : xs.getD (q + i) 0 = xs[q + i] := by simp [List.getD, List.getElem?_eq_getElem hlt]
          rw [this]; exact List.getElem_mem hlt
        have hc := HX.out _ hmem
        have HD := Lib.hid (show xs.drop (q + i) = xs.getD (q + i) 0 :: xs.drop (q + (i + 1)) by
          rw [List.drop_eq_getElem_cons hlt]
          congr 1
          simp [List.getD, List.getElem?_eq_getElem hlt])
        obtain ⟨hc0, hc1⟩ := hc
        clear hcells hmem
        generalize xs.getD (q + i) 0 = c at *
        have hst : HeadEnd xs q i x c := ⟨HD.out, HJ.out⟩
        clear HX HD HJ
        have hnl : ¬ (xs.length : Int) ≤ (q : Int) + (i : Int) := by omega
        obtain ⟨hP1, hP2, hP3⟩ := pow_le i hi9
        rw [← HP.out] at hP1 hP2 hP3
        by_cases h91 : i = 9 ∧ 1 < c
        · have HG := Lib.hid (hst.form (.inl h91))
          have hi9' : ((i : Int) == 9) = true := by simp; omega
          have h1c : 1 < c := h91.2
          clear h91
          go_wp2
          go_ret3
          exact ⟨by rw [HG.out]; rfl, rfl⟩
        · rcases Int.lt_or_le c 128 with hc2 | hc2
          · have hbit := ref_bits x c i hi9 hx0 HX1.out hc0 hc2 (by omega)
            rw [← HP.out] at hbit
            have hmod : c % 128 = c := by omega
            obtain ⟨hb1, hb2, hb3, _, hb4⟩ := hbit
            have h9c : ((i : Int) == 9) = true → c ≤ 1 := fun h => by have : (i : Int) = 9 := by simpa using h
                                                                      omega
            by_cases hz : c = 0 ∧ 0 < i
            · have HG := Lib.hid (hst.form (.inr hz))
              have hcz : (c == 0) = true := by simp; omega
              have hi0 : (0 : Int) < (i : Int) := by omega
              clear hz h91 HX1
              rcases Bool.eq_false_or_eq_true ((i : Int) == 9) with hi9' | hi9'
              · have := h9c hi9'
                clear h9c
                go_wp2
                go_ret3
                exact ⟨by rw [HG.out]; rfl, rfl⟩
              · clear h9c
                go_wp2
                go_ret3
                exact ⟨by rw [HG.out]; rfl, rfl⟩
            · have HG := Lib.hid (hst.last (by omega) hc2)
              rw [← HP.out] at HG
              rcases Bool.eq_false_or_eq_true ((i : Int) == 9) with hi9' | hi9' <;> rcases Bool.eq_false_or_eq_true (c == 0) with hcz | hcz
              · have h0 : c = 0 := by simpa using hcz
                have h1 : (i : Int) = 9 := by simpa using hi9'
                omega
              · have := h9c hi9'
                clear h9c hz h91
                go_wp2
                go_ret3
                exact ⟨by rw [HG.out]; rfl, rfl⟩
              · have h0 : c = 0 := by simpa using hcz
                have hi0 : ¬ (0 : Int) < (i : Int) := by omega
                clear h9c hz h91 h0
                go_wp2
                go_ret3
                exact ⟨by rw [HG.out]; rfl, rfl⟩
              · clear h9c hz h91
                go_wp2
                go_ret3
                exact ⟨by rw [HG.out]; rfl, rfl⟩
          · have hi8 : i ≤ 8 := by omega
            have HM := Lib.hid (hst.more (by omega) hc2)
            obtain ⟨hb1, hb2, hb3, HB4, hb4⟩ := ref_bits x (c % 128) i hi9 hx0 HX1.out (by omega) (by omega) (by omega)
            have HB4 := Lib.hid HB4
            rw [← HP.out] at hb1 hb2 hb3 hb4 HM
            have hi9' : ((i : Int) == 9) = false := by simp; omega
            have hP4 := hP3 hi8
            have HQ := Lib.hid (show P * 128 = (128 : Int) ^ (i + 1) by rw [HP.out, Int.pow_succ])
            rw [← HP.out] at HB4
            clear h91 hP3
            go_wp2
            go_round
            case rel => exact ⟨i + 1, x + c % 128 * P, P * 128, by go_num, rfl, rfl, by go_num, HQ, by omega, by omega, hb3, HB4, HM⟩
            case measure => simp [intOf]; omega
      · have e : xs.drop (q + i) = [] := List.drop_eq_nil_of_le (by omega)
        have HG := Lib.hid (show Num.get xs (q : Int) = (0, 0, 24) by
          rw [Num.get, if_neg (by omega), Int.toNat_natCast, HJ.out, e]
          rfl)
        have hin : (xs.length : Int) ≤ (q : Int) + (i : Int) := by omega
        clear e
        go_wp2
        go_ret3
        exact ⟨by rw [HG.out]; rfl, rfl⟩

end Go.Proofs.Ythkeghhbgbbfdaa
