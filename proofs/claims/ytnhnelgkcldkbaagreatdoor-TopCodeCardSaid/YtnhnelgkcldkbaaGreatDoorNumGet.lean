/- The walk of number.Get. -/
import Derived.Test.YtnhnelgkcldkbaaGreatDoorNumPlain
import Derived.Test.YtnhnelgkcldkbaaGreatDoorRows
import Derived.Test.YtnhnelgkcldkbaaGreatDoorKit
namespace Go.Proofs.YtnhnelgkcldkbaaGreatDoor
open Go.RowKit

theorem u8_andNot127 (c : Int) (h0 : 0 ≤ c) (h1 : c < 256) : bits .andNot .u8 c 127 = if c < 128 then 0 else 128 := by
  rw [u8_andNot c 127 h0 h1 (by omega) (by omega)]
  have h : ∀ m : Fin 256, ((m.val &&& (255 - 127) : Nat) : Int) = if (m.val : Int) < 128 then 0 else 128 := by decide +kernel
  have := h ⟨c.toNat, by omega⟩
  simp only at this
  have e : ((c.toNat : Nat) : Int) = c := by omega
  rw [e] at this
  exact this
theorem u8_xor0 (c : Int) (h0 : 0 ≤ c) (h1 : c < 256) : bits .xor .u8 c 0 = c := by
  rw [u8_xor c 0 h0 h1 (by omega) (by omega)]
  simp
  omega
theorem u8_xor128 (c : Int) (h0 : 128 ≤ c) (h1 : c < 256) : bits .xor .u8 c 128 = c % 128 := by
  rw [u8_xor c 128 (by omega) h1 (by omega) (by omega)]
  have h : ∀ m : Fin 256, 128 ≤ m.val → ((m.val ^^^ 128 : Nat) : Int) = (m.val : Int) % 128 := by decide +kernel
  have := h ⟨c.toNat, by omega⟩ (by simp only; omega)
  simp only at this
  have e : ((c.toNat : Nat) : Int) = c := by omega
  rw [e] at this
  exact this

/-- what is read from byte i on, joined to what was read before -/
def join (i : Nat) (x : Int) (r : Int × Int × Int) : Int × Int × Int := if r.2.2 = 0 then (x + r.1 * 128 ^ i, i + r.2.1, 0) else (0, 0, r.2.2)

theorem get_bits (x c : Int) (i : Nat) (hi : i ≤ 9) (hx0 : 0 ≤ x) (hx : x < 128 ^ i) (hc0 : 0 ≤ c) (hc : c < 128) (h9 : i = 9 → c ≤ 1) :
    bits .or .u64 x (IntKind.u64.wrap (c * 2 ^ (7 * i))) = x + c * 128 ^ i ∧ 0 ≤ x + c * 128 ^ i ∧ x + c * 128 ^ i < 128 ^ (i + 1) ∧ x + c * 128 ^ i ≤ 18446744073709551615 := by
  have hp : (2 : Int) ^ (7 * i) = 128 ^ i := by
    rw [Int.pow_mul]
    rfl
  have hpos : (0 : Int) < 128 ^ i := Int.pow_pos (by omega)
  have hb : x + c * 128 ^ i ≤ 18446744073709551615 := by
    by_cases h : i = 9
    · subst h
      have hp9 : (128 : Int) ^ 9 = 9223372036854775808 := by decide
      rw [hp9] at hx ⊢
      have := h9 rfl
      omega
    · have hp9 : (128 : Int) ^ i * 128 ≤ 9223372036854775808 := by
        have e : (9223372036854775808 : Int) = 128 ^ (i + 1) * 128 ^ (8 - i) := by
          rw [← Int.pow_add]
          have : i + 1 + (8 - i) = 9 := by omega
          rw [this]
          decide
        rw [e, Int.pow_succ]
        have : (1 : Int) ≤ 128 ^ (8 - i) := (Int.pow_pos (by omega) : (0 : Int) < 128 ^ (8 - i))
        have h2 : (128 ^ i * 128) * (1 : Int) ≤ 128 ^ i * 128 * 128 ^ (8 - i) := Int.mul_le_mul_of_nonneg_left this (by omega)
        omega
      have : c * 128 ^ i ≤ 127 * 128 ^ i := Int.mul_le_mul_of_nonneg_right (by omega) (by omega)
      omega
  have hm0 : 0 ≤ c * 128 ^ i := Int.mul_nonneg hc0 (by omega)
  have hlt : x + c * 128 ^ i < 128 ^ (i + 1) := by
    rw [Int.pow_succ]
    have : c * 128 ^ i ≤ 127 * 128 ^ i := Int.mul_le_mul_of_nonneg_right (by omega) (by omega)
    omega
  refine ⟨?_, by omega, hlt, hb⟩
  rw [hp, IntWalk.u64_in _ (by omega), u64_or _ _ hx0 (by omega) hm0 (by omega)]
  have e : ∃ X C : Nat, x = X ∧ c = C := ⟨x.toNat, c.toNat, by omega, by omega⟩
  obtain ⟨X, C, rfl, rfl⟩ := e
  have hq : ((C : Int) * 128 ^ i) = ((C * 128 ^ i : Nat) : Int) := by simp
  rw [hq]
  simp only [Int.toNat_natCast]
  have hX : X < 2 ^ (7 * i) := by
    have : (X : Int) < ((128 ^ i : Nat) : Int) := by simpa using hx
    have h2 : (2 : Nat) ^ (7 * i) = 128 ^ i := by rw [Nat.pow_mul]
    rw [h2]
    omega
  have hj := nat_join (7 * i) (C * 128 ^ i) X (by
    have h2 : (2 : Nat) ^ (7 * i) = 128 ^ i := by rw [Nat.pow_mul]
    rw [h2]
    exact Nat.mul_mod_left _ _) hX
  rw [Nat.or_comm, hj]
  omega

theorem join_zero (r : Int × Int × Int) (h : r.2.2 ≠ 0 → r.1 = 0 ∧ r.2.1 = 0) : join 0 0 r = r := by
  unfold join
  split
  · obtain ⟨a, b, c⟩ := r
    simp at *
    omega
  · rename_i hc
    obtain ⟨a, b, c⟩ := r
    have := h hc
    simp at *
    omega

/-- where a round stands: the byte at hand, and what has been read -/
structure HeadEnd (xs : List Int) (q i : Nat) (x c : Int) : Prop where
  head : xs.drop (q + i) = c :: xs.drop (q + (i + 1))
  joined : Num.getL 0 (xs.drop q) = join i x (Num.getL i (xs.drop (q + i)))
theorem HeadEnd.form {xs : List Int} {q i : Nat} {x c : Int} (h : HeadEnd xs q i x c) (h1 : (i = 9 ∧ 1 < c) ∨ (c = 0 ∧ 0 < i)) : Num.get xs (q : Int) = (0, 0, 12) := by
  rw [Num.get, if_neg (by omega), Int.toNat_natCast, h.joined, h.head, Num.getL_form i c _ h1]
  rfl
theorem HeadEnd.last {xs : List Int} {q i : Nat} {x c : Int} (h : HeadEnd xs q i x c) (h1 : ¬ ((i = 9 ∧ 1 < c) ∨ (c = 0 ∧ 0 < i))) (h2 : c < 128) : Num.get xs (q : Int) = (x + c * 128 ^ i, (q : Int) + i + 1, 0) := by
  rw [Num.get, if_neg (by omega), Int.toNat_natCast, h.joined, h.head, Num.getL_last i c _ h1 h2]
  simp [join]
  omega
theorem HeadEnd.more {xs : List Int} {q i : Nat} {x c : Int} (h : HeadEnd xs q i x c) (h1 : ¬ ((i = 9 ∧ 1 < c) ∨ (c = 0 ∧ 0 < i))) (h2 : 128 ≤ c) :
    Num.getL 0 (xs.drop q) = join (i + 1) (x + c % 128 * 128 ^ i) (Num.getL (i + 1) (xs.drop (q + (i + 1)))) := by
  rw [h.joined, h.head, Num.getL_more i c _ h1 h2]
  by_cases h3 : (Num.getL (i + 1) (xs.drop (q + (i + 1)))).2.2 = 0
  · rw [if_pos h3]
    simp only [join, if_pos h3]
    simp only [Int.add_mul, Int.pow_succ, if_true, Prod.mk.injEq, and_true]
    refine ⟨?_, by omega⟩
    have : 128 * (Num.getL (i + 1) (xs.drop (q + (i + 1)))).1 * 128 ^ i = (Num.getL (i + 1) (xs.drop (q + (i + 1)))).1 * (128 ^ i * 128) := by
      rw [Int.mul_comm 128, Int.mul_assoc, Int.mul_comm 128]
    omega
  · rw [if_neg h3]
    simp only [join, if_neg h3]

set_option maxHeartbeats 400000 in
theorem get_any (A : Option Addr) (cap B : Nat) (xs : List Int) (p : Int) (w : World) (hr : Row w B .u8 A xs) (hx : ∀ c ∈ xs, 0 ≤ c ∧ c < 256) (hcap : xs.length ≤ cap) (hmax : xs.length ≤ 4611686018427387904)
    (hp0 : -9223372036854775808 ≤ p) (hp1 : p ≤ 9223372036854775807) :
    Calls Tryz.prog 39 #[.slice A xs.length cap, .int .i64 p] w fun e w' =>
      e = .returned (.tuple #[.int .u64 (Num.get xs p).1, .int .i64 (Num.get xs p).2.1, .int .i64 (Num.get xs p).2.2]) ∧ w = w' := by
  rcases Int.lt_or_le p 0 with hneg | hpos
  · have HG := Lib.hid (show Num.get xs p = (0, 0, 2) by rw [Num.get, if_pos hneg])
    go_enter Tryz.func39, Tryz.ntmps39
    go_wp2
    go_ret3
    exact ⟨by rw [HG.out]; rfl, rfl⟩
  rcases Int.lt_or_le (xs.length : Int) p with hbig | hle
  · have HG := Lib.hid (show Num.get xs p = (0, 0, 24) by
      rw [Num.get, if_neg (by omega), List.drop_eq_nil_of_le (by omega)]
      rfl)
    rcases Nat.eq_or_lt_of_le hcap with rfl | hcc
    all_goals
      go_enter Tryz.func39, Tryz.ntmps39
      go_wp2
      refine wp_loop_rounds 1 ?_
      rw [rounds_succ]
      go_wp2
      go_ret3
      exact ⟨by rw [HG.out]; rfl, rfl⟩
  rcases Int.lt_or_eq_of_le hle with hlt | heq
  · obtain ⟨q, rfl⟩ := Int.eq_ofNat_of_zero_le hpos
    have hq : q < xs.length := by omega
    obtain ⟨b, off, rfl, hbB, hcells⟩ := hr (by omega)
    have HC := Lib.hid hcells
    clear hcells hr
    have HX := Lib.hid hx
    clear hx
    have hcq : q < cap := by omega
    have h11 : decide ((q : Int) < 0) = false := by simp
    have h15 : decide (xs.length < q) = false := by simp; omega
    go_enter Tryz.func39, Tryz.ntmps39
    go_wp2
    go_loop [4, 22] (fun s4 s22 => ∃ (i : Nat) (x : Int), s22 = .int .i64 i ∧ s4 = .int .u64 x ∧ q + i ≤ xs.length ∧ i ≤ 9 ∧ 0 ≤ x ∧ x < 128 ^ i ∧
        Num.getL 0 (xs.drop q) = join i x (Num.getL i (xs.drop (q + i)))) (fun _ s22 => xs.length - (intOf s22).toNat)
    case atStart => exact ⟨0, 0, rfl, rfl, by omega, by omega, by omega, by simp, (join_zero _ (Num.getL_err _ _)).symm⟩
    case round =>
      obtain ⟨i, x, rfl, rfl, hi, hi9, hx0, hx1, hJ⟩ := hrel
      have HJ := Lib.hid hJ
      have HX1 := Lib.hid hx1
      clear hJ hx1
      by_cases hlt : q + i < xs.length
      · have hcell : w.cell? ⟨b, off + q + i, none⟩ = some (.int .u8 (xs.getD (q + i) 0)) := by rw [Nat.add_assoc]; exact HC.out _ hlt
        have hmem : xs.getD (q + i) 0 ∈ xs := by
          have : xs.getD (q + i) 0 = xs[q + i] := by simp [List.getD, List.getElem?_eq_getElem hlt]
          rw [this]; exact List.getElem_mem hlt
        have hc := HX.out _ hmem
        have HD := Lib.hid (show xs.drop (q + i) = xs.getD (q + i) 0 :: xs.drop (q + (i + 1)) by
          rw [List.drop_eq_getElem_cons hlt]
          congr 1
          simp [List.getD, List.getElem?_eq_getElem hlt])
        obtain ⟨hc0, hc1⟩ := hc
        generalize xs.getD (q + i) 0 = c at *
        have hin : (i : Int) < ((xs.length - q : Nat) : Int) := by omega
        have hst : HeadEnd xs q i x c := ⟨HD.out, HJ.out⟩
        clear HC HX HD HJ
        by_cases h1 : (i = 9 ∧ 1 < c) ∨ (c = 0 ∧ 0 < i)
        · have HG := Lib.hid (hst.form h1)
          rcases Int.lt_or_le 1 c with hc2 | hc2
          · have hi9' : ((i : Int) == 9) = true := by simp; omega
            go_wp2
            go_ret3
            exact ⟨by rw [HG.out]; rfl, rfl⟩
          · have hi0 : 0 < i := by omega
            have hc00 : c = 0 := by omega
            subst hc00
            have hb : bits .andNot .u8 0 127 = 0 := by rw [u8_andNot127 0 (by omega) (by omega)]; rfl
            rcases Bool.eq_false_or_eq_true ((i : Int) == 9) with hi9' | hi9'
            · go_wp2
              go_ret3
              exact ⟨by rw [HG.out]; rfl, rfl⟩
            · go_wp2
              go_ret3
              exact ⟨by rw [HG.out]; rfl, rfl⟩
        · rcases Int.lt_or_le c 128 with hc2 | hc2
          · have hbit := get_bits x c i hi9 hx0 HX1.out hc0 hc2 (by omega)
            obtain ⟨hb1, hb2, hb3, hb4⟩ := hbit
            have HG := Lib.hid (hst.last h1 hc2)
            have HB3 := Lib.hid hb3
            clear hb3
            have hb : bits .andNot .u8 c 127 = 0 := by rw [u8_andNot127 c (by omega) (by omega), if_pos hc2]
            have hxor : bits .xor .u8 c 0 = c := u8_xor0 c hc0 hc1
            have hz : c = 0 → (i : Int) ≤ 0 := by omega
            have h9 : (i : Int) = 9 → c ≤ 1 := by omega
            have HZ := Lib.hid hz
            have H9 := Lib.hid h9
            clear hz h9 h1
            rcases Bool.eq_false_or_eq_true ((i : Int) == 9) with hi9' | hi9' <;> rcases Bool.eq_false_or_eq_true (c == 0) with hcz | hcz
            · have : c = 0 := by simpa using hcz
              have := HZ.out this
              have : (i : Int) = 9 := by simpa using hi9'
              omega
            · have hc1' := H9.out (by simpa using hi9')
              go_wp2
              go_ret3
              exact ⟨by rw [HG.out]; rfl, rfl⟩
            · have hi0 := HZ.out (by simpa using hcz)
              go_wp2
              go_ret3
              exact ⟨by rw [HG.out]; rfl, rfl⟩
            · go_wp2
              go_ret3
              exact ⟨by rw [HG.out]; rfl, rfl⟩
          · have hi8 : i ≤ 8 := by omega
            have hbit := get_bits x (c % 128) i hi9 hx0 HX1.out (by omega) (by omega) (by omega)
            obtain ⟨hb1, hb2, hb3, hb4⟩ := hbit
            have HM := Lib.hid (hst.more h1 hc2)
            have HB3 := Lib.hid hb3
            clear hb3 h1
            have hb : bits .andNot .u8 c 127 = 128 := by rw [u8_andNot127 c (by omega) (by omega), if_neg (by omega)]
            have hxor : bits .xor .u8 c 128 = c % 128 := u8_xor128 c hc2 hc1
            have hi9' : ((i : Int) == 9) = false := by simp; omega
            go_wp2
            go_round
            case rel => exact ⟨i + 1, x + c % 128 * 128 ^ i, by go_num, rfl, by omega, by omega, hb2, HB3.out, HM.out⟩
            case measure => simp [intOf]; omega
      · have e : xs.drop (q + i) = [] := List.drop_eq_nil_of_le (by omega)
        have HG := Lib.hid (show Num.get xs (q : Int) = (0, 0, 24) by
          rw [Num.get, if_neg (by omega), Int.toNat_natCast, HJ.out, e]
          rfl)
        have hin : ¬ (i : Int) < ((xs.length - q : Nat) : Int) := by omega
        clear e
        go_wp2
        go_ret3
        exact ⟨by rw [HG.out]; rfl, rfl⟩
  · have HG := Lib.hid (show Num.get xs p = (0, 0, 24) by
      rw [Num.get, if_neg (by omega), List.drop_eq_nil_of_le (by omega)]
      rfl)
    subst heq
    rcases Nat.eq_or_lt_of_le hcap with rfl | hcc
    all_goals
      go_enter Tryz.func39, Tryz.ntmps39
      go_wp2
      refine wp_loop_rounds 1 ?_
      rw [rounds_succ]
      go_wp2
      go_ret3
      exact ⟨by rw [HG.out]; rfl, rfl⟩

end Go.Proofs.YtnhnelgkcldkbaaGreatDoor
