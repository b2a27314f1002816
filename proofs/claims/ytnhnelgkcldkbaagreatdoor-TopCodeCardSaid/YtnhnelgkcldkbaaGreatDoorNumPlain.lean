/- Plain laws on the bytes of a number (no program in sight): the bytes, what is read back, signs. -/
import Derived.Below
namespace Go.Proofs.YtnhnelgkcldkbaaGreatDoor
namespace Num

/-- The bytes of a number, at most f + 1 of them. -/
def putF : Nat → Int → List Int
  | 0, n => [n]
  | f + 1, n => if n < 128 then [n] else (n % 128 + 128) :: putF f (n / 128)

def put (n : Int) : List Int := putF 10 n

theorem putF_small (f : Nat) (n : Int) (h : n < 128) : putF f n = [n] := by
  cases f with
  | zero => rfl
  | succ f => simp [putF, h]

theorem putF_big (f : Nat) (n : Int) (h : 128 ≤ n) : putF (f + 1) n = (n % 128 + 128) :: putF f (n / 128) := by rw [putF, if_neg (by omega)]

theorem putF_fuel : ∀ (f : Nat) (n : Int), n < 128 ^ (f + 1) → putF (f + 1) n = putF f n
  | 0, n, h => by
    have : n < 128 := by simpa using h
    rw [putF_small _ _ this, putF_small _ _ this]
  | f + 1, n, h => by
    rcases Int.lt_or_le n 128 with hn | hn
    · rw [putF_small _ _ hn, putF_small _ _ hn]
    · have hd : n / 128 < 128 ^ (f + 1) := by
        rw [Int.pow_succ] at h
        omega
      rw [putF_big _ _ hn, putF_big _ _ hn, putF_fuel f _ hd]

theorem put_small (n : Int) (h : n < 128) : put n = [n] := putF_small _ _ h

theorem put_step (n : Int) (h : n < 18446744073709551616) (hn : 128 ≤ n) : put n = (n % 128 + 128) :: put (n / 128) := by
  have h1 : put n = (n % 128 + 128) :: putF 9 (n / 128) := by unfold put; rw [putF, if_neg (by omega)]
  rw [h1]
  congr 1
  exact (putF_fuel 9 (n / 128) (by show _ < (128 : Int) ^ 10; omega)).symm

theorem putF_len : ∀ (f : Nat) (n : Int), 1 ≤ (putF f n).length ∧ (putF f n).length ≤ f + 1
  | 0, n => by simp [putF]
  | f + 1, n => by
    have := putF_len f (n / 128)
    unfold putF
    split
    · simp
    · simp; omega

theorem put_pos (n : Int) : 1 ≤ (put n).length := (putF_len 10 n).1

/-- fewer bytes than digits are wanted -/
theorem putF_le : ∀ (f g : Nat) (n : Int), n < 128 ^ (g + 1) → (putF f n).length ≤ g + 1
  | 0, g, n, _ => by simp [putF]
  | f + 1, g, n, h => by
    unfold putF
    split
    · simp
    · rename_i hn
      cases g with
      | zero => simp at h; omega
      | succ g =>
        have hd : n / 128 < 128 ^ (g + 1) := by
          rw [Int.pow_succ] at h
          omega
        have := putF_le f g (n / 128) hd
        simp; omega

theorem put_le (n : Int) (h : n < 18446744073709551616) : (put n).length ≤ 10 := putF_le 10 9 n (by show _ < (128 : Int) ^ 10; omega)

/-- What is read from the bytes on, being the byte number i: the number, how many bytes, the error. -/
def getL : Nat → List Int → Int × Int × Int
  | _, [] => (0, 0, 24)
  | i, c :: cs =>
    if (i = 9 ∧ 1 < c) ∨ (c = 0 ∧ 0 < i) then (0, 0, 12)
    else if c < 128 then (c, 1, 0)
    else if (getL (i + 1) cs).2.2 = 0 then (c % 128 + 128 * (getL (i + 1) cs).1, (getL (i + 1) cs).2.1 + 1, 0)
    else (0, 0, (getL (i + 1) cs).2.2)

def get (bs : List Int) (at_ : Int) : Int × Int × Int :=
  if at_ < 0 then (0, 0, 2)
  else if (getL 0 (bs.drop at_.toNat)).2.2 = 0 then ((getL 0 (bs.drop at_.toNat)).1, at_ + (getL 0 (bs.drop at_.toNat)).2.1, 0)
  else (0, 0, (getL 0 (bs.drop at_.toNat)).2.2)

theorem getL_err (i : Nat) (l : List Int) : (getL i l).2.2 ≠ 0 → (getL i l).1 = 0 ∧ (getL i l).2.1 = 0 := by
  cases l with
  | nil => simp [getL]
  | cons c cs =>
    unfold getL
    repeat' split
    all_goals simp

theorem getL_form (i : Nat) (c : Int) (cs : List Int) (h : (i = 9 ∧ 1 < c) ∨ (c = 0 ∧ 0 < i)) : getL i (c :: cs) = (0, 0, 12) := by rw [getL, if_pos h]
theorem getL_last (i : Nat) (c : Int) (cs : List Int) (h : ¬ ((i = 9 ∧ 1 < c) ∨ (c = 0 ∧ 0 < i))) (h2 : c < 128) : getL i (c :: cs) = (c, 1, 0) := by rw [getL, if_neg h, if_pos h2]
theorem getL_more (i : Nat) (c : Int) (cs : List Int) (h : ¬ ((i = 9 ∧ 1 < c) ∨ (c = 0 ∧ 0 < i))) (h2 : 128 ≤ c) :
    getL i (c :: cs) = if (getL (i + 1) cs).2.2 = 0 then (c % 128 + 128 * (getL (i + 1) cs).1, (getL (i + 1) cs).2.1 + 1, 0) else (0, 0, (getL (i + 1) cs).2.2) := by rw [getL, if_neg h, if_neg (by omega)]

/-- What is put is got, whatever stands behind. -/
theorem getL_putF : ∀ (k i : Nat) (n : Int) (rest : List Int), i + k = 9 → 0 ≤ n → n * 128 ^ i < 18446744073709551616 → (0 < i → 0 < n) →
    getL i (putF k n ++ rest) = (n, ((putF k n).length : Int), 0)
  | 0, i, n, rest, hi, h0, hn, hp => by
    have : i = 9 := by omega
    subst this
    have hp9 : (128 : Int) ^ 9 = 9223372036854775808 := by decide
    rw [hp9] at hn
    have h1 := hp (by omega)
    have : n = 1 := by omega
    subst this
    simp [putF, getL]
  | k + 1, i, n, rest, hi, h0, hn, hp => by
    unfold putF
    by_cases h : n < 128
    · rw [if_pos h]
      have h1 : ¬ ((i = 9 ∧ 1 < n) ∨ (n = 0 ∧ 0 < i)) := by omega
      simp [getL, h, h1]
    · rw [if_neg h]
      have h1 : ¬ ((i = 9 ∧ 1 < n % 128 + 128) ∨ (n % 128 + 128 = 0 ∧ 0 < i)) := by omega
      have h2 : ¬ (n % 128 + 128 < 128) := by omega
      have hpow : (0 : Int) < 128 ^ i := Int.pow_pos (by omega)
      have ih := getL_putF k (i + 1) (n / 128) rest (by omega) (by omega) (by
        rw [Int.pow_succ]
        have h3 : (n / 128 * 128) * 128 ^ i ≤ n * 128 ^ i := Int.mul_le_mul_of_nonneg_right (by omega) (by omega)
        have h4 : n / 128 * (128 ^ i * 128) = (n / 128 * 128) * 128 ^ i := by rw [Int.mul_comm (128 ^ i) 128, Int.mul_assoc]
        omega) (by omega)
      rw [List.cons_append, getL, if_neg h1, if_neg h2, ih]
      simp
      omega

theorem put_nine (n : Int) (h : n < 18446744073709551616) : put n = putF 9 n := putF_fuel 9 n (by show _ < (128 : Int) ^ 10; omega)

theorem getL_put (n : Int) (rest : List Int) (h0 : 0 ≤ n) (h : n < 18446744073709551616) : getL 0 (put n ++ rest) = (n, ((put n).length : Int), 0) := by
  rw [put_nine n h]
  exact getL_putF 9 0 n rest rfl h0 (by simpa using h) (by omega)

theorem get_put (front rest : List Int) (n : Int) (h0 : 0 ≤ n) (h : n < 18446744073709551616) : get (front ++ (put n ++ rest)) front.length = (n, (front.length : Int) + (put n).length, 0) := by
  unfold get
  rw [if_neg (by omega)]
  simp [getL_put n rest h0 h]

end Num
end Go.Proofs.YtnhnelgkcldkbaaGreatDoor
