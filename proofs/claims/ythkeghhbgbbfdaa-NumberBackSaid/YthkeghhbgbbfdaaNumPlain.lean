/- Plain laws on the bytes of a number (no program in sight): the bytes, what is read back, signs. -/
import Derived.Below
namespace Go.Proofs.Ythkeghhbgbbfdaa
namespace Num

/-- The bytes of a number, at most f + 1 of them. -/
def putF : Nat → Int → List Int
  | 0, n => [n]
  | f + 1, n => if n < 128 then [n] else (n % 128 + 128) :: putF f (n / 128)

def put (n : Int) : List Int := putF 10 n

theorem putF_small (f : Nat) (n : Int) (h : n < 128) : putF f n = [n] := by
  cases f with
  | zero => rfl
  | succ f => simp [putF, h]

theorem putF_big (f : Nat) (n : Int) (h : 128 ≤ n) : putF (f + 1) n = (n % 128 + 128) :: putF f (n / 128) := by rw [putF, if_neg (by omega)]

theorem putF_fuel : ∀ (f : Nat) (n : Int), n < 128 ^ (f + 1) → putF (f + 1) n = putF f n
  | 0, n, h => by
    have : n < 128 := by simpa using h
    rw [putF_small _ _ this, putF_small _ _ this]
  | f + 1, n, h => by
    rcases Int.lt_or_le n 128 with hn | hn
    · rw [putF_small _ _ hn, putF_small _ _ hn]
    · have hd : n / 128 < 128 ^ (f + 1) := by
        rw [Int.pow_succ] at h
        omega
      rw [putF_big _ _ hn, putF_big _ _ hn, putF_fuel f _ hd]

theorem put_small (n : Int) (h : n < 128) : put n = [n] := putF_small _ _ h

theorem put_step (n : Int) (h : n < 18446744073709551616) (hn : 128 ≤ n) : put n = (n % 128 + 128) :: put (n / 128) := by
  have h1 : put n = (n % 128 + 128) :: putF 9 (n / 128) := by unfold put; rw [putF, if_neg (by omega)]
  rw [h1]
  congr 1
  exact (putF_fuel 9 (n / 128) (by show _ < (128 : Int) ^ 10; omega)).symm

theorem putF_len : ∀ (f : Nat) (n : Int), 1 ≤ (putF f n).length ∧ (putF f n).length ≤ f + 1
  | 0, n => by simp [putF]
  | f + 1, n => by
    have := putF_len f (n / 128)
    unfold putF
    split
    · simp
    · simp; omega

theorem put_pos (n : Int) : 1 ≤ (put n).length := (putF_len 10 n).1

/-- fewer bytes than digits are wanted -/
theorem putF_le : ∀ (f g : Nat) (n : Int), n < 128 ^ (g + 1) → (putF f n).length ≤ g + 1
  | 0, g, n, _ => by simp [putF]
  | f + 1, g, n, h => by
    unfold putF
    split
    · simp
    · rename_i hn
      cases g with
      | zero => simp at h; omega
      | succ g =>
        have hd : n / 128 < 128 ^ (g + 1) := by
          rw [Int.pow_succ] at h
          omega
        have := putF_le f g (n / 128) hd
        simp; omega

theorem put_le (n : Int) (h : n < 18446744073709551616) : (put n).length ≤ 10 := putF_le 10 9 n (by show _ < (128 : Int) ^ 10; omega)

theorem putF_range : ∀ (f : Nat) (n : Int), 0 ≤ n → n < 128 ^ (f + 1) → ∀ c ∈ putF f n, 0 ≤ c ∧ c < 256
  | 0, n, h0, h, c, hc => by
    simp at h
    simp [putF] at hc
    omega
  | f + 1, n, h0, h, c, hc => by
    unfold putF at hc
    split at hc
    · simp at hc; omega
    · have hd : n / 128 < 128 ^ (f + 1) := by
        rw [Int.pow_succ] at h
        omega
      rcases List.mem_cons.1 hc with rfl | hc
      · omega
      · exact putF_range f (n / 128) (by omega) hd c hc

theorem put_range (n : Int) (h0 : 0 ≤ n) (h : n < 18446744073709551616) : ∀ c ∈ put n, 0 ≤ c ∧ c < 256 :=
  putF_range 10 n h0 (by show _ < (128 : Int) ^ 11; omega)

/-- What is read from the bytes on, being the byte number i: the number, how many bytes, the error. -/
def getL : Nat → List Int → Int × Int × Int
  | _, [] => (0, 0, 24)
  | i, c :: cs =>
    if (i = 9 ∧ 1 < c) ∨ (c = 0 ∧ 0 < i) then (0, 0, 12)
    else if c < 128 then (c, 1, 0)
    else if (getL (i + 1) cs).2.2 = 0 then (c % 128 + 128 * (getL (i + 1) cs).1, (getL (i + 1) cs).2.1 + 1, 0)
    else (0, 0, (getL (i + 1) cs).2.2)

def get (bs : List Int) (at_ : Int) : Int × Int × Int :=
  if at_ < 0 then (0, 0, 2)
  else if (getL 0 (bs.drop at_.toNat)).2.2 = 0 then ((getL 0 (bs.drop at_.toNat)).1, at_ + (getL 0 (bs.drop at_.toNat)).2.1, 0)
  else (0, 0, (getL 0 (bs.drop at_.toNat)).2.2)

theorem getL_err (i : Nat) (l : List Int) : (getL i l).2.2 ≠ 0 → (getL i l).1 = 0 ∧ (getL i l).2.1 = 0 := by
  cases l with
  | nil => simp [getL]
  | cons c cs =>
    unfold getL
    repeat' split
    all_goals simp

theorem getL_codes : ∀ (l : List Int) (i : Nat), (getL i l).2.2 = 0 ∨ (getL i l).2.2 = 12 ∨ (getL i l).2.2 = 24
  | [], i => by simp [getL]
  | c :: cs, i => by
    have := getL_codes cs (i + 1)
    unfold getL
    repeat' split
    all_goals simp
    all_goals omega

/-- how many bytes of 128 or more stand at the head, of the first m -/
def highs : Nat → List Int → Nat
  | 0, _ => 0
  | _, [] => 0
  | m + 1, c :: cs => if 128 ≤ c then highs m cs + 1 else 0

theorem highs_le : ∀ (m : Nat) (l : List Int), highs m l ≤ m ∧ highs m l ≤ l.length
  | 0, l => by simp [highs]
  | m + 1, [] => by simp [highs]
  | m + 1, c :: cs => by
    have := highs_le m cs
    unfold highs
    split
    · simp; omega
    · simp

theorem highs_hi (m : Nat) (c : Int) (cs : List Int) (h : 128 ≤ c) : highs (m + 1) (c :: cs) = highs m cs + 1 := by rw [highs, if_pos h]
theorem highs_lo (m : Nat) (c : Int) (cs : List Int) (h : c < 128) : highs (m + 1) (c :: cs) = 0 := by rw [highs, if_neg (by omega)]
theorem getL_form (i : Nat) (c : Int) (cs : List Int) (h : (i = 9 ∧ 1 < c) ∨ (c = 0 ∧ 0 < i)) : getL i (c :: cs) = (0, 0, 12) := by rw [getL, if_pos h]
theorem getL_last (i : Nat) (c : Int) (cs : List Int) (h : ¬ ((i = 9 ∧ 1 < c) ∨ (c = 0 ∧ 0 < i))) (h2 : c < 128) : getL i (c :: cs) = (c, 1, 0) := by rw [getL, if_neg h, if_pos h2]
theorem getL_more (i : Nat) (c : Int) (cs : List Int) (h : ¬ ((i = 9 ∧ 1 < c) ∨ (c = 0 ∧ 0 < i))) (h2 : 128 ≤ c) :
    getL i (c :: cs) = if (getL (i + 1) cs).2.2 = 0 then (c % 128 + 128 * (getL (i + 1) cs).1, (getL (i + 1) cs).2.1 + 1, 0) else (0, 0, (getL (i + 1) cs).2.2) := by rw [getL, if_neg h, if_neg (by omega)]

/-- What is read, told by the high bytes at the head: short just if all are high and fewer than ten. -/
theorem getL_short : ∀ (l : List Int) (i : Nat), i ≤ 9 → ((getL i l).2.2 = 24 ↔ highs (10 - i) l = l.length ∧ highs (10 - i) l < 10 - i)
  | [], i, hi => by
    have : highs (10 - i) [] = 0 := by
      cases h : 10 - i with
      | zero => rfl
      | succ m => rfl
    simp [getL, this]; omega
  | c :: cs, i, hi => by
    obtain ⟨m, hm⟩ : ∃ m, 10 - i = m + 1 := ⟨9 - i, by omega⟩
    have hl := highs_le m cs
    rw [hm]
    by_cases h1 : (i = 9 ∧ 1 < c) ∨ (c = 0 ∧ 0 < i)
    · rw [getL_form i c cs h1]
      have hne : ((0, 0, 12) : Int × Int × Int).2.2 ≠ 24 := by decide
      simp only [List.length_cons]
      rcases Int.lt_or_le c 128 with h2 | h2
      · rw [highs_lo _ _ _ h2]
        exact ⟨fun hx => absurd hx hne, by omega⟩
      · rw [highs_hi _ _ _ h2]
        exact ⟨fun hx => absurd hx hne, by omega⟩
    · rcases Int.lt_or_le c 128 with h2 | h2
      · rw [getL_last i c cs h1 h2, highs_lo _ _ _ h2]
        simp
      · rw [getL_more i c cs h1 h2, highs_hi _ _ _ h2]
        have hi9 : i + 1 ≤ 9 := by omega
        have ih := getL_short cs (i + 1) hi9
        have hm' : 10 - (i + 1) = m := by omega
        rw [hm'] at ih
        simp only [List.length_cons]
        split
        · rename_i h0
          rw [h0] at ih
          simp only
          omega
        · simp only
          omega

/-- What is read well: one byte more than the high ones, and these are the number's own bytes. -/
theorem getL_ok : ∀ (l : List Int) (i : Nat), i ≤ 9 → (∀ c ∈ l, 0 ≤ c ∧ c < 256) → (getL i l).2.2 = 0 →
    (getL i l).2.1 = (highs (10 - i) l : Int) + 1 ∧ highs (10 - i) l + 1 ≤ l.length ∧ 0 ≤ (getL i l).1 ∧ (getL i l).1 * 128 ^ i < 18446744073709551616 ∧ (0 < i → 0 < (getL i l).1) ∧
    putF (9 - i) (getL i l).1 = l.take (highs (10 - i) l + 1)
  | [], i, hi, _, h => by simp [getL] at h
  | c :: cs, i, hi, hr, h => by
    obtain ⟨m, hm⟩ : ∃ m, 10 - i = m + 1 := ⟨9 - i, by omega⟩
    have hc := hr c (by simp)
    have hm9 : 9 - i = m := by omega
    rw [hm, hm9]
    by_cases h1 : (i = 9 ∧ 1 < c) ∨ (c = 0 ∧ 0 < i)
    · unfold getL at h
      rw [if_pos h1] at h
      simp at h
    · by_cases h2 : c < 128
      · have hg : getL i (c :: cs) = (c, 1, 0) := by unfold getL; rw [if_neg h1, if_pos h2]
        have hh : highs (m + 1) (c :: cs) = 0 := by rw [highs, if_neg (by omega)]
        rw [hg, hh]
        refine ⟨by simp, by simp, by simpa using hc.1, ?_, by simp; omega, by simpa using putF_small m c h2⟩
        simp only
        by_cases hi9 : i = 9
        · subst hi9
          have : c ≤ 1 := by omega
          have hp : (128 : Int) ^ 9 = 9223372036854775808 := by decide
          rw [hp]
          omega
        · have hp : (128 : Int) ^ i ≤ 128 ^ 8 := by
            have : (128 : Int) ^ 8 = 128 ^ i * 128 ^ (8 - i) := by rw [← Int.pow_add]; congr 1; omega
            rw [this]
            have h1p : (1 : Int) ≤ 128 ^ (8 - i) := (Int.pow_pos (by omega) : (0 : Int) < 128 ^ (8 - i))
            have h0p : (0 : Int) ≤ 128 ^ i := Int.le_of_lt (Int.pow_pos (by omega))
            calc (128 : Int) ^ i = 128 ^ i * 1 := by simp
              _ ≤ 128 ^ i * 128 ^ (8 - i) := Int.mul_le_mul_of_nonneg_left h1p h0p
          have hp8 : (128 : Int) ^ 8 = 72057594037927936 := by decide
          have h0p : (0 : Int) ≤ 128 ^ i := Int.le_of_lt (Int.pow_pos (by omega))
          have : c * 128 ^ i ≤ 127 * 128 ^ i := Int.mul_le_mul_of_nonneg_right (by omega) h0p
          omega
      · have hi9 : i + 1 ≤ 9 := by omega
        have hm' : 10 - (i + 1) = m := by omega
        have hh : highs (m + 1) (c :: cs) = highs m cs + 1 := by rw [highs, if_pos (by omega)]
        by_cases h3 : (getL (i + 1) cs).2.2 = 0
        · have hg : getL i (c :: cs) = (c % 128 + 128 * (getL (i + 1) cs).1, (getL (i + 1) cs).2.1 + 1, 0) := by
            rw [getL, if_neg h1, if_neg h2, if_pos h3]
          obtain ⟨a1, a2, a3, a4, a5, a6⟩ := getL_ok cs (i + 1) hi9 (fun x hx => hr x (by simp [hx])) h3
          rw [hm'] at a1 a2 a6
          have hm1 : m = (9 - (i + 1)) + 1 := by omega
          have a5' := a5 (by omega)
          rw [hg, hh]
          generalize (getL (i + 1) cs).1 = x at *
          refine ⟨by simp [a1], by simp; omega, by simp only; omega, ?_, by simp only; omega, ?_⟩
          · simp only
            have hp : (0 : Int) < 128 ^ i := Int.pow_pos (by omega)
            rw [Int.pow_succ] at a4
            by_cases hi8 : i = 8
            · subst hi8
              have hp8 : (128 : Int) ^ 8 = 72057594037927936 := by decide
              rw [hp8] at a4 ⊢
              omega
            · have e1 : (18446744073709551616 : Int) = 128 ^ (i + 1) * (2 * 128 ^ (8 - i)) := by
                have : (128 : Int) ^ (i + 1) * (2 * 128 ^ (8 - i)) = 2 * (128 ^ (i + 1) * 128 ^ (8 - i)) := by
                  rw [Int.mul_left_comm]
                rw [this, ← Int.pow_add]
                have : i + 1 + (8 - i) = 9 := by omega
                rw [this]
                decide
              rw [e1, Int.pow_succ] at a4
              have a4' : x < 2 * 128 ^ (8 - i) := by
                have : x * (128 ^ i * 128) = (128 ^ i * 128) * x := Int.mul_comm _ _
                rw [this] at a4
                exact Int.lt_of_mul_lt_mul_left a4 (by omega)
              rw [e1, Int.pow_succ]
              have h4 : (c % 128 + 128 * x) * 128 ^ i < (128 * (x + 1)) * 128 ^ i := Int.mul_lt_mul_of_pos_right (by omega) hp
              have h5 : (128 * (x + 1)) * 128 ^ i ≤ (128 * (2 * 128 ^ (8 - i))) * 128 ^ i := Int.mul_le_mul_of_nonneg_right (by omega) (by omega)
              have h6 : (128 * (2 * (128 : Int) ^ (8 - i))) * 128 ^ i = 128 ^ i * 128 * (2 * 128 ^ (8 - i)) := by
                rw [Int.mul_comm (128 * (2 * (128 : Int) ^ (8 - i))) (128 ^ i), Int.mul_assoc]
              omega
          · simp only
            rw [hm1, putF, if_neg (by omega), List.take_succ_cons, ← hm1]
            have e1 : (c % 128 + 128 * x) % 128 + 128 = c := by omega
            have e2 : (c % 128 + 128 * x) / 128 = x := by omega
            rw [e1, e2, a6]
        · unfold getL at h
          rw [if_neg h1, if_neg h2, if_neg h3] at h
          exact absurd h h3

/-- What is put is got, whatever stands behind. -/
theorem getL_putF : ∀ (k i : Nat) (n : Int) (rest : List Int), i + k = 9 → 0 ≤ n → n * 128 ^ i < 18446744073709551616 → (0 < i → 0 < n) →
    getL i (putF k n ++ rest) = (n, ((putF k n).length : Int), 0)
  | 0, i, n, rest, hi, h0, hn, hp => by
    have : i = 9 := by omega
    subst this
    have hp9 : (128 : Int) ^ 9 = 9223372036854775808 := by decide
    rw [hp9] at hn
    have h1 := hp (by omega)
    have : n = 1 := by omega
    subst this
    simp [putF, getL]
  | k + 1, i, n, rest, hi, h0, hn, hp => by
    unfold putF
    by_cases h : n < 128
    · rw [if_pos h]
      have h1 : ¬ ((i = 9 ∧ 1 < n) ∨ (n = 0 ∧ 0 < i)) := by omega
      simp [getL, h, h1]
    · rw [if_neg h]
      have h1 : ¬ ((i = 9 ∧ 1 < n % 128 + 128) ∨ (n % 128 + 128 = 0 ∧ 0 < i)) := by omega
      have h2 : ¬ (n % 128 + 128 < 128) := by omega
      have hpow : (0 : Int) < 128 ^ i := Int.pow_pos (by omega)
      have ih := getL_putF k (i + 1) (n / 128) rest (by omega) (by omega) (by
        rw [Int.pow_succ]
        have h3 : (n / 128 * 128) * 128 ^ i ≤ n * 128 ^ i := Int.mul_le_mul_of_nonneg_right (by omega) (by omega)
        have h4 : n / 128 * (128 ^ i * 128) = (n / 128 * 128) * 128 ^ i := by rw [Int.mul_comm (128 ^ i) 128, Int.mul_assoc]
        omega) (by omega)
      rw [List.cons_append, getL, if_neg h1, if_neg h2, ih]
      simp
      omega

theorem put_nine (n : Int) (h : n < 18446744073709551616) : put n = putF 9 n := putF_fuel 9 n (by show _ < (128 : Int) ^ 10; omega)

theorem getL_put (n : Int) (rest : List Int) (h0 : 0 ≤ n) (h : n < 18446744073709551616) : getL 0 (put n ++ rest) = (n, ((put n).length : Int), 0) := by
  rw [put_nine n h]
  exact getL_putF 9 0 n rest rfl h0 (by simpa using h) (by omega)

theorem get_put (front rest : List Int) (n : Int) (h0 : 0 ≤ n) (h : n < 18446744073709551616) : get (front ++ (put n ++ rest)) front.length = (n, (front.length : Int) + (put n).length, 0) := by
  unfold get
  rw [if_neg (by omega)]
  simp [getL_put n rest h0 h]

theorem put_inj (n m : Int) (h0 : 0 ≤ n) (h : n < 18446744073709551616) (g0 : 0 ≤ m) (g : m < 18446744073709551616) : put n = put m ↔ n = m := by
  constructor
  · intro e
    have a := getL_put n [] h0 h
    have b := getL_put m [] g0 g
    rw [e, b] at a
    exact (Prod.mk.inj a).1.symm
  · rintro rfl; rfl

/-- No number's bytes begin another's. -/
theorem put_prefix (n m : Int) (h0 : 0 ≤ n) (h : n < 18446744073709551616) (g0 : 0 ≤ m) (g : m < 18446744073709551616) (e : put n = (put m).take (put n).length) : n = m := by
  have a := getL_put n ((put m).drop (put n).length) h0 h
  have b := getL_put m [] g0 g
  have c : put n ++ (put m).drop (put n).length = put m := by
    conv => lhs; rw [e]
    rw [List.length_take]
    have : min (put n).length (put m).length = (put n).length ∨ (put m).length ≤ (put n).length := by omega
    rcases this with k | k
    · rw [k]; exact List.take_append_drop _ _
    · rw [List.take_of_length_le k, List.drop_eq_nil_of_le (by omega), List.append_nil]
  rw [c] at a
  rw [List.append_nil] at b
  rw [b] at a
  exact (Prod.mk.inj a).1.symm

theorem putF_mono : ∀ (f : Nat) (n m : Int), 0 ≤ n → n ≤ m → (putF f n).length ≤ (putF f m).length
  | 0, n, m, _, _ => by simp [putF]
  | f + 1, n, m, h0, h => by
    unfold putF
    have := putF_mono f (n / 128) (m / 128) (by omega) (by omega)
    repeat' split
    all_goals simp
    all_goals omega

/-- The digits: the i-th byte, its high bit; and what is left. -/
theorem putF_digit : ∀ (f : Nat) (n : Int) (i : Nat), 0 ≤ n → n < 128 ^ (f + 1) → i < (putF f n).length →
    (putF f n).getD i 0 % 128 = n / 128 ^ i % 128 ∧ (128 ≤ (putF f n).getD i 0 ↔ i + 1 < (putF f n).length)
  | 0, n, i, h0, h, hi => by
    simp [putF] at hi
    subst hi
    simp at h
    simp [putF]
    omega
  | f + 1, n, i, h0, h, hi => by
    by_cases hn : n < 128
    · rw [putF_small _ _ hn] at hi ⊢
      simp at hi
      subst hi
      simp
      omega
    · have hd : n / 128 < 128 ^ (f + 1) := by
        rw [Int.pow_succ] at h
        omega
      have e : putF (f + 1) n = (n % 128 + 128) :: putF f (n / 128) := by rw [putF, if_neg hn]
      have hl := putF_len f (n / 128)
      rw [e] at hi ⊢
      cases i with
      | zero =>
        simp
        constructor
        · omega
        · omega
      | succ i =>
        have ih := putF_digit f (n / 128) i (by omega) hd (by simpa using hi)
        have hq : n / 128 ^ (i + 1) = n / 128 / 128 ^ i := by
          rw [Int.pow_succ, Int.mul_comm, Int.ediv_ediv_of_nonneg (by omega)]
        rw [hq]
        simp only [List.getD_cons_succ, List.length_cons]
        exact ⟨ih.1, ih.2.trans (by omega)⟩

theorem putF_left : ∀ (f : Nat) (n : Int), 0 ≤ n → n < 128 ^ (f + 1) → n / 128 ^ (putF f n).length = 0
  | 0, n, h0, h => by
    simp [putF]
    simp at h
    omega
  | f + 1, n, h0, h => by
    by_cases hn : n < 128
    · rw [putF_small _ _ hn]
      simp
      omega
    · have hd : n / 128 < 128 ^ (f + 1) := by
        rw [Int.pow_succ] at h
        omega
      have e : putF (f + 1) n = (n % 128 + 128) :: putF f (n / 128) := by rw [putF, if_neg hn]
      rw [e, List.length_cons, Int.pow_succ, Int.mul_comm, ← Int.ediv_ediv_of_nonneg (by omega)]
      exact putF_left f (n / 128) (by omega) hd

theorem putF_last : ∀ (f : Nat) (n : Int), 0 ≤ n → (putF f n).length = 1 ∨ (putF f n).getD ((putF f n).length - 1) 0 ≠ 0
  | 0, n, h0 => by simp [putF]
  | f + 1, n, h0 => by
    by_cases hn : n < 128
    · rw [putF_small _ _ hn]
      simp
    · have e : putF (f + 1) n = (n % 128 + 128) :: putF f (n / 128) := by rw [putF, if_neg hn]
      have hl := putF_len f (n / 128)
      right
      rcases putF_last f (n / 128) (by omega) with k | k
      · have : putF f (n / 128) = [n / 128] ∨ ¬ n / 128 < 128 := by
          by_cases hh : n / 128 < 128
          · left; exact putF_small f _ hh
          · right; exact hh
        rcases this with k2 | k2
        · rw [e, k2]
          simp
          omega
        · cases f with
          | zero => rw [e]; simp [putF]; omega
          | succ f =>
            have e2 : putF (f + 1) (n / 128) = (n / 128 % 128 + 128) :: putF f (n / 128 / 128) := by rw [putF, if_neg k2]
            have := putF_len f (n / 128 / 128)
            rw [e2] at k
            simp at k
            rw [k] at this
            simp at this
      · rw [e]
        simp only [List.length_cons, Nat.add_sub_cancel]
        obtain ⟨q, hq⟩ : ∃ q, (putF f (n / 128)).length = q + 1 := ⟨(putF f (n / 128)).length - 1, by omega⟩
        rw [hq] at k ⊢
        simpa using k

/-- A signed number, folded. -/
def fold (x : Int) : Int := if 0 ≤ x then 2 * x else -2 * x - 1
def back (n : Int) : Int := if n % 2 = 0 then n / 2 else -(n / 2) - 1

theorem fold_range (x : Int) (h : -9223372036854775808 ≤ x) (g : x ≤ 9223372036854775807) : 0 ≤ fold x ∧ fold x < 18446744073709551616 := by
  unfold fold
  split <;> omega
theorem back_fold (x : Int) : back (fold x) = x := by
  unfold back fold
  split <;> split <;> omega

end Num
end Go.Proofs.Ythkeghhbgbbfdaa
