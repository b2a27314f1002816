/- The reference's Digits: a number to the base 10. -/
import Derived.Test.YtaamdiknefodgaaDoorKit2
import Derived.Test.YtaamdiknefodgaaDoorLn
import Derived.Test.YtaamdiknefodgaaDoorAmRow
import Derived.Below
namespace Go.Proofs.YtaamdiknefodgaaDoor
open Go.RowKit

theorem conv_digit (w : World) (x : Int) (h0 : 0 ≤ x) : (convert 108 9 (.slice (some ⟨w.heap.size, 0, none⟩) 1 1)).run Tryd.prog (w.alloc (.cells #[.int .u8 x] 5)) = .ok (.string ⟨#[UInt8.ofNat x.toNat]⟩) (w.alloc (.cells #[.int .u8 x] 5)) := by
  obtain ⟨n, rfl⟩ := Int.eq_ofNat_of_zero_le h0
  rw [run_convert_bytes_string _ 108 9 5 _ 1 1 (by kernel_rfl) (by kernel_rfl) (by kernel_rfl), run_bytesToString _ _ 1 1 [(n : Int)]]
  · simp
    rfl
  · simp [loadCells, loadCellsFrom, go_sem]
theorem str_two (a b : Array UInt8) : (⟨a⟩ : ByteArray) ++ ⟨b⟩ = ⟨a ++ b⟩ := by
  apply ByteArray.ext
  simp [ByteArray.data_append]

theorem below_one (w : World) (o : Obj) {w0 : World} (h : Below (w.alloc o).heap.size (w.alloc o) w0) : Below w.heap.size w w0 := by
  have h1 : Below w.heap.size w (w.alloc o) := (Below.refl _ _).alloc (Nat.le_refl _) o
  exact h1.trans (h.mono h1.size)

set_option maxRecDepth 20000 in
set_option maxHeartbeats 1600000 in
theorem digits_pos (n q m : Int) (w : World) (hq : n.tdiv 10 = q) (hm : n.tmod 10 = m) (hq0 : q ≠ 0) (hm0 : 0 ≤ m) (hm9 : m ≤ 9) (hqr : -922337203685477580 ≤ q ∧ q ≤ 922337203685477580) (s : ByteArray)
    (ih : ∀ W, Calls Tryd.prog 114 #[.int .i64 q] W fun e w' => e = .returned (.string s) ∧ Below W.heap.size W w') (hs : s.size ≤ 30) :
    Calls Tryd.prog 114 #[.int .i64 n] w fun e w' => e = .returned (.string (s ++ ⟨#[UInt8.ofNat (48 + m).toNat]⟩)) ∧ Below w.heap.size w w' := by
  have hc := conv_digit w (48 + m) (by omega)
  have hb : decide (-m > m) = false := by simp; omega
  go_enter Tryd.func114, Tryd.ntmps114
  go_wp2_with fail
  refine (ih _).mono ?_
  rintro e w0 ⟨rfl, hb0⟩
  go_wp2
  go_ret
  exact ⟨rfl, below_one _ _ hb0⟩

set_option maxRecDepth 20000 in
set_option maxHeartbeats 1600000 in
theorem digits_neg (n q m : Int) (w : World) (hq : n.tdiv 10 = q) (hm : n.tmod 10 = m) (hq0 : q ≠ 0) (hm0 : m < 0) (hm9 : -9 ≤ m) (hqr : -922337203685477580 ≤ q ∧ q ≤ 922337203685477580) (s : ByteArray)
    (ih : ∀ W, Calls Tryd.prog 114 #[.int .i64 q] W fun e w' => e = .returned (.string s) ∧ Below W.heap.size W w') (hs : s.size ≤ 30) :
    Calls Tryd.prog 114 #[.int .i64 n] w fun e w' => e = .returned (.string (s ++ ⟨#[UInt8.ofNat (48 + -m).toNat]⟩)) ∧ Below w.heap.size w w' := by
  have hc := conv_digit w (48 + -m) (by omega)
  have hb : decide (-m > m) = true := by simp; omega
  go_enter Tryd.func114, Tryd.ntmps114
  go_wp2_with fail
  refine (ih _).mono ?_
  rintro e w0 ⟨rfl, hb0⟩
  go_wp2
  go_ret
  exact ⟨rfl, below_one _ _ hb0⟩

/-! the digits of a number, and of its tenth -/
theorem decF_acc : ∀ (f u : Nat) (acc : List UInt8), Am.decF f u acc = Am.decF f u [] ++ acc
  | 0, _, acc => by simp [Am.decF]
  | f + 1, u, acc => by
    rw [Am.decF, Am.decF]
    cases Nat.blt u 10
    · simp only [cond_false]
      rw [decF_acc f (u / 10) (UInt8.ofNat (48 + u % 10) :: acc), decF_acc f (u / 10) [UInt8.ofNat (48 + u % 10)]]
      simp
    · simp
theorem decF_fuel : ∀ (f g u : Nat), u < 10 ^ f → u < 10 ^ g → 0 < f → 0 < g → Am.decF f u [] = Am.decF g u []
  | 0, _, _, _, _, h, _ => by omega
  | _, 0, _, _, _, _, h => by omega
  | f + 1, g + 1, u, h1, h2, _, _ => by
    rw [Am.decF, Am.decF]
    cases hb : Nat.blt u 10
    · simp only [cond_false]
      have hu : ¬ u < 10 := fun h => by rw [show Nat.blt u 10 = true by rw [Nat.blt_eq]; exact h] at hb; cases hb
      have e1 : u / 10 < 10 ^ f := by rw [Nat.pow_succ] at h1; omega
      have e2 : u / 10 < 10 ^ g := by rw [Nat.pow_succ] at h2; omega
      have p1 : 0 < f := by
        rcases Nat.eq_zero_or_pos f with rfl | h
        · simp at e1; omega
        · exact h
      have p2 : 0 < g := by
        rcases Nat.eq_zero_or_pos g with rfl | h
        · simp at e2; omega
        · exact h
      rw [decF_acc f, decF_acc g, decF_fuel f g (u / 10) e1 e2 p1 p2]
    · rfl
theorem decF_ten {u : Nat} (h : 10 ≤ u) (h' : u < 10 ^ 20) : Am.decF 20 u [] = Am.decF 20 (u / 10) [] ++ [UInt8.ofNat (48 + u % 10)] := by
  have hb : Nat.blt u 10 = false := by
    cases hb : Nat.blt u 10
    · rfl
    · rw [Nat.blt_eq] at hb; omega
  have e1 : u / 10 < 10 ^ 19 := by omega
  rw [Am.decF, hb, cond_false, decF_acc, decF_fuel 19 20 (u / 10) e1 (by omega) (by decide) (by decide)]
theorem dec_step (n : Int) (h : 10 ≤ n ∨ n ≤ -10) (h0 : -9223372036854775808 ≤ n) (h1 : n ≤ 9223372036854775807) :
    Am.decT n = Am.decT (n.tdiv 10) ++ [UInt8.ofNat (48 + (n.tmod 10).natAbs)] := by
  cases n with
  | ofNat u =>
    have hu : 10 ≤ u := by simp only [Int.ofNat_eq_natCast] at h; omega
    have hu2 : u < 10 ^ 20 := by simp only [Int.ofNat_eq_natCast] at h1; omega
    have e1 : (Int.ofNat u).tdiv 10 = Int.ofNat (u / 10) := rfl
    have e2 : (Int.ofNat u).tmod 10 = Int.ofNat (u % 10) := rfl
    rw [e1, e2]
    show Am.decF 20 u [] = Am.decF 20 (u / 10) [] ++ _
    rw [decF_ten hu hu2]
    rfl
  | negSucc u =>
    have hu : 10 ≤ u + 1 := by omega
    have e1 : (Int.negSucc u).tdiv 10 = -Int.ofNat ((u + 1) / 10) := rfl
    have e2 : (Int.negSucc u).tmod 10 = -Int.ofNat ((u + 1) % 10) := rfl
    obtain ⟨v, hv⟩ : ∃ v, (u + 1) / 10 = v + 1 := ⟨(u + 1) / 10 - 1, by omega⟩
    rw [e1, e2, hv]
    have e3 : -Int.ofNat (v + 1) = Int.negSucc v := rfl
    rw [e3]
    show 45 :: Am.decF 20 (u + 1) [] = (45 :: Am.decF 20 (v + 1) []) ++ _
    rw [decF_ten hu (by omega), hv]
    simp
    congr 1

theorem ten_facts (n : Int) (h0 : -9223372036854775808 ≤ n) (h1 : n ≤ 9223372036854775807) :
    (-922337203685477580 ≤ n.tdiv 10 ∧ n.tdiv 10 ≤ 922337203685477580) ∧ (-9 ≤ n.tmod 10 ∧ n.tmod 10 ≤ 9) ∧ ((10 ≤ n ∨ n ≤ -10) → n.tdiv 10 ≠ 0) := by
  cases n with
  | ofNat u =>
    have e1 : (Int.ofNat u).tdiv 10 = ((u / 10 : Nat) : Int) := rfl
    have e2 : (Int.ofNat u).tmod 10 = ((u % 10 : Nat) : Int) := rfl
    rw [e1, e2]
    simp only [Int.ofNat_eq_natCast] at h0 h1 ⊢
    omega
  | negSucc u =>
    have e1 : (Int.negSucc u).tdiv 10 = -(((u + 1) / 10 : Nat) : Int) := rfl
    have e2 : (Int.negSucc u).tmod 10 = -(((u + 1) % 10 : Nat) : Int) := rfl
    rw [e1, e2]
    omega
theorem digits_small : ((List.range 19).all fun k => Am.sayV (.a (.s (.str (Am.decT ((k : Int) - 9))))) (@Am.runs Am.Know.nought (Am.tyOf Tryd.prog) (Am.fnOf Tryd.prog) Am.noneO 5 3 114 [.s (.int .i64 ((k : Int) - 9))] ⟨[], 0⟩ 0)) = true := by kernel_rfl
theorem digits_lo (n : Int) (w : World) (h0 : -9 ≤ n) (h1 : n ≤ 9) : Calls Tryd.prog 114 #[.int .i64 n] w fun e w' => e = .returned (.string ⟨(Am.decT n).toArray⟩) ∧ Below w.heap.size w w' := by
  obtain ⟨k, hk, rfl⟩ : ∃ k : Nat, k < 19 ∧ n = (k : Int) - 9 := ⟨(n + 9).toNat, by omega, by omega⟩
  have h := List.all_eq_true.1 digits_small k (List.mem_range.2 hk)
  have ok := Am.KnowOk.nought (fun _ => 0) (fun _ => [])
  letI : Am.Base := Am.baseN w ok
  have hS := Am.sound_runsN ok (@Am.sound_noneO w _ _ _ ok) 5 3
  cases hr : @Am.runs Am.Know.nought (Am.tyOf Tryd.prog) (Am.fnOf Tryd.prog) Am.noneO 5 3 114 [.s (.int .i64 ((k : Int) - 9))] ⟨[], 0⟩ 0 with
  | none => rw [hr] at h; cases h
  | some p =>
    obtain ⟨v, h'⟩ := p
    rw [hr] at h
    have hv := Am.V.same_ok (show Am.V.same v _ = true from h)
    subst hv
    exact (Am.calls_flat w (Nat.zero_le _) (fun k hk => absurd hk (Nat.not_lt_zero k)) hS (args := [.s (.int .i64 ((k : Int) - 9))]) (vs := [.int .i64 ((k : Int) - 9)]) ⟨rfl, trivial⟩ hr).mono fun e w' ⟨u, r', e1, e2, e3⟩ => ⟨by rw [e1, show u = _ from e2], e3⟩
theorem digits_any : ∀ (k : Nat) (n : Int), n.natAbs < 10 ^ (k + 1) → -9223372036854775808 ≤ n → n ≤ 9223372036854775807 → ∀ w,
    Calls Tryd.prog 114 #[.int .i64 n] w fun e w' => e = .returned (.string ⟨(Am.decT n).toArray⟩) ∧ Below w.heap.size w w'
  | 0, n, h, _, _, w => digits_lo n w (by omega) (by omega)
  | k + 1, n, h, h0, h1, w => by
    by_cases hb : 10 ≤ n ∨ n ≤ -10
    · have hqn : (n.tdiv 10).natAbs < 10 ^ (k + 1) := by
        rw [Int.natAbs_tdiv]
        have : n.natAbs < 10 ^ (k + 1) * 10 := by rw [← Nat.pow_succ]; exact h
        have : n.natAbs / 10 < 10 ^ (k + 1) := by omega
        exact this
      obtain ⟨⟨f1, f2⟩, ⟨f3, f4⟩, f5⟩ := ten_facts n h0 h1
      have f5 := f5 hb
      have ih := fun W => digits_any k (n.tdiv 10) hqn (by omega) (by omega) W
      have hsz : (⟨(Am.decT (n.tdiv 10)).toArray⟩ : ByteArray).size ≤ 30 := by
        show (Am.decT (n.tdiv 10)).toArray.size ≤ 30
        have := Am.decT_len (n.tdiv 10)
        simp
        omega
      rw [dec_step n hb h0 h1]
      by_cases hm : 0 ≤ n.tmod 10
      · have := digits_pos n (n.tdiv 10) (n.tmod 10) w rfl rfl f5 hm f4 ⟨f1, f2⟩ _ ih hsz
        refine this.mono fun e w' ⟨e1, e2⟩ => ⟨?_, e2⟩
        rw [e1, str_two]
        rw [show (48 + n.tmod 10).toNat = 48 + (n.tmod 10).natAbs by omega]
        simp
      · have := digits_neg n (n.tdiv 10) (n.tmod 10) w rfl rfl f5 (by omega) f3 ⟨f1, f2⟩ _ ih hsz
        refine this.mono fun e w' ⟨e1, e2⟩ => ⟨?_, e2⟩
        rw [e1, str_two]
        rw [show (48 + -n.tmod 10).toNat = 48 + (n.tmod 10).natAbs by omega]
        simp
    · exact digits_lo n w (by omega) (by omega)
theorem digits_ok (n : Int) (h0 : -9223372036854775808 ≤ n) (h1 : n ≤ 9223372036854775807) (w : World) :
    Calls Tryd.prog 114 #[.int .i64 n] w fun e w' => e = .returned (.string ⟨(Am.decT n).toArray⟩) ∧ Below w.heap.size w w' :=
  digits_any 20 n (by omega) h0 h1 w
end Go.Proofs.YtaamdiknefodgaaDoor
