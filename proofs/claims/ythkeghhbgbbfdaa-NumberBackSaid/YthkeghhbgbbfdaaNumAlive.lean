/- What the laws' own examples come to: gets, fails, alive. -/
import Derived.Test.YthkeghhbgbbfdaaNumSign
import Derived.Test.YthkeghhbgbbfdaaKit2
namespace Go.Proofs.Ythkeghhbgbbfdaa
open Go.RowKit

set_option maxHeartbeats 400000 in
theorem gets_true (s : ByteArray) (want : Int) (w : World) (hs : s.size ≤ 65536) (hg : Num.get (nums s) 0 = (want, (s.size : Int), 0)) :
    Calls Try.prog 17 #[.string s, .int .u64 want] w fun e w' => e = .returned (.bool true) ∧ Below w.heap.size w w' := by
  obtain ⟨A, cap, w1, hrun, hrow, hcap, hbel, _⟩ := conv_str Try.underlying9 Try.underlying23 Try.underlying5 s w
  have HC := Lib.hid (get_any A cap _ (nums s) 0 w1 hrow (nums_range s) hcap (by rw [nums_len]; omega) (by omega) (by omega))
  rw [hg] at HC
  clear hg hrow
  go_enter Try.func17, Try.ntmps17
  go_wp2_with (go_at_call 10; refine HC.out.mono ?_; rintro e w' ⟨rfl, rfl⟩)
  go_ret
  exact ⟨rfl, hbel⟩

set_option maxHeartbeats 400000 in
theorem fails_true (s : ByteArray) (p want : Int) (w : World) (hs : s.size ≤ 65536) (hp0 : -9223372036854775808 ≤ p) (hp1 : p ≤ 9223372036854775807) (hg : Num.get (nums s) p = (0, 0, want)) :
    Calls Try.prog 18 #[.string s, .int .i64 p, .int .i64 want] w fun e w' => e = .returned (.bool true) ∧ Below w.heap.size w w' := by
  obtain ⟨A, cap, w1, hrun, hrow, hcap, hbel, _⟩ := conv_str Try.underlying9 Try.underlying23 Try.underlying5 s w
  obtain ⟨A2, cap2, w2, hrun2, hrow2, hcap2, hbel2, _⟩ := conv_str Try.underlying9 Try.underlying23 Try.underlying5 s w1
  have HC := Lib.hid (get_any A cap _ (nums s) p w1 hrow (nums_range s) hcap (by rw [nums_len]; omega) (by omega) (by omega))
  have HC2 := Lib.hid (getSigned_any A2 cap2 _ (nums s) p w2 hrow2 (nums_range s) hcap2 (by rw [nums_len]; omega) (by omega) (by omega))
  rw [hg] at HC HC2
  have hb : Num.back ((0, 0, want) : Int × Int × Int).1 = 0 := rfl
  rw [hb] at HC2
  clear hg hrow hrow2 hb
  go_enter Try.func18, Try.ntmps18
  go_wp2_with (first | (go_at_call 10; refine HC.out.mono ?_; rintro e w' ⟨rfl, rfl⟩) | (go_at_call 16; refine HC2.out.mono ?_; rintro e w' ⟨rfl, rfl⟩))
  go_ret
  exact ⟨rfl, hbel.trans (hbel2.mono hbel.size)⟩

/-- Put, where what it puts is turned into a string -/
theorem put_str (w0 : World) (n : Int) (w : World) (hB : Below w0.heap.size w0 w) (h0 : 0 ≤ n) (h1 : n ≤ 18446744073709551615) :
    Calls Try.prog 12 #[.int .u64 n] w fun e w' => ∃ v, e = .returned v ∧ (convert 23 9 v).run Try.prog w' = .ok (.string (strOfNums (Num.put n))) w' ∧ Below w0.heap.size w0 w' :=
  (put_any n w h0 h1).mono fun _ w' ⟨v, he, hown, hb⟩ => ⟨v, he, conv_own Try.underlying23 Try.underlying5 Try.underlying9 hown w' (Below.refl _ _), hB.trans (hb.mono hB.size)⟩
theorem putSigned_str (w0 : World) (n : Int) (w : World) (hB : Below w0.heap.size w0 w) (h0 : -9223372036854775808 ≤ n) (h1 : n ≤ 9223372036854775807) :
    Calls Try.prog 19 #[.int .i64 n] w fun e w' => ∃ v, e = .returned v ∧ (convert 23 9 v).run Try.prog w' = .ok (.string (strOfNums (Num.put (Num.fold n)))) w' ∧ Below w0.heap.size w0 w' :=
  (putSigned_any n w h0 h1).mono fun _ w' ⟨v, he, hown, hb⟩ => ⟨v, he, conv_own Try.underlying23 Try.underlying5 Try.underlying9 hown w' (Below.refl _ _), hB.trans (hb.mono hB.size)⟩

set_option maxHeartbeats 800000 in
theorem alive_any (w : World) : Calls Try.prog 15 #[] w fun e w' => e = .returned (.bool true) ∧ Below w.heap.size w w' := by
  have e1 : Num.get [128, 0] 0 = (0, 0, 12) := by decide +kernel
  have e2 : Num.get [128] 0 = (0, 0, 24) := by decide +kernel
  have HC1 := fun e m => Lib.hid (get_any (some ⟨w.heap.size, 0, none⟩) 2 (w.heap.size + 1) [128, 0] 0 _ (Row.new w .u8 e m [128, 0]) (by decide) (by decide) (by decide) (by decide) (by decide))
  have HC2 := fun o e m => Lib.hid (get_any (some ⟨w.heap.size + 1, 0, none⟩) 1 (w.heap.size + 1 + 1) [128] 0 _ (Row.newAt (w.alloc o) .u8 e m [128] _ (by simp)) (by decide) (by decide) (by decide) (by decide) (by decide))
  simp only [e1] at HC1
  simp only [e2] at HC2
  clear e1 e2
  have hB : ∀ o1 o2, Below w.heap.size w ((w.alloc o1).alloc o2) := fun o1 o2 => ((Below.refl _ _).alloc (Nat.le_refl _) o1).alloc (by simp) o2
  have s0 : strOfNums (Num.put 0) = ⟨#[0]⟩ := by decide +kernel
  have s127 : strOfNums (Num.put 127) = ⟨#[127]⟩ := by decide +kernel
  have s128 : strOfNums (Num.put 128) = ⟨#[128, 1]⟩ := by decide +kernel
  have s300 : strOfNums (Num.put 300) = ⟨#[172, 2]⟩ := by decide +kernel
  have sm1 : strOfNums (Num.put (Num.fold (-1))) = ⟨#[1]⟩ := by decide +kernel
  have s1 : strOfNums (Num.put (Num.fold 1)) = ⟨#[2]⟩ := by decide +kernel
  go_enter Try.func15, Try.ntmps15
  go_wp2_with fail
  refine (HC1 _ _).out.mono ?_
  rintro e w' ⟨rfl, rfl⟩
  go_wp2_with fail
  refine (HC2 _ _ _).out.mono ?_
  rintro e w' ⟨rfl, rfl⟩
  go_wp2_with fail
  refine (put_str w _ _ (hB _ _) (by omega) (by omega)).mono ?_
  rintro e w' ⟨v, rfl, hcv, hB1⟩
  go_wp2_with (first | (go_at_call 12; refine (put_str w _ _ (by assumption) (by omega) (by omega)).mono ?_; rintro e w' ⟨v, rfl, hcv, hB1⟩) | (go_at_call 19; refine (putSigned_str w _ _ (by assumption) (by omega) (by omega)).mono ?_; rintro e w' ⟨v, rfl, hcv, hB1⟩))
  go_ret
  exact ⟨rfl, by assumption⟩

end Go.Proofs.Ythkeghhbgbbfdaa
