/- The walk of NumberNames. -/
import Derived.Test.YthkeghhbgbbfdaaNumAlive
import Derived.Lib.SlBytesConst
namespace Go.Proofs.Ythkeghhbgbbfdaa
open Go.RowKit

theorem gets_from (w0 : World) (s : ByteArray) (want : Int) (w : World) (hB : Below w0.heap.size w0 w) (hs : s.size ≤ 65536) (hg : Num.get (nums s) 0 = (want, (s.size : Int), 0)) :
    Calls Try.prog 17 #[.string s, .int .u64 want] w fun e w' => e = .returned (.bool true) ∧ Below w0.heap.size w0 w' :=
  (gets_true s want w hs hg).mono fun _ _ ⟨he, hb⟩ => ⟨he, hB.trans (hb.mono hB.size)⟩
theorem fails_from (w0 : World) (s : ByteArray) (p want : Int) (w : World) (hB : Below w0.heap.size w0 w) (hs : s.size ≤ 65536) (hp0 : -9223372036854775808 ≤ p) (hp1 : p ≤ 9223372036854775807) (hg : Num.get (nums s) p = (0, 0, want)) :
    Calls Try.prog 18 #[.string s, .int .i64 p, .int .i64 want] w fun e w' => e = .returned (.bool true) ∧ Below w0.heap.size w0 w' :=
  (fails_true s p want w hs hp0 hp1 hg).mono fun _ _ ⟨he, hb⟩ => ⟨he, hB.trans (hb.mono hB.size)⟩
theorem alive_from (w0 : World) (w : World) (hB : Below w0.heap.size w0 w) : Calls Try.prog 15 #[] w fun e w' => e = .returned (.bool true) ∧ Below w0.heap.size w0 w' :=
  (alive_any w).mono fun _ _ ⟨he, hb⟩ => ⟨he, hB.trans (hb.mono hB.size)⟩

set_option maxRecDepth 100000 in
set_option maxHeartbeats 1600000 in
theorem names_any (w : World) : Calls Try.prog 7 #[] w fun e w' => e = .returned (.bool true) ∧ Below w.heap.size w w' := by
  have kc := fun (w : World) (C : Array Value) (n c : Nat) => Lib.run_convert_bytes_const (P := Try.prog) w 23 5 C n c Try.underlying23 Try.underlying5
  have e1 : Num.back (Num.get [255, 255, 255, 255, 255, 255, 255, 255, 255, 1] 0).1 = -9223372036854775808 ∧ (Num.get [255, 255, 255, 255, 255, 255, 255, 255, 255, 1] 0).2.1 = 10 ∧ (Num.get [255, 255, 255, 255, 255, 255, 255, 255, 255, 1] 0).2.2 = 0 := by decide +kernel
  have e2 : Num.back (Num.get (nums (⟨#[254]⟩ ++ ByteArray.extract ⟨#[255, 255, 255, 255, 255, 255, 255, 255, 255]⟩ 1 9 ++ ⟨#[1]⟩)) 0).1 = 9223372036854775807 ∧ (Num.get (nums (⟨#[254]⟩ ++ ByteArray.extract ⟨#[255, 255, 255, 255, 255, 255, 255, 255, 255]⟩ 1 9 ++ ⟨#[1]⟩)) 0).2.1 = 10 ∧
    (Num.get (nums (⟨#[254]⟩ ++ ByteArray.extract ⟨#[255, 255, 255, 255, 255, 255, 255, 255, 255]⟩ 1 9 ++ ⟨#[1]⟩)) 0).2.2 = 0 := by decide +kernel
  have hw0 : Below w.heap.size w (w.alloc (.cells #[.int .u8 255, .int .u8 255, .int .u8 255, .int .u8 255, .int .u8 255, .int .u8 255, .int .u8 255, .int .u8 255, .int .u8 255, .int .u8 1] 5 (10, 11))) := (Below.refl _ _).alloc (Nat.le_refl _) _
  obtain ⟨A2, cap2, w2, hrun2, hrow2, hcap2, hbel2, _⟩ := conv_str Try.underlying9 Try.underlying23 Try.underlying5 (⟨#[254]⟩ ++ ByteArray.extract ⟨#[255, 255, 255, 255, 255, 255, 255, 255, 255]⟩ 1 9 ++ ⟨#[1]⟩)
    (w.alloc (.cells #[.int .u8 255, .int .u8 255, .int .u8 255, .int .u8 255, .int .u8 255, .int .u8 255, .int .u8 255, .int .u8 255, .int .u8 255, .int .u8 1] 5 (10, 11)))
  have HC1 := Lib.hid (getSigned_any _ 10 _ [255, 255, 255, 255, 255, 255, 255, 255, 255, 1] 0 _ (Row.new w .u8 5 (10, 11) [255, 255, 255, 255, 255, 255, 255, 255, 255, 1]) (by decide) (by decide) (by decide) (by decide) (by decide))
  have HC2 := Lib.hid (getSigned_any A2 cap2 _ _ 0 w2 hrow2 (nums_range _) hcap2 (by rw [nums_len]; decide) (by decide) (by decide))
  rw [e1.1, e1.2.1, e1.2.2] at HC1
  rw [e2.1, e2.2.1, e2.2.2] at HC2
  have hB2 := hw0.trans (hbel2.mono hw0.size)
  have sm : strOfNums (Num.put (Num.fold (-9223372036854775808))) = ⟨#[255, 255, 255, 255, 255, 255, 255, 255, 255, 1]⟩ := by decide +kernel
  have l1 : ((Num.put 18446744073709551615).length : Int) = 10 := by decide +kernel
  have l2 : ((Num.put 0).length : Int) = 1 := by decide +kernel
  clear e1 e2 hrow2 hcap2
  go_enter Try.func7, Try.ntmps7
  go_wp2_with fail
  refine HC1.out.mono ?_
  rintro e w' ⟨rfl, rfl⟩
  go_wp2_with fail
  refine HC2.out.mono ?_
  rintro e w' ⟨rfl, rfl⟩
  clear HC1 HC2 hrun2 hw0 hbel2
  go_wp2_with (first
    | (go_at_call 17; refine (gets_from w _ _ _ (by assumption) (by decide) (by decide +kernel)).mono ?_; rintro e w' ⟨rfl, hB2⟩)
    | (go_at_call 18; refine (fails_from w _ _ _ _ (by assumption) (by decide) (by decide) (by decide) (by decide +kernel)).mono ?_; rintro e w' ⟨rfl, hB2⟩)
    | (go_at_call 14; refine (length_any _ _ (by decide) (by decide)).mono ?_; rintro e w' ⟨rfl, rfl⟩)
    | (go_at_call 19; refine (putSigned_str w _ _ (by assumption) (by decide) (by decide)).mono ?_; rintro e w' ⟨v, rfl, hcv, hB2⟩)
    | (go_at_call 15; refine (alive_from w _ (by assumption)).mono ?_; rintro e w' ⟨rfl, hB2⟩))
  go_outline
  go_ret
  exact ⟨rfl, by assumption⟩

end Go.Proofs.Ythkeghhbgbbfdaa
