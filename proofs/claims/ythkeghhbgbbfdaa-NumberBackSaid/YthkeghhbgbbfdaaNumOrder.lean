/- The walk of NumberOrder. -/
import Derived.Test.YthkeghhbgbbfdaaNumAlive
import Derived.Deep.RegionWith
namespace Go.Proofs.Ythkeghhbgbbfdaa
open Go.RowKit

/-- Put, its result as a slice that can be read -/
theorem put_row (w0 : World) (n : Int) (w : World) (hB : Below w0.heap.size w0 w) (h0 : 0 ≤ n) (h1 : n ≤ 18446744073709551615) :
    Calls Try.prog 12 #[.int .u64 n] w fun e w' => ∃ A cap, e = .returned (.slice A (Num.put n).length cap) ∧ (Num.put n).length ≤ cap ∧ Row w' w'.heap.size .u8 A (Num.put n) ∧ Below w.heap.size w w' ∧ Below w0.heap.size w0 w' :=
  (put_any n w h0 h1).mono fun _ w' ⟨v, he, hown, hb⟩ => by
    obtain ⟨A, cap, rfl, hc, _, hr, _⟩ := Row.of_own hown
    exact ⟨A, cap, he, hc, hr, hb, hB.trans (hb.mono hB.size)⟩

theorem alive_from (w0 : World) (w : World) (hB : Below w0.heap.size w0 w) : Calls Try.prog 15 #[] w fun e w' => e = .returned (.bool true) ∧ Below w0.heap.size w0 w' :=
  (alive_any w).mono fun _ _ ⟨he, hb⟩ => ⟨he, hB.trans (hb.mono hB.size)⟩

set_option maxHeartbeats 800000 in
theorem order_any (n m : Int) (w : World) (h0 : 0 ≤ n) (h1 : n ≤ 18446744073709551615) (g0 : 0 ≤ m) (g1 : m ≤ 18446744073709551615) :
    Calls Try.prog 5 #[.int .u64 n, .int .u64 m] w fun e w' => e = .returned (.bool true) ∧ Below w.heap.size w w' := by
  rcases Int.lt_or_le n m with hlt | hge
  · have hmono : (Num.put n).length ≤ (Num.put m).length := Num.putF_mono 10 n m h0 (by omega)
    have hp1 := Num.put_pos n
    have hq10 := Num.put_le m (by omega)
    have hd1 : decide ((Num.put m).length < (Num.put n).length) = false := by simp; omega
    have hne : strOfNums (Num.put n) ≠ strOfNums ((Num.put m).take (Num.put n).length) := fun e => by
      rw [str_inj (Num.put_range n h0 (by omega)) (fun c hc => Num.put_range m g0 (by omega) c (List.mem_of_mem_take hc))] at e
      exact absurd (Num.put_prefix n m h0 (by omega) g0 (by omega) e) (by omega)
    go_enter Try.func5, Try.ntmps5
    go_wp2_with fail
    refine (put_row w _ _ (Below.refl _ _) h0 h1).mono ?_
    rintro e w1 ⟨A1, cap1, rfl, hc1, hr1, hb1, hB1⟩
    go_wp2_with fail
    refine (put_row w _ _ hB1 g0 g1).mono ?_
    rintro e w2 ⟨A2, cap2, rfl, hc2, hr2, hb2, hB2⟩
    have hv1 := conv_row Try.underlying23 Try.underlying5 Try.underlying9 (hr1.below hb2 (Nat.le_refl _)).drew (cap := cap1)
    have hv2 := conv_row Try.underlying23 Try.underlying5 Try.underlying9 (hr2.take (Num.put n).length).drew (cap := cap2)
    have hl : ((Num.put m).take (Num.put n).length).length = (Num.put n).length := by rw [List.length_take]; omega
    rw [hl] at hv2
    clear hr1 hr2 hl
    generalize strOfNums (Num.put n) = S1 at *
    generalize strOfNums ((Num.put m).take (Num.put n).length) = S2 at *
    have hn1 : (S1.toList == S2.toList) = false := by rw [same_str]; exact decide_eq_false hne
    clear hne
    go_wp2_with fail
    go_region_with (go_at_call 15; refine (alive_from w _ hB2.drew).mono ?_; rintro e w' ⟨rfl, hB3⟩)
    all_goals (go_wp2; go_ret; exact ⟨rfl, by assumption⟩)
  · go_enter Try.func5, Try.ntmps5
    go_wp2_with (go_at_call 15; refine (alive_any _).mono ?_; rintro e w' ⟨rfl, hB⟩)
    go_ret
    exact ⟨rfl, hB⟩

end Go.Proofs.Ythkeghhbgbbfdaa
