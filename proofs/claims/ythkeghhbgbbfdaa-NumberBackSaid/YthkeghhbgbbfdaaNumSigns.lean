/- The walk of NumberSigns. -/
import Derived.Test.YthkeghhbgbbfdaaNumOrder
import Derived.Test.YthkeghhbgbbfdaaRegion
namespace Go.Proofs.Ythkeghhbgbbfdaa
open Go.RowKit

theorem putSigned_row (n : Int) (w : World) (h0 : -9223372036854775808 ≤ n) (h1 : n ≤ 9223372036854775807) :
    Calls Try.prog 19 #[.int .i64 n] w fun e w' => ∃ A cap, e = .returned (.slice A (Num.put (Num.fold n)).length cap) ∧ (Num.put (Num.fold n)).length ≤ cap ∧ Row w' w'.heap.size .u8 A (Num.put (Num.fold n)) ∧ Below w.heap.size w w' :=
  (putSigned_any n w h0 h1).mono fun _ w' ⟨v, he, hown, hb⟩ => by
    obtain ⟨A, cap, rfl, hc, _, hr, _⟩ := Row.of_own hown
    exact ⟨A, cap, he, hc, hr, hb⟩
theorem refPutSigned_row (n : Int) (w : World) (h0 : -9223372036854775808 ≤ n) (h1 : n ≤ 9223372036854775807) :
    Calls Try.prog 21 #[.int .i64 n] w fun e w' => ∃ A cap, e = .returned (.slice A (Num.put (Num.fold n)).length cap) ∧ (Num.put (Num.fold n)).length ≤ cap ∧ Row w' w'.heap.size .u8 A (Num.put (Num.fold n)) ∧ Below w.heap.size w w' :=
  (refPutSigned_any n w h0 h1).mono fun _ w' ⟨v, he, hown, hb⟩ => by
    obtain ⟨A, cap, rfl, hc, _, hr, _⟩ := Row.of_own hown
    exact ⟨A, cap, he, hc, hr, hb⟩

set_option maxHeartbeats 1600000 in
theorem signs_any (n p : Int) (A : Option Addr) (cap : Nat) (xs : List Int) (w : World) (h0 : -9223372036854775808 ≤ n) (h1 : n ≤ 9223372036854775807) (hr : Row w w.heap.size .u8 A xs) (hx : ∀ c ∈ xs, 0 ≤ c ∧ c < 256)
    (hcap : xs.length ≤ cap) (hp0 : -9223372036854775808 ≤ p) (hp1 : p ≤ 9223372036854775807) :
    Calls Try.prog 8 #[.int .i64 n, .slice A xs.length cap, .int .i64 p] w fun e w' => e = .returned (.bool true) ∧ Below w.heap.size w w' := by
  by_cases hbig : 200 < xs.length
  · go_enter Try.func8, Try.ntmps8
    go_wp2
    go_ret
    exact ⟨rfl, Below.refl _ _⟩
  · have HC := Lib.hid (getSigned_any A cap _ xs p w hr hx hcap (by omega) hp0 hp1)
    have HC2 := Lib.hid (refGetSigned_any A cap _ xs p w hr hx (by omega) hp1)
    clear hr hx
    generalize Num.get xs p = r at *
    generalize Num.back r.1 = bk at *
    generalize r.2.1 = nx at *
    generalize r.2.2 = er at *
    go_enter Try.func8, Try.ntmps8
    go_wp2_with (first | (go_at_call 16; refine HC.out.mono ?_; rintro e w' ⟨rfl, rfl⟩) | (go_at_call 20; refine HC2.out.mono ?_; rintro e w' ⟨rfl, rfl⟩))
    refine region_seq [(0, true), (3, true), (1, false), (2, true), (4, false), (5, true), (6, true), (7, true), (8, true), (9, true), (10, true), (11, true), (12, true), (13, true), (14, true), (15, true), (16, true), (17, true), (18, true), (19, true), (20, true), (21, true), (22, true)]
      (by kernel_rfl) (by kernel_rfl) (by decide) (by kernel_rfl) (fun _ _ _ _ _ h => h) ?_
    repeat (refine SeqE.take (v := ?_) rfl (by rfl) (fun W hW => ?_) ?_; rotate_left; (focus (go_simp; with_reducible rfl)); simp only [Act.put, List.setIfInBounds_toArray, List.set_cons_zero, List.set_cons_succ])
    refine SeqE.call (f := ?_) (args := ?_) rfl (by rfl) ?_ ?_
    rotate_left 2
    · (go_simp; first | with_reducible rfl | (refine ⟨?_, ?_⟩ <;> with_reducible rfl))
    refine (putSigned_row _ _ h0 h1).mono ?_
    rintro e w1 ⟨A1, cap1, rfl, hc1, hr1, hb1⟩
    refine ⟨_, rfl, hb1, ?_⟩
    simp only [Act.put, List.setIfInBounds_toArray, List.set_cons_zero, List.set_cons_succ]
    have hv1 := fun W (hW : Ext w1 W) => conv_row Try.underlying23 Try.underlying5 Try.underlying9 (hr1.below (B' := w1.heap.size) (w' := W) hW (Nat.le_refl _)) (cap := cap1)
    repeat (refine SeqE.take (v := ?_) rfl (by rfl) (fun W hW => ?_) ?_; rotate_left; (focus (go_simp; with_reducible rfl)); simp only [Act.put, List.setIfInBounds_toArray, List.set_cons_zero, List.set_cons_succ])
    refine SeqE.call (f := ?_) (args := ?_) rfl (by rfl) ?_ ?_
    rotate_left 2
    · (go_simp; first | with_reducible rfl | (refine ⟨?_, ?_⟩ <;> with_reducible rfl))
    refine (refPutSigned_row _ _ h0 h1).mono ?_
    rintro e w2 ⟨A2, cap2, rfl, hc2, hr2, hb2⟩
    refine ⟨_, rfl, hb2, ?_⟩
    simp only [Act.put, List.setIfInBounds_toArray, List.set_cons_zero, List.set_cons_succ]
    have hv2 := fun W (hW : Ext w2 W) => conv_row Try.underlying23 Try.underlying5 Try.underlying9 (hr2.below (B' := w2.heap.size) (w' := W) hW (Nat.le_refl _)) (cap := cap2)
    have hss : ∀ a : ByteArray, (a.toList == a.toList) = true := fun a => by simp
    repeat (refine SeqE.take (v := ?_) rfl (by rfl) (fun W hW => ?_) ?_; rotate_left; (focus (go_simp; with_reducible rfl)); simp only [Act.put, List.setIfInBounds_toArray, List.set_cons_zero, List.set_cons_succ])
    refine SeqE.done ?_
    go_wp2
    go_ret
    exact ⟨rfl, Ext.trans (Ext.of_drew hb1) hb2⟩

end Go.Proofs.Ythkeghhbgbbfdaa
