/- The walk of NumberCodes. -/
import Derived.Test.YthkeghhbgbbfdaaNumSigns
import Derived.Test.YthkeghhbgbbfdaaAppend
namespace Go.Proofs.Ythkeghhbgbbfdaa
open Go.RowKit

theorem refPut_row (n : Int) (w : World) (h0 : 0 ≤ n) (h1 : n ≤ 18446744073709551615) :
    Calls Try.prog 13 #[.int .u64 n] w fun e w' => ∃ A cap, e = .returned (.slice A (Num.put n).length cap) ∧ (Num.put n).length ≤ cap ∧ Row w' w'.heap.size .u8 A (Num.put n) ∧ Below w.heap.size w w' :=
  (refPut_any n w h0 h1).mono fun _ w' ⟨v, he, hown, hb⟩ => by
    obtain ⟨A, cap, rfl, hc, _, hr, _⟩ := Row.of_own hown
    exact ⟨A, cap, he, hc, hr, hb⟩

set_option maxHeartbeats 1600000 in
theorem codes_any (n p : Int) (A : Option Addr) (cap : Nat) (xs : List Int) (w : World) (h0 : 0 ≤ n) (h1 : n ≤ 18446744073709551615) (hr : Row w w.heap.size .u8 A xs) (hx : ∀ c ∈ xs, 0 ≤ c ∧ c < 256)
    (hp0 : -9223372036854775808 ≤ p) (hp1 : p ≤ 9223372036854775807) :
    Calls Try.prog 3 #[.int .u64 n, .slice A xs.length cap, .int .i64 p] w fun e w' => e = .returned (.bool true) ∧ Below w.heap.size w w' := by
  by_cases hbig : 200 < xs.length
  · go_enter Try.func3, Try.ntmps3
    go_wp2
    go_ret
    exact ⟨rfl, Below.refl _ _⟩
  · go_enter Try.func3, Try.ntmps3
    go_wp2_with (at_builtin; refine wpList_appendRow rfl _ _ 23 rfl w.heap.size 5 (.int .u8 0) 1 Try.underlying23 u8row rfl _ 0 [] rfl (owns_empty w 5) A cap w.heap.size .u8 xs rfl (hr.below ((Below.refl _ w).alloc (Nat.le_refl _) _) (Nat.le_refl _)) (by omega) (by omega) ((Below.refl _ w).alloc (Nat.le_refl _) _) (by simp) ?_; intro v1 w1 hown1 hbel1 hg1)
    simp only [Nat.zero_add, List.nil_append] at hown1
    obtain ⟨A1, cap1, rfl, hc1, _, hr1, _⟩ := Row.of_own hown1
    have hrw : Row w1 w.heap.size .u8 A xs := hr.below hbel1 (Nat.le_refl _)
    have HC := Lib.hid (get_any A1 cap1 _ xs p w1 hr1 hx hc1 (by omega) hp0 hp1)
    have HC2 := Lib.hid (refGet_any A cap _ xs p w1 hrw hx (by omega) hp1)
    have hv1 := fun W (hW : Ext w1 W) => conv_row Try.underlying23 Try.underlying5 Try.underlying9 (hr1.below (B' := w1.heap.size) (w' := W) hW (Nat.le_refl _)) (cap := cap1)
    have hv2 := fun W (hW : Ext w1 W) => conv_row Try.underlying23 Try.underlying5 Try.underlying9 (hrw.below (B' := w1.heap.size) (w' := W) hW hbel1.size) (cap := cap)
    clear hr hr1 hrw hown1 hx hg1
    generalize Num.get xs p = r at *
    generalize r.1 = bk at *
    generalize r.2.1 = nx at *
    generalize r.2.2 = er at *
    generalize strOfNums xs = S at *
    have hss : ∀ a : ByteArray, (a.toList == a.toList) = true := fun a => by simp
    go_wp2_with (first | (go_at_call 10; refine HC.out.mono ?_; rintro e w' ⟨rfl, rfl⟩) | (go_at_call 11; refine HC2.out.mono ?_; rintro e w' ⟨rfl, rfl⟩))
    have hv1 := fun W (hW : Ext w1.drew W) => hv1 W (Ext.of_drew hW)
    have hv2 := fun W (hW : Ext w1.drew W) => hv2 W (Ext.of_drew hW)
    refine region_seq [(0, true), (3, true), (1, false), (2, true), (4, false), (5, true), (6, true), (7, true), (8, true), (10, true), (9, false), (11, false), (12, true), (13, true), (14, true), (15, true), (16, true), (17, true), (18, true), (19, true), (20, true), (21, true), (22, true), (23, true), (24, true), (25, true), (26, true), (27, true), (28, true), (29, true), (30, true), (31, true), (32, true), (33, true), (34, true), (35, true), (36, true), (37, true)]
      (by kernel_rfl) (by kernel_rfl) (by decide) (by kernel_rfl) (fun _ _ _ _ _ h => h) ?_
    repeat (refine SeqE.take (v := ?_) rfl (by rfl) (fun W hW => ?_) ?_; rotate_left; (focus (go_simp; with_reducible rfl)); simp only [Act.put, List.setIfInBounds_toArray, List.set_cons_zero, List.set_cons_succ])
    refine SeqE.call (f := ?_) (args := ?_) rfl (by rfl) ?_ ?_
    rotate_left 2
    · (go_simp; first | with_reducible rfl | (refine ⟨?_, ?_⟩ <;> with_reducible rfl))
    refine (put_row w _ _ hbel1.drew h0 h1).mono ?_
    rintro e w2 ⟨A3, cap3, rfl, hc3, hr3, hb3, _⟩
    refine ⟨_, rfl, hb3, ?_⟩
    simp only [Act.put, List.setIfInBounds_toArray, List.set_cons_zero, List.set_cons_succ]
    have hv3 := fun W (hW : Ext w2 W) => conv_row Try.underlying23 Try.underlying5 Try.underlying9 (hr3.below (B' := w2.heap.size) (w' := W) hW (Nat.le_refl _)) (cap := cap3)
    have hv1 := fun W (hW : Ext w2 W) => hv1 W (Ext.trans hb3 hW)
    have hv2 := fun W (hW : Ext w2 W) => hv2 W (Ext.trans hb3 hW)
    repeat (refine SeqE.take (v := ?_) rfl (by rfl) (fun W hW => ?_) ?_; rotate_left; (focus (go_simp; with_reducible rfl)); simp only [Act.put, List.setIfInBounds_toArray, List.set_cons_zero, List.set_cons_succ])
    refine SeqE.call (f := ?_) (args := ?_) rfl (by rfl) ?_ ?_
    rotate_left 2
    · (go_simp; first | with_reducible rfl | (refine ⟨?_, ?_⟩ <;> with_reducible rfl))
    refine (refPut_row _ _ h0 h1).mono ?_
    rintro e w3 ⟨A4, cap4, rfl, hc4, hr4, hb4⟩
    refine ⟨_, rfl, hb4, ?_⟩
    simp only [Act.put, List.setIfInBounds_toArray, List.set_cons_zero, List.set_cons_succ]
    have hv4 := fun W (hW : Ext w3 W) => conv_row Try.underlying23 Try.underlying5 Try.underlying9 (hr4.below (B' := w3.heap.size) (w' := W) hW (Nat.le_refl _)) (cap := cap4)
    have hv1 := fun W (hW : Ext w3 W) => hv1 W (Ext.trans hb4 hW)
    have hv2 := fun W (hW : Ext w3 W) => hv2 W (Ext.trans hb4 hW)
    have hv3 := fun W (hW : Ext w3 W) => hv3 W (Ext.trans hb4 hW)
    repeat (refine SeqE.take (v := ?_) rfl (by rfl) (fun W hW => ?_) ?_; rotate_left; (focus (go_simp; with_reducible rfl)); simp only [Act.put, List.setIfInBounds_toArray, List.set_cons_zero, List.set_cons_succ])
    refine SeqE.call (f := ?_) (args := ?_) rfl (by rfl) ?_ ?_
    rotate_left 2
    · (go_simp; first | with_reducible rfl | (refine ⟨?_, ?_⟩ <;> with_reducible rfl))
    refine (length_any _ _ h0 h1).mono ?_
    rintro e w' ⟨rfl, rfl⟩
    refine ⟨_, rfl, Ext.refl _, ?_⟩
    simp only [Act.put, List.setIfInBounds_toArray, List.set_cons_zero, List.set_cons_succ]
    refine SeqE.call (f := ?_) (args := ?_) rfl (by rfl) ?_ ?_
    rotate_left 2
    · (go_simp; first | with_reducible rfl | (refine ⟨?_, ?_⟩ <;> with_reducible rfl))
    refine (refPut_row _ _ h0 h1).mono ?_
    rintro e w4 ⟨A5, cap5, rfl, hc5, hr5, hb5⟩
    refine ⟨_, rfl, hb5, ?_⟩
    simp only [Act.put, List.setIfInBounds_toArray, List.set_cons_zero, List.set_cons_succ]
    have hv1 := fun W (hW : Ext w4 W) => hv1 W (Ext.trans hb5 hW)
    have hv2 := fun W (hW : Ext w4 W) => hv2 W (Ext.trans hb5 hW)
    clear hv3 hv4
    repeat (refine SeqE.take (v := ?_) rfl (by rfl) (fun W hW => ?_) ?_; rotate_left; (focus (go_simp; with_reducible rfl)); simp only [Act.put, List.setIfInBounds_toArray, List.set_cons_zero, List.set_cons_succ])
    refine SeqE.done ?_
    go_wp2
    go_ret
    exact ⟨rfl, Ext.trans (a := w) (b := w1) hbel1 (Ext.trans (Ext.of_drew hb3) (Ext.trans hb4 hb5))⟩

end Go.Proofs.Ythkeghhbgbbfdaa
