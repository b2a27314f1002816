/- The walk of NumberBack. -/
import Derived.Test.YthkeghhbgbbfdaaNumSigns
import Derived.Test.YthkeghhbgbbfdaaAppend
namespace Go.Proofs.Ythkeghhbgbbfdaa
open Go.RowKit

set_option maxRecDepth 100000 in
set_option maxHeartbeats 3200000 in
theorem back_law (n m x : Int) (A1 A2 : Option Addr) (cap1 cap2 : Nat) (F G : List Int) (w : World) (h0 : 0 ≤ n) (h1 : n ≤ 18446744073709551615) (g0 : 0 ≤ m) (g1 : m ≤ 18446744073709551615)
    (x0 : -9223372036854775808 ≤ x) (x1 : x ≤ 9223372036854775807) (hF : Row w w.heap.size .u8 A1 F) (hG : Row w w.heap.size .u8 A2 G) (hf : ∀ c ∈ F, 0 ≤ c ∧ c < 256) (hg : ∀ c ∈ G, 0 ≤ c ∧ c < 256) :
    Calls Try.prog 9 #[.int .u64 n, .int .u64 m, .int .i64 x, .slice A1 F.length cap1, .slice A2 G.length cap2] w fun e w' => e = .returned (.bool true) ∧ Below w.heap.size w w' := by
  rcases Nat.lt_or_ge 50 F.length with hb1 | hb1
  · go_enter Try.func9, Try.ntmps9
    go_wp2_with (go_at_call 15; refine (alive_any _).mono ?_; rintro e w' ⟨rfl, hB⟩)
    go_ret
    exact ⟨rfl, hB⟩
  rcases Nat.lt_or_ge 50 G.length with hb2 | hb2
  · have hn : ¬ 50 < F.length := by omega
    go_enter Try.func9, Try.ntmps9
    go_wp2_with (go_at_call 15; refine (alive_any _).mono ?_; rintro e w' ⟨rfl, hB⟩)
    go_ret
    exact ⟨rfl, hB⟩
  have hn1 : ¬ 50 < F.length := by omega
  have hn2 : ¬ 50 < G.length := by omega
  have lp := Num.put_le n (by omega)
  have lq := Num.put_le m (by omega)
  obtain ⟨f0, f1⟩ := Num.fold_range x x0 x1
  have ls := Num.put_le (Num.fold x) (by omega)
  have hxs : ∀ c ∈ F ++ Num.put n ++ Num.put (Num.fold x) ++ G, 0 ≤ c ∧ c < 256 := fun c hc => by
    simp only [List.mem_append] at hc
    rcases hc with ((hc | hc) | hc) | hc
    · exact hf c hc
    · exact Num.put_range n h0 (by omega) c hc
    · exact Num.put_range _ f0 f1 c hc
    · exact hg c hc
  have e1 : Num.get (F ++ Num.put n ++ Num.put (Num.fold x) ++ G) F.length = (n, (F.length : Int) + (Num.put n).length, 0) := by
    have := Num.get_put F (Num.put (Num.fold x) ++ G) n h0 (by omega)
    simpa [List.append_assoc] using this
  have e2 : Num.get (F ++ Num.put n ++ Num.put (Num.fold x) ++ G) ((F.length : Int) + (Num.put n).length) = (Num.fold x, (F.length : Int) + (Num.put n).length + (Num.put (Num.fold x)).length, 0) := by
    have := Num.get_put (F ++ Num.put n) G (Num.fold x) f0 f1
    simpa [List.append_assoc] using this
  have E1 := Lib.hid e1
  have E2 := Lib.hid e2
  have HX := Lib.hid hxs
  clear e1 e2 hxs hf hg
  have hsame : (strOfNums (Num.put n) = strOfNums (Num.put m)) ↔ n = m := by
    rw [str_inj (Num.put_range n h0 (by omega)) (Num.put_range m g0 (by omega))]
    exact Num.put_inj n m h0 (by omega) g0 (by omega)
  have hcmp : ((strOfNums (Num.put n)).toList == (strOfNums (Num.put m)).toList) = (n == m) := by
    rw [same_str, Bool.eq_iff_iff, decide_eq_true_eq, beq_iff_eq]
    exact hsame
  clear hsame
  have HCMP := Lib.hid hcmp
  clear hcmp
  go_enter Try.func9, Try.ntmps9
  go_wp2_with fail
  refine (put_row w _ _ (Below.refl _ _) h0 h1).mono ?_
  rintro e w1 ⟨A3, cap3, rfl, hc3, hr3, hb3, _⟩
  go_wp2_with fail
  refine (put_row w _ _ hb3 g0 g1).mono ?_
  rintro e w2 ⟨A4, cap4, rfl, hc4, hr4, hb4, _⟩
  go_wp2_with fail
  refine (putSigned_row _ _ x0 x1).mono ?_
  rintro e w3 ⟨A5, cap5, rfl, hc5, hr5, hb5⟩
  have hw3 : Below w.heap.size w w3 := Ext.trans (a := w) hb3 (Ext.trans hb4 hb5)
  have r1 : Row w3 w3.heap.size .u8 A1 F := (hF.below hw3 (Nat.le_refl _)).more hw3.size
  have r2 : Row w3 w3.heap.size .u8 A2 G := (hG.below hw3 (Nat.le_refl _)).more hw3.size
  have hb45 : Below w1.heap.size w1 w3 := Ext.trans (a := w1) hb4 hb5
  have r3 : Row w3 w3.heap.size .u8 A3 (Num.put n) := (hr3.below hb45 (Nat.le_refl _)).more hb45.size
  have r4 : Row w3 w3.heap.size .u8 A4 (Num.put m) := (hr4.below hb5 (Nat.le_refl _)).more hb5.size
  clear hF hG hr3 hr4 hb3 hb4 hb5 hb45
  have hbA : Below w3.heap.size w3 (w3.alloc (.cells #[] 5)) := (Below.refl _ w3).alloc (Nat.le_refl _) _
  go_wp2_with (first
    | (at_builtin; refine wpList_appendRow rfl (.tmp 36) (.tmp 37) 23 rfl w3.heap.size 5 (.int .u8 0) 1 Try.underlying23 u8row rfl _ 0 [] rfl (owns_empty w3 5) A1 cap1 w3.heap.size .u8 F rfl (r1.below hbA (Nat.le_refl _)) (by omega) (by omega) hbA (by simp) ?_; intro v1 w4 o1 hbB _)
    | (at_builtin; refine wpList_appendRow rfl (.tmp 38) (.tmp 39) 23 rfl w3.heap.size 5 (.int .u8 0) 1 Try.underlying23 u8row rfl _ _ _ rfl o1 A3 cap3 w3.heap.size .u8 (Num.put n) rfl (r3.below hbB (Nat.le_refl _)) (by omega) (by omega) hbB hbB.size ?_; intro v2 w5 o2 hbC _)
    | (at_builtin; refine wpList_appendRow rfl (.tmp 40) (.tmp 41) 23 rfl w3.heap.size 5 (.int .u8 0) 1 Try.underlying23 u8row rfl _ _ _ rfl o2 A5 cap5 w3.heap.size .u8 (Num.put (Num.fold x)) rfl (hr5.below hbC (Nat.le_refl _)) (by omega) (by omega) hbC hbC.size ?_; intro v3 w6 o3 hbD _)
    | (at_builtin; refine wpList_appendRow rfl (.tmp 42) (.tmp 43) 23 rfl w3.heap.size 5 (.int .u8 0) 1 Try.underlying23 u8row rfl _ _ _ rfl o3 A2 cap2 w3.heap.size .u8 G rfl (r2.below hbD (Nat.le_refl _)) (by omega) (by omega) hbD hbD.size ?_; intro v4 w7 o4 hbE _))
  have o5 : w7.ownsRow w3.heap.size 5 1 v4 (0 + F.length + (Num.put n).length + (Num.put (Num.fold x)).length + G.length) ((F ++ Num.put n ++ Num.put (Num.fold x) ++ G).map (Value.int .u8)) := by
    simpa [List.map_append, List.append_assoc] using o4
  have hlen : (F ++ Num.put n ++ Num.put (Num.fold x) ++ G).length ≤ 1000 := by simp; omega
  generalize F ++ Num.put n ++ Num.put (Num.fold x) ++ G = all at *
  obtain ⟨A6, cap6, rfl, hc6, _, r6, _⟩ := Row.of_own o5
  clear o1 o2 o3 o4 o5 hbA hbB hbC hbD r1 r2 hr5
  have HC := Lib.hid (get_any A6 cap6 _ _ F.length w7 r6 HX.out hc6 (by omega) (by omega) (by omega))
  rw [E1.out] at HC
  have HC2 := Lib.hid (getSigned_any A6 cap6 _ _ ((F.length : Int) + (Num.put n).length) w7 r6 HX.out hc6 (by omega) (by omega) (by omega))
  rw [E2.out] at HC2
  simp only [Num.back_fold] at HC2
  have hv1 := conv_row Try.underlying23 Try.underlying5 Try.underlying9 (r3.below hbE (Nat.le_refl _)) (cap := cap3)
  have hv2 := conv_row Try.underlying23 Try.underlying5 Try.underlying9 (r4.below hbE (Nat.le_refl _)) (cap := cap4)
  have hbw : Below w.heap.size w w7 := Ext.trans (a := w) hw3 hbE
  clear r3 r4 r6 hlen E1 E2 HX
  have c1 : ((F.length : Int) + ((Num.put n).length : Int) != (F.length : Int) + ((Num.put n).length : Int)) = false := by simp
  rcases Bool.eq_false_or_eq_true (n == m) with hnm | hnm
  all_goals
    have hcmp := HCMP.out
    rw [hnm] at hcmp
    go_wp2_with (first
      | (go_at_call 10; refine HC.out.mono ?_; rintro e w' ⟨rfl, rfl⟩)
      | (go_at_call 14; refine (length_any _ _ h0 h1).mono ?_; rintro e w' ⟨rfl, rfl⟩)
      | (go_at_call 16; refine HC2.out.mono ?_; rintro e w' ⟨rfl, rfl⟩)
      | (go_at_call 15; refine (alive_from w _ hbw).mono ?_; rintro e w' ⟨rfl, hB⟩))
    go_ret
    exact ⟨rfl, hB⟩

end Go.Proofs.Ythkeghhbgbbfdaa
