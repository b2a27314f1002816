/- The walk of NumberOnce. -/
import Derived.Test.YthkeghhbgbbfdaaNumSigns
namespace Go.Proofs.Ythkeghhbgbbfdaa
open Go.RowKit

namespace Num
theorem highs_in : ∀ (m : Nat) (l : List Int) (i : Nat), i < highs m l → i < l.length ∧ i < m ∧ 128 ≤ l.getD i 0
  | 0, l, i, h => by simp [highs] at h
  | m + 1, [], i, h => by simp [highs] at h
  | m + 1, c :: cs, i, h => by
    unfold highs at h
    split at h
    · cases i with
      | zero => simp; omega
      | succ i =>
        have := highs_in m cs i (by omega)
        simp only [List.length_cons, List.getD_cons_succ]
        omega
    · omega
theorem highs_end : ∀ (m : Nat) (l : List Int), highs m l = l.length ∨ highs m l = m ∨ highs m l < l.length ∧ l.getD (highs m l) 0 < 128
  | 0, l => by simp [highs]
  | m + 1, [] => by simp [highs]
  | m + 1, c :: cs => by
    unfold highs
    split
    · have := highs_end m cs
      simp only [List.length_cons, List.getD_cons_succ]
      omega
    · simp
      omega
end Num

/-- what the law's loop and tests come to -/
structure Got (xs : List Int) (q H : Nat) (n next err : Int) : Prop where
  short : (err = 24 ↔ q + H = xs.length ∧ H < 10)
  codes : err = 0 ∨ err = 12 ∨ err = 24
  ok : err = 0 → next = (q : Int) + H + 1 ∧ q + H + 1 ≤ xs.length ∧ 0 ≤ n ∧ n ≤ 18446744073709551615 ∧ Num.put n = (xs.drop q).take (H + 1)
theorem got_of (xs : List Int) (q : Nat) (hq : q ≤ xs.length) (hx : ∀ c ∈ xs, 0 ≤ c ∧ c < 256) : Got xs q (Num.highs 10 (xs.drop q)) (Num.get xs q).1 (Num.get xs q).2.1 (Num.get xs q).2.2 := by
  have hl : (xs.drop q).length = xs.length - q := List.length_drop
  have h1 := Num.getL_short (xs.drop q) 0 (by omega)
  have h2 := Num.getL_codes (xs.drop q) 0
  have h3 := fun h => Num.getL_ok (xs.drop q) 0 (by omega) (fun c hc => hx c (List.mem_of_mem_drop hc)) h
  have hh := Num.highs_le 10 (xs.drop q)
  unfold Num.get
  rw [if_neg (by omega), Int.toNat_natCast]
  simp only [Nat.sub_zero] at h1 h3
  split
  · rename_i h0
    obtain ⟨a1, a2, a3, a4, _, a6⟩ := h3 h0
    simp only [Int.pow_zero, Int.mul_one] at a4
    rw [h0] at h1
    refine ⟨?_, Or.inl rfl, fun _ => ⟨by simp only; omega, by omega, a3, by simp only; omega, ?_⟩⟩
    · simp only
      omega
    · simp only
      rw [Num.put_nine _ a4]
      exact a6
  · rename_i h0
    refine ⟨?_, by simp only; omega, fun h => absurd h h0⟩
    simp only
    omega

set_option maxRecDepth 100000 in
set_option maxHeartbeats 3200000 in
theorem once_any (p : Int) (A : Option Addr) (cap : Nat) (xs : List Int) (w : World) (hr : Row w w.heap.size .u8 A xs) (hx : ∀ c ∈ xs, 0 ≤ c ∧ c < 256)
    (hcap : xs.length ≤ cap) (hp0 : -9223372036854775808 ≤ p) (hp1 : p ≤ 9223372036854775807) :
    Calls Try.prog 4 #[.slice A xs.length cap, .int .i64 p] w fun e w' => e = .returned (.bool true) ∧ Below w.heap.size w w' := by
  by_cases hout : 200 < xs.length ∨ p < 0 ∨ (xs.length : Int) < p
  · rcases Nat.lt_or_ge 200 xs.length with hbig | hbig
    · go_enter Try.func4, Try.ntmps4
      go_wp2_with (go_at_call 15; refine (alive_any _).mono ?_; rintro e w' ⟨rfl, hB⟩)
      go_ret
      exact ⟨rfl, hB⟩
    · have hn : ¬ 200 < xs.length := by omega
      rcases Int.lt_or_le p 0 with hneg | hpos
      · go_enter Try.func4, Try.ntmps4
        go_wp2_with (go_at_call 15; refine (alive_any _).mono ?_; rintro e w' ⟨rfl, hB⟩)
        go_ret
        exact ⟨rfl, hB⟩
      · have hgt : (xs.length : Int) < p := by omega
        go_enter Try.func4, Try.ntmps4
        go_wp2_with (go_at_call 15; refine (alive_any _).mono ?_; rintro e w' ⟨rfl, hB⟩)
        go_ret
        exact ⟨rfl, hB⟩
  · obtain ⟨q, rfl⟩ := Int.eq_ofNat_of_zero_le (show 0 ≤ p by omega)
    have hq : q ≤ xs.length := by omega
    have hl200 : xs.length ≤ 200 := by omega
    have d1 : decide (200 < (xs.length : Int)) = false := by simp; omega
    have d2 : decide ((q : Int) < 0) = false := by simp
    have d3 : decide (xs.length < q) = false := by simp; omega
    have HG := got_of xs q hq hx
    have HC := Lib.hid (get_any A cap _ xs q w hr hx hcap (by omega) hp0 hp1)
    have hin := fun i => Num.highs_in 10 (xs.drop q) i
    have hend := Num.highs_end 10 (xs.drop q)
    have hld : (xs.drop q).length = xs.length - q := List.length_drop
    have hget : ∀ i, (xs.drop q).getD i 0 = xs.getD (q + i) 0 := fun i => by simp [List.getD]
    simp only [hget, hld] at hin hend
    have hH := Num.highs_le 10 (xs.drop q)
    rw [hld] at hH
    generalize Num.highs 10 (xs.drop q) = H at *
    have HR := Lib.hid hr
    have HX := Lib.hid hx
    have HI := Lib.hid hin
    have HE := Lib.hid hend
    clear hr hx hin hend hget hld hout
    generalize (Num.get xs q).1 = n at *
    generalize (Num.get xs q).2.1 = nx at *
    generalize (Num.get xs q).2.2 = er at *
    go_enter Try.func4, Try.ntmps4
    go_wp2_with (go_at_call 10; refine HC.out.mono ?_; rintro e w' ⟨rfl, rfl⟩)
    go_loop [8] (fun s8 => ∃ h : Nat, s8 = .int .i64 h ∧ h ≤ H) (fun s8 => H - (intOf s8).toNat)
    case atStart => exact ⟨0, rfl, by omega⟩
    case round =>
      obtain ⟨h, rfl, hh⟩ := hrel
      by_cases hlt : h < H
      · obtain ⟨i1, i2, i3⟩ := HI.out h hlt
        obtain ⟨b, off, rfl, _, hcells⟩ := HR.out (by omega)
        have hcell := hcells (q + h) (by omega)
        have t1 : decide ((q : Int) + (h : Int) < (xs.length : Int)) = true := by simp; omega
        have t2 : decide ((h : Int) < 10) = true := by simp; omega
        clear hcells
        generalize xs.getD (q + h) 0 = c at *
        have t3 : decide (128 ≤ c) = true := by simpa using i3
        go_wp2
        go_round
        case rel => exact ⟨h + 1, by go_num, by omega⟩
        case measure => simp [intOf]; omega
      · obtain rfl : h = H := by omega
        have hx3 : er ≠ 24 → (q + h = xs.length ∧ h = 10) ∨ (q + h < xs.length ∧ h = 10) ∨ (q + h < xs.length ∧ h < 10 ∧ xs.getD (q + h) 0 < 128) := fun hne => by
          have h1 := HE.out
          by_cases h2 : q + h = xs.length ∧ h < 10
          · exact absurd (HG.short.2 h2) hne
          · omega
        rcases HG.codes with he | he | he
        · obtain ⟨hok1, hok2, hok3, hok4, hput⟩ := HG.ok he
          have hx3' := hx3 (by omega)
          clear hx3 HG HE HI HC
          subst he
          subst hok1
          have c1 : ((q : Int) + h + 1 == (q : Int) + h + 1) = true := by simp
          have c2 : decide ((q : Int) + h + 1 ≤ (xs.length : Int)) = true := by simp; omega
          have c3 : decide ((h : Int) < 0) = false := by simp
          obtain ⟨b, off, rfl, hbB, hcells⟩ := HR.out (by omega)
          have hrow : Row w w.heap.size .u8 (some ⟨b, off + q, none⟩) ((xs.drop q).take (h + 1)) := fun _ => by
            refine ⟨b, off + q, rfl, hbB, fun j hj => ?_⟩
            rw [List.length_take, List.length_drop] at hj
            rw [Nat.add_assoc, hcells (q + j) (by omega)]
            simp [List.getD, show j < h + 1 by omega]
          have hlen : ((xs.drop q).take (h + 1)).length = h + 1 := by rw [List.length_take, List.length_drop]; omega
          have hvb := fun W (hW : Ext w.drew W) => conv_row Try.underlying23 Try.underlying5 Try.underlying9 (hrow.below (B' := w.heap.size) (w' := W) (Ext.of_drew hW) (Nat.le_refl _)) (cap := cap - q)
          rw [hlen] at hvb
          clear hlen hrow
          have hss : ∀ a : ByteArray, (a.toList == a.toList) = true := fun a => by simp
          have hS : strOfNums (Num.put n) = strOfNums ((xs.drop q).take (h + 1)) := by rw [hput]
          clear hput
          generalize strOfNums ((xs.drop q).take (h + 1)) = S at *
          rcases hx3' with ⟨x1, x2⟩ | ⟨x1, x2⟩ | ⟨x1, x2, x3⟩
          · have t1 : decide ((q : Int) + (h : Int) < (xs.length : Int)) = false := by simp; omega
            have t2 : decide ((h : Int) < 10) = false := by simp; omega
            have t3 : ((q : Int) + (h : Int) == (xs.length : Int)) = true := by simp; omega
            clear x1 x2 hcells
            go_wp2
            have hw1 : IntKind.i64.wrap ((q : Int) + (h : Int)) = (q : Int) + (h : Int) := IntWalk.i64_in _ (by omega)
            have hw2 : IntKind.i64.wrap ((q : Int) + (h : Int) + 1) = (q : Int) + (h : Int) + 1 := IntWalk.i64_in _ (by omega)
            have s1 : (0 : Int) ≤ (q : Int) + (h : Int) + 1 := by omega
            have s2 : (q : Int) + (h : Int) + 1 ≤ (cap : Int) := by omega
            have s3 : ((q : Int) + (h : Int) + 1).toNat = q + h + 1 := by omega
            have s4 : q ≤ q + h + 1 := by omega
            have s5 : ¬ cap = q := by omega
            have s6 : q + h + 1 - q = h + 1 := by omega
            refine region_seq [(0, true), (1, true), (2, true), (3, true), (4, true), (5, true), (6, true), (7, true), (8, true), (9, true), (10, true), (11, true), (12, true), (13, true), (16, true), (17, true), (18, true), (19, true), (20, true), (14, false), (15, true), (21, true), (22, true), (23, true), (24, false), (25, true), (26, true)]
              (by kernel_rfl) (by kernel_rfl) (by decide) (by kernel_rfl) (fun _ _ _ _ _ h => h) ?_
            repeat (refine SeqE.take (v := ?_) rfl (by rfl) (fun W hW => ?_) ?_; rotate_left; (focus (go_simp; with_reducible rfl)); simp only [Act.put, List.setIfInBounds_toArray, List.set_cons_zero, List.set_cons_succ])
            refine SeqE.call (f := ?_) (args := ?_) rfl (by rfl) ?_ ?_
            rotate_left 2
            · (go_simp; first | with_reducible rfl | (refine ⟨?_, ?_⟩ <;> with_reducible rfl))
            refine (put_row w _ _ (Below.refl _ _).drew hok3 hok4).mono ?_
            rintro e w2 ⟨A3, cap3, rfl, hc3, hr3, hb3, _⟩
            refine ⟨_, rfl, hb3, ?_⟩
            simp only [Act.put, List.setIfInBounds_toArray, List.set_cons_zero, List.set_cons_succ]
            have hv3 := fun W (hW : Ext w2 W) => conv_row Try.underlying23 Try.underlying5 Try.underlying9 (hr3.below (B' := w2.heap.size) (w' := W) hW (Nat.le_refl _)) (cap := cap3)
            rw [hS] at hv3
            repeat (refine SeqE.take (v := ?_) rfl (by rfl) (fun W hW => ?_) ?_; rotate_left; (focus (go_simp; with_reducible rfl)); simp only [Act.put, List.setIfInBounds_toArray, List.set_cons_zero, List.set_cons_succ])
            refine SeqE.call (f := ?_) (args := ?_) rfl (by rfl) ?_ ?_
            rotate_left 2
            · (go_simp; first | with_reducible rfl | (refine ⟨?_, ?_⟩ <;> with_reducible rfl))
            refine (alive_any _).mono ?_
            rintro e w4 ⟨rfl, hb4⟩
            refine ⟨_, rfl, hb4, ?_⟩
            simp only [Act.put, List.setIfInBounds_toArray, List.set_cons_zero, List.set_cons_succ]
            repeat (refine SeqE.take (v := ?_) rfl (by rfl) (fun W hW => ?_) ?_; rotate_left; (focus (go_simp; with_reducible rfl)); simp only [Act.put, List.setIfInBounds_toArray, List.set_cons_zero, List.set_cons_succ])
            refine SeqE.done ?_
            go_wp2
            go_ret
            exact ⟨rfl, Ext.trans (Ext.of_drew hb3) hb4⟩
          · have t1 : decide ((q : Int) + (h : Int) < (xs.length : Int)) = true := by simp; omega
            have t2 : decide ((h : Int) < 10) = false := by simp; omega
            have t3 : ((q : Int) + (h : Int) == (xs.length : Int)) = false := by simp; omega
            clear x1 x2 hcells
            go_wp2
            have hw1 : IntKind.i64.wrap ((q : Int) + (h : Int)) = (q : Int) + (h : Int) := IntWalk.i64_in _ (by omega)
            have hw2 : IntKind.i64.wrap ((q : Int) + (h : Int) + 1) = (q : Int) + (h : Int) + 1 := IntWalk.i64_in _ (by omega)
            have s1 : (0 : Int) ≤ (q : Int) + (h : Int) + 1 := by omega
            have s2 : (q : Int) + (h : Int) + 1 ≤ (cap : Int) := by omega
            have s3 : ((q : Int) + (h : Int) + 1).toNat = q + h + 1 := by omega
            have s4 : q ≤ q + h + 1 := by omega
            have s5 : ¬ cap = q := by omega
            have s6 : q + h + 1 - q = h + 1 := by omega
            refine region_seq [(0, true), (1, true), (2, true), (3, true), (4, true), (5, true), (6, true), (7, true), (8, true), (9, true), (10, true), (11, true), (12, true), (13, true), (16, true), (17, true), (18, true), (19, true), (20, true), (14, false), (15, true), (21, true), (22, true), (23, true), (24, false), (25, true), (26, true)]
              (by kernel_rfl) (by kernel_rfl) (by decide) (by kernel_rfl) (fun _ _ _ _ _ h => h) ?_
            repeat (refine SeqE.take (v := ?_) rfl (by rfl) (fun W hW => ?_) ?_; rotate_left; (focus (go_simp; with_reducible rfl)); simp only [Act.put, List.setIfInBounds_toArray, List.set_cons_zero, List.set_cons_succ])
            refine SeqE.call (f := ?_) (args := ?_) rfl (by rfl) ?_ ?_
            rotate_left 2
            · (go_simp; first | with_reducible rfl | (refine ⟨?_, ?_⟩ <;> with_reducible rfl))
            refine (put_row w _ _ (Below.refl _ _).drew hok3 hok4).mono ?_
            rintro e w2 ⟨A3, cap3, rfl, hc3, hr3, hb3, _⟩
            refine ⟨_, rfl, hb3, ?_⟩
            simp only [Act.put, List.setIfInBounds_toArray, List.set_cons_zero, List.set_cons_succ]
            have hv3 := fun W (hW : Ext w2 W) => conv_row Try.underlying23 Try.underlying5 Try.underlying9 (hr3.below (B' := w2.heap.size) (w' := W) hW (Nat.le_refl _)) (cap := cap3)
            rw [hS] at hv3
            repeat (refine SeqE.take (v := ?_) rfl (by rfl) (fun W hW => ?_) ?_; rotate_left; (focus (go_simp; with_reducible rfl)); simp only [Act.put, List.setIfInBounds_toArray, List.set_cons_zero, List.set_cons_succ])
            refine SeqE.call (f := ?_) (args := ?_) rfl (by rfl) ?_ ?_
            rotate_left 2
            · (go_simp; first | with_reducible rfl | (refine ⟨?_, ?_⟩ <;> with_reducible rfl))
            refine (alive_any _).mono ?_
            rintro e w4 ⟨rfl, hb4⟩
            refine ⟨_, rfl, hb4, ?_⟩
            simp only [Act.put, List.setIfInBounds_toArray, List.set_cons_zero, List.set_cons_succ]
            repeat (refine SeqE.take (v := ?_) rfl (by rfl) (fun W hW => ?_) ?_; rotate_left; (focus (go_simp; with_reducible rfl)); simp only [Act.put, List.setIfInBounds_toArray, List.set_cons_zero, List.set_cons_succ])
            refine SeqE.done ?_
            go_wp2
            go_ret
            exact ⟨rfl, Ext.trans (Ext.of_drew hb3) hb4⟩
          · have hcell := hcells (q + h) x1
            have t0 : (q : Int) + (h : Int) < (xs.length : Int) := by omega
            have t1 : decide ((q : Int) + (h : Int) < (xs.length : Int)) = true := by simp; omega
            have t2 : decide ((h : Int) < 10) = true := by simp; omega
            have t3 : ((q : Int) + (h : Int) == (xs.length : Int)) = false := by simp; omega
            clear hcells x1
            generalize xs.getD (q + h) 0 = c at *
            have t4 : decide (128 ≤ c) = false := by simp; omega
            go_wp2
            have hw1 : IntKind.i64.wrap ((q : Int) + (h : Int)) = (q : Int) + (h : Int) := IntWalk.i64_in _ (by omega)
            have hw2 : IntKind.i64.wrap ((q : Int) + (h : Int) + 1) = (q : Int) + (h : Int) + 1 := IntWalk.i64_in _ (by omega)
            have s1 : (0 : Int) ≤ (q : Int) + (h : Int) + 1 := by omega
            have s2 : (q : Int) + (h : Int) + 1 ≤ (cap : Int) := by omega
            have s3 : ((q : Int) + (h : Int) + 1).toNat = q + h + 1 := by omega
            have s4 : q ≤ q + h + 1 := by omega
            have s5 : ¬ cap = q := by omega
            have s6 : q + h + 1 - q = h + 1 := by omega
            refine region_seq [(0, true), (1, true), (2, true), (3, true), (4, true), (5, true), (6, true), (7, true), (8, true), (9, true), (10, true), (11, true), (12, true), (13, true), (16, true), (17, true), (18, true), (19, true), (20, true), (14, false), (15, true), (21, true), (22, true), (23, true), (24, false), (25, true), (26, true)]
              (by kernel_rfl) (by kernel_rfl) (by decide) (by kernel_rfl) (fun _ _ _ _ _ h => h) ?_
            repeat (refine SeqE.take (v := ?_) rfl (by rfl) (fun W hW => ?_) ?_; rotate_left; (focus (go_simp; with_reducible rfl)); simp only [Act.put, List.setIfInBounds_toArray, List.set_cons_zero, List.set_cons_succ])
            refine SeqE.call (f := ?_) (args := ?_) rfl (by rfl) ?_ ?_
            rotate_left 2
            · (go_simp; first | with_reducible rfl | (refine ⟨?_, ?_⟩ <;> with_reducible rfl))
            refine (put_row w _ _ (Below.refl _ _).drew hok3 hok4).mono ?_
            rintro e w2 ⟨A3, cap3, rfl, hc3, hr3, hb3, _⟩
            refine ⟨_, rfl, hb3, ?_⟩
            simp only [Act.put, List.setIfInBounds_toArray, List.set_cons_zero, List.set_cons_succ]
            have hv3 := fun W (hW : Ext w2 W) => conv_row Try.underlying23 Try.underlying5 Try.underlying9 (hr3.below (B' := w2.heap.size) (w' := W) hW (Nat.le_refl _)) (cap := cap3)
            rw [hS] at hv3
            repeat (refine SeqE.take (v := ?_) rfl (by rfl) (fun W hW => ?_) ?_; rotate_left; (focus (go_simp; with_reducible rfl)); simp only [Act.put, List.setIfInBounds_toArray, List.set_cons_zero, List.set_cons_succ])
            refine SeqE.call (f := ?_) (args := ?_) rfl (by rfl) ?_ ?_
            rotate_left 2
            · (go_simp; first | with_reducible rfl | (refine ⟨?_, ?_⟩ <;> with_reducible rfl))
            refine (alive_any _).mono ?_
            rintro e w4 ⟨rfl, hb4⟩
            refine ⟨_, rfl, hb4, ?_⟩
            simp only [Act.put, List.setIfInBounds_toArray, List.set_cons_zero, List.set_cons_succ]
            repeat (refine SeqE.take (v := ?_) rfl (by rfl) (fun W hW => ?_) ?_; rotate_left; (focus (go_simp; with_reducible rfl)); simp only [Act.put, List.setIfInBounds_toArray, List.set_cons_zero, List.set_cons_succ])
            refine SeqE.done ?_
            go_wp2
            go_ret
            exact ⟨rfl, Ext.trans (Ext.of_drew hb3) hb4⟩
        · have hx3' := hx3 (by omega)
          clear hx3 HG HE HI HC
          subst he
          rcases hx3' with ⟨x1, x2⟩ | ⟨x1, x2⟩ | ⟨x1, x2, x3⟩
          · have t1 : decide ((q : Int) + (h : Int) < (xs.length : Int)) = false := by simp; omega
            have t2 : decide ((h : Int) < 10) = false := by simp; omega
            have t3 : ((q : Int) + (h : Int) == (xs.length : Int)) = true := by simp; omega
            clear x1 x2
            go_wp2_with (go_at_call 15; refine (alive_any _).mono ?_; rintro e w' ⟨rfl, hB⟩)
            go_ret
            exact ⟨rfl, hB⟩
          · have t1 : decide ((q : Int) + (h : Int) < (xs.length : Int)) = true := by simp; omega
            have t2 : decide ((h : Int) < 10) = false := by simp; omega
            have t3 : ((q : Int) + (h : Int) == (xs.length : Int)) = false := by simp; omega
            clear x1 x2
            go_wp2_with (go_at_call 15; refine (alive_any _).mono ?_; rintro e w' ⟨rfl, hB⟩)
            go_ret
            exact ⟨rfl, hB⟩
          · obtain ⟨b, off, rfl, _, hcells⟩ := HR.out (by omega)
            have hcell := hcells (q + h) x1
            have t0 : (q : Int) + (h : Int) < (xs.length : Int) := by omega
            have t1 : decide ((q : Int) + (h : Int) < (xs.length : Int)) = true := by simp; omega
            have t2 : decide ((h : Int) < 10) = true := by simp; omega
            have t3 : ((q : Int) + (h : Int) == (xs.length : Int)) = false := by simp; omega
            clear hcells x1
            generalize xs.getD (q + h) 0 = c at *
            have t4 : decide (128 ≤ c) = false := by simp; omega
            go_wp2_with (go_at_call 15; refine (alive_any _).mono ?_; rintro e w' ⟨rfl, hB⟩)
            go_ret
            exact ⟨rfl, hB⟩
        · obtain ⟨y1, y2⟩ := HG.short.1 he
          clear hx3 HG HE HI HC
          subst he
          have t1 : decide ((q : Int) + (h : Int) < (xs.length : Int)) = false := by simp; omega
          have t2 : decide ((h : Int) < 10) = true := by simp; omega
          have t3 : ((q : Int) + (h : Int) == (xs.length : Int)) = true := by simp; omega
          clear y1
          go_wp2_with (go_at_call 15; refine (alive_any _).mono ?_; rintro e w' ⟨rfl, hB⟩)
          go_ret
          exact ⟨rfl, hB⟩

end Go.Proofs.Ythkeghhbgbbfdaa
