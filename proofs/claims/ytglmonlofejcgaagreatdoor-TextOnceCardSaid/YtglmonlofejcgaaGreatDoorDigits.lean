/- The reference's Digits: a number to the base 10. -/
import Derived.Test.YtglmonlofejcgaaGreatDoorTwinA
set_option maxHeartbeats 1600000
set_option maxRecDepth 20000
open Int renaming ofNat → apu, ofNat_eq_natCast → apv, negSucc → apw
open Nat renaming pow_succ → apx, eq_zero_or_pos → apy, blt → apz
namespace Go.Proofs.YtglmonlofejcgaaGreatDoor
open Go.RowKit
theorem KG (w : World) (x : Int) (h0 : 0 <= x) : (convert 64 9 (.slice (some ⟨w.heap.size, 0, none⟩) 1 1)).run Tryz.prog (w.alloc (.cells #[.int .u8 x] 5)) = .ok (.string ⟨#[UInt8.ofNat x.toNat]⟩) (w.alloc (.cells #[.int .u8 x] 5)) := by
 obtain ⟨n, rfl⟩ := Int.eq_ofNat_of_zero_le h0
 rw [run_convert_bytes_string _ 64 9 5 _ 1 1 (by kernel_rfl) (by kernel_rfl) (by kernel_rfl), run_bytesToString _ _ 1 1 [(n : Int)]]
 ·simp
  rfl
 ·simp [loadCells, loadCellsFrom, go_sem]
theorem a2F (a b : Array UInt8) : (⟨a⟩ : ByteArray) ++ ⟨b⟩ = ⟨a ++ b⟩ := by
 apply ByteArray.ext
 simp [ByteArray.data_append]
theorem Ri (w : World) (o : Obj) {w0 : World} (h : Below (w.alloc o).heap.size (w.alloc o) w0) : Below w.heap.size w w0 := by
 have h1 : Below w.heap.size w (w.alloc o) := (Below.refl _ _).alloc (Nat.le_refl _) o
 exact h1.trans (h.mono h1.size)
theorem ZY (n q m : Int) (w : World) (hq : n.tdiv 10 = q) (hm : n.tmod 10 = m) (hq0 : q ≠ 0) (hm0 : 0 <= m) (hm9 : m <= 9) (hqr : -922337203685477580 <= q /\ q <= 922337203685477580) (s : ByteArray)
  (ih : ∀ W, Calls Tryz.prog 111 #[.int .i64 q] W fun e w' => e = .returned (.string s) /\ Below W.heap.size W w') (hs : s.size <= 30) :
  Calls Tryz.prog 111 #[.int .i64 n] w fun e w' => e = .returned (.string (s ++ ⟨#[UInt8.ofNat (48 + m).toNat]⟩)) /\ Below w.heap.size w w' := by
 have hc := KG w (48 + m) (by omega)
 have hb : decide (-m > m) = false := by simp; omega
 go_enter Tryz.func111, Tryz.ntmps111
 go_wp2_with fail
 refine (ih _).mono ?_
 rintro e w0 ⟨rfl, hb0⟩
 go_wp2
 go_ret
 exact ⟨rfl, Ri _ _ hb0⟩
theorem a0Z (n q m : Int) (w : World) (hq : n.tdiv 10 = q) (hm : n.tmod 10 = m) (hq0 : q ≠ 0) (hm0 : m < 0) (hm9 : -9 <= m) (hqr : -922337203685477580 <= q /\ q <= 922337203685477580) (s : ByteArray)
  (ih : ∀ W, Calls Tryz.prog 111 #[.int .i64 q] W fun e w' => e = .returned (.string s) /\ Below W.heap.size W w') (hs : s.size <= 30) :
  Calls Tryz.prog 111 #[.int .i64 n] w fun e w' => e = .returned (.string (s ++ ⟨#[UInt8.ofNat (48 + -m).toNat]⟩)) /\ Below w.heap.size w w' := by
 have hc := KG w (48 + -m) (by omega)
 have hb : decide (-m > m) = true := by simp; omega
 go_enter Tryz.func111, Tryz.ntmps111
 go_wp2_with fail
 refine (ih _).mono ?_
 rintro e w0 ⟨rfl, hb0⟩
 go_wp2
 go_ret
 exact ⟨rfl, Ri _ _ hb0⟩
theorem wL : ∀ (f u : Nat) (acc : List UInt8), Am.jS f u acc = Am.jS f u [] ++ acc
 | 0, _, acc => by simp [Am.jS]
 | f + 1, u, acc => by
  rw [Am.jS, Am.jS]
  cases apz u 10
  ·simp only [cond_false]
   rw [wL f (u / 10) (UInt8.ofNat (48 + u % 10) :: acc), wL f (u / 10) [UInt8.ofNat (48 + u % 10)]]
   simp
  ·simp
theorem SC : ∀ (f g u : Nat), u < 10 ^ f -> u < 10 ^ g -> 0 < f -> 0 < g -> Am.jS f u [] = Am.jS g u []
 | 0, _, _, _, _, h, _ => by omega
 | _, 0, _, _, _, _, h => by omega
 | f + 1, g + 1, u, h1, h2, _, _ => by
  rw [Am.jS, Am.jS]
  cases hb : apz u 10
  ·simp only [cond_false]
   have hu : ¬ u < 10 := fun h => by rw [show apz u 10 = true by rw [Nat.blt_eq]; exact h] at hb; cases hb
   have e1 : u / 10 < 10 ^ f := by rw [apx] at h1; omega
   have e2 : u / 10 < 10 ^ g := by rw [apx] at h2; omega
   have p1 : 0 < f := by
    rcases apy f with rfl | h
    ·simp at e1; omega
    ·exact h
   have p2 : 0 < g := by
    rcases apy g with rfl | h
    ·simp at e2; omega
    ·exact h
   rw [wL f, wL g, SC f g (u / 10) e1 e2 p1 p2]
  ·rfl
theorem Xb {u : Nat} (h : 10 <= u) (h' : u < 10 ^ 20) : Am.jS 20 u [] = Am.jS 20 (u / 10) [] ++ [UInt8.ofNat (48 + u % 10)] := by
 have hb : apz u 10 = false := by
  cases hb : apz u 10
  ·rfl
  ·rw [Nat.blt_eq] at hb; omega
 have e1 : u / 10 < 10 ^ 19 := by omega
 rw [Am.jS, hb, cond_false, wL, SC 19 20 (u / 10) e1 (by omega) (by decide) (by decide)]
theorem aaX (n : Int) (h : 10 <= n \/ n <= -10) (h0 : -9223372036854775808 <= n) (h1 : n <= 9223372036854775807) :
  Am.bM n = Am.bM (n.tdiv 10) ++ [UInt8.ofNat (48 + (n.tmod 10).natAbs)] := by
 cases n with
 | ofNat u =>
  have hu : 10 <= u := by simp only [apv] at h; omega
  have hu2 : u < 10 ^ 20 := by simp only [apv] at h1; omega
  have e1 : (apu u).tdiv 10 = apu (u / 10) := rfl
  have e2 : (apu u).tmod 10 = apu (u % 10) := rfl
  rw [e1, e2]
  show Am.jS 20 u [] = Am.jS 20 (u / 10) [] ++ _
  rw [Xb hu hu2]
  rfl
 | negSucc u =>
  have hu : 10 <= u + 1 := by omega
  have e1 : (apw u).tdiv 10 = -apu ((u + 1) / 10) := rfl
  have e2 : (apw u).tmod 10 = -apu ((u + 1) % 10) := rfl
  obtain ⟨v, hv⟩ : ∃ v, (u + 1) / 10 = v + 1 := ⟨(u + 1) / 10 - 1, by omega⟩
  rw [e1, e2, hv]
  have e3 : -apu (v + 1) = apw v := rfl
  rw [e3]
  show 45 :: Am.jS 20 (u + 1) [] = (45 :: Am.jS 20 (v + 1) []) ++ _
  rw [Xb hu (by omega), hv]
  simp
  congr 1
theorem a8z (n : Int) (h0 : -9223372036854775808 <= n) (h1 : n <= 9223372036854775807) :
  (-922337203685477580 <= n.tdiv 10 /\ n.tdiv 10 <= 922337203685477580) /\ (-9 <= n.tmod 10 /\ n.tmod 10 <= 9) /\ ((10 <= n \/ n <= -10) -> n.tdiv 10 ≠ 0) := by
 cases n with
 | ofNat u =>
  have e1 : (apu u).tdiv 10 = ((u / 10 : Nat) : Int) := rfl
  have e2 : (apu u).tmod 10 = ((u % 10 : Nat) : Int) := rfl
  rw [e1, e2]
  simp only [apv] at h0 h1 |-
  omega
 | negSucc u =>
  have e1 : (apw u).tdiv 10 = -(((u + 1) / 10 : Nat) : Int) := rfl
  have e2 : (apw u).tmod 10 = -(((u + 1) % 10 : Nat) : Int) := rfl
  rw [e1, e2]
  omega
theorem UN : ((List.range 19).all fun k => Am.vY (.a (.s (.str (Am.bM ((k : Int) - 9))))) (@Am.runs Am.Know.nought (Am.mY Tryz.prog) (Am.nC Tryz.prog) Am.nN 5 3 111 [.s (.int .i64 ((k : Int) - 9))] ⟨[], 0⟩ 0)) = true := by kernel_rfl
theorem TS (n : Int) (w : World) (h0 : -9 <= n) (h1 : n <= 9) : Calls Tryz.prog 111 #[.int .i64 n] w fun e w' => e = .returned (.string ⟨(Am.bM n).toArray⟩) /\ Below w.heap.size w w' := by
 obtain ⟨k, hk, rfl⟩ : ∃ k : Nat, k < 19 /\ n = (k : Int) - 9 := ⟨(n + 9).toNat, by omega, by omega⟩
 have h := List.all_eq_true.1 UN k (List.mem_range.2 hk)
 have ok := Am.aG.nought (fun _ => 0) (fun _ => [])
 letI : Am.Base := Am.uJ w ok
 have hS := Am.su ok (@Am.mV w _ _ _ ok) 5 3
 cases hr : @Am.runs Am.Know.nought (Am.mY Tryz.prog) (Am.nC Tryz.prog) Am.nN 5 3 111 [.s (.int .i64 ((k : Int) - 9))] ⟨[], 0⟩ 0 with
 | none => rw [hr] at h; cases h
 | some p =>
  obtain ⟨v, h'⟩ := p
  rw [hr] at h
  have hv := Am.V.jO (show Am.V.same v _ = true from h)
  subst hv
  exact (Am.iC w (Nat.zero_le _) (fun k hk => absurd hk (Nat.not_lt_zero k)) hS (args := [.s (.int .i64 ((k : Int) - 9))]) (vs := [.int .i64 ((k : Int) - 9)]) ⟨rfl, trivial⟩ hr).mono fun e w' ⟨u, r', e1, e2, e3⟩ => ⟨by rw [e1, show u = _ from e2], e3⟩
theorem PN : ∀ (k : Nat) (n : Int), n.natAbs < 10 ^ (k + 1) -> -9223372036854775808 <= n -> n <= 9223372036854775807 -> ∀ w,
  Calls Tryz.prog 111 #[.int .i64 n] w fun e w' => e = .returned (.string ⟨(Am.bM n).toArray⟩) /\ Below w.heap.size w w'
 | 0, n, h, _, _, w => TS n w (by omega) (by omega)
 | k + 1, n, h, h0, h1, w => by
  by_cases hb : 10 <= n \/ n <= -10
  ·have hqn : (n.tdiv 10).natAbs < 10 ^ (k + 1) := by
    rw [Int.natAbs_tdiv]
    have : n.natAbs < 10 ^ (k + 1) * 10 := by rw [<- apx]; exact h
    have : n.natAbs / 10 < 10 ^ (k + 1) := by omega
    exact this
   obtain ⟨⟨f1, f2⟩, ⟨f3, f4⟩, f5⟩ := a8z n h0 h1
   have f5 := f5 hb
   have ih := fun W => PN k (n.tdiv 10) hqn (by omega) (by omega) W
   have hsz : (⟨(Am.bM (n.tdiv 10)).toArray⟩ : ByteArray).size <= 30 := by
    show (Am.bM (n.tdiv 10)).toArray.size <= 30
    have := Am.dY (n.tdiv 10)
    simp
    omega
   rw [aaX n hb h0 h1]
   by_cases hm : 0 <= n.tmod 10
   ·have := ZY n (n.tdiv 10) (n.tmod 10) w rfl rfl f5 hm f4 ⟨f1, f2⟩ _ ih hsz
    refine this.mono fun e w' ⟨e1, e2⟩ => ⟨?_, e2⟩
    rw [e1, a2F]
    rw [show (48 + n.tmod 10).toNat = 48 + (n.tmod 10).natAbs by omega]
    simp
   ·have := a0Z n (n.tdiv 10) (n.tmod 10) w rfl rfl f5 (by omega) f3 ⟨f1, f2⟩ _ ih hsz
    refine this.mono fun e w' ⟨e1, e2⟩ => ⟨?_, e2⟩
    rw [e1, a2F]
    rw [show (48 + -n.tmod 10).toNat = 48 + (n.tmod 10).natAbs by omega]
    simp
  ·exact TS n w (by omega) (by omega)
theorem H6 (n : Int) (h0 : -9223372036854775808 <= n) (h1 : n <= 9223372036854775807) (w : World) :
  Calls Tryz.prog 111 #[.int .i64 n] w fun e w' => e = .returned (.string ⟨(Am.bM n).toArray⟩) /\ Below w.heap.size w w' :=
 PN 20 n (by omega) h0 h1 w
end Go.Proofs.YtglmonlofejcgaaGreatDoor
