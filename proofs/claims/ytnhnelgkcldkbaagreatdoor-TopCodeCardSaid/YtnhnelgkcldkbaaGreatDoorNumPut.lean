/- The walks of Put: the program's and the reference's. -/
import Derived.Test.YtnhnelgkcldkbaaGreatDoorNumPlain
import Derived.Test.YtnhnelgkcldkbaaGreatDoorRows
import Derived.Test.YtnhnelgkcldkbaaGreatDoorKit
import Derived.Test.YtnhnelgkcldkbaaGreatDoorNumLen
namespace Go.Proofs.YtnhnelgkcldkbaaGreatDoor
open Go.RowKit

theorem u8row : (Tryz.prog.info? 5).map (fun i => (i.zero, i.size, i.bytes)) = some (some (.int .u8 0), 1, 1) := by kernel_rfl

theorem u8_or128 (q : Int) (h0 : 0 ≤ q) (h1 : q < 256) : bits .or .u8 q 128 = q % 128 + 128 := by
  rw [u8_or q 128 h0 h1 (by omega) (by omega)]
  have h : ∀ m : Fin 256, ((m.val ||| 128 : Nat) : Int) = (m.val : Int) % 128 + 128 := by decide +kernel
  have := h ⟨q.toNat, by omega⟩
  simp only at this
  have e : ((q.toNat : Nat) : Int) = q := by omega
  rw [e] at this
  exact this

set_option maxHeartbeats 400000 in
theorem put_any (n : Int) (w : World) (h0 : 0 ≤ n) (h1 : n ≤ 18446744073709551615) :
    Calls Tryz.prog 38 #[.int .u64 n] w fun e w' =>
      ∃ v, e = .returned v ∧ w'.ownsRow w.heap.size 5 1 v (Num.put n).length ((Num.put n).map (Value.int .u8)) ∧ Below w.heap.size w w' := by
  have hle := Num.put_le n (by omega)
  obtain ⟨C, hC, _, hmk⟩ := make_cells 50 5 (.int .u8 0) 1 Tryz.underlying50 u8row rfl 0 (Num.put n).length (Nat.zero_le _) (by omega) (by omega)
  have hmk := hmk .i64 .i64
  simp only [Int.natCast_zero] at hmk
  have hown0 := World.ownsRow_made (base := w.heap.size) (e := 5) (size := 1) w C (Num.put n).length (Nat.le_refl _) (by simp only [maxLen]; omega) (by omega)
  have hC := Lib.hid hC
  go_enter Tryz.func38, Tryz.ntmps38
  go_wp2_with (go_at_call 87; refine (length_any _ _ h0 h1).mono ?_; rintro e w' ⟨rfl, rfl⟩)
  go_loopw [0, 3] (fun m v wr => ∃ (q : Int) (out : List Int), m = .int .u64 q ∧ 0 ≤ q ∧ q ≤ 18446744073709551615 ∧ Num.put n = out ++ Num.put q ∧
      wr.ownsRow w.heap.size 5 1 v out.length (out.map (Value.int .u8)) ∧ Below w.heap.size w wr) (fun m _ _ => (intOf m).toNat)
  case atStart => exact ⟨n, [], rfl, h0, h1, rfl, by simpa using hown0, (Below.refl _ _).alloc (Nat.le_refl _) _⟩
  case round =>
    clear hmk hown0
    obtain ⟨q, out, rfl, hq0, hq1, hput, hown, hbel⟩ := hrel
    have HP := Lib.hid hput
    clear hput
    have hlen : out.length + 1 ≤ 11 := by have := congrArg List.length HP.out; simp at this; have := Num.put_pos q; omega
    rcases Int.lt_or_le q 128 with hq | hq
    · have hw8 : IntKind.u8.wrap q = q := IntWalk.u8_in q (by omega)
      go_wp2_with (at_builtin; refine wpList_append1 rfl _ _ 50 rfl w.heap.size 5 (.int .u8 0) 1 Tryz.underlying50 u8row rfl _ _ _ rfl hown (.int .u8 q) rfl rfl (by omega) (by omega) hbel hbel.size ?_; intro v1 w1 hown1 hbel1)
      go_ret
      refine ⟨v1, rfl, ?_, hbel1⟩
      rw [HP.out, Num.put_small q hq]
      simpa using hown1
    · have HQ := Lib.hid (Num.put_step q (by omega) hq)
      go_wp2_with (at_builtin; refine wpList_append1 rfl _ _ 50 rfl w.heap.size 5 (.int .u8 0) 1 Tryz.underlying50 u8row rfl _ _ _ rfl hown (.int .u8 (bits .or .u8 (q % 256) 128)) rfl rfl (by omega) (by omega) hbel hbel.size ?_; intro v1 w1 hown1 hbel1)
      have hb : bits .or .u8 (q % 256) 128 = q % 128 + 128 := by rw [u8_or128 _ (by omega) (by omega)]; omega
      rw [hb] at hown1
      have HB := Lib.hid hb
      clear hb
      go_roundw
      case rel => exact ⟨q / 128, out ++ [q % 128 + 128], rfl, by omega, by omega, by rw [HP.out, HQ.out]; simp, by simpa using hown1, hbel1⟩
      case measure => simp [intOf]; omega

end Go.Proofs.YtnhnelgkcldkbaaGreatDoor
