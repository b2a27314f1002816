/- alive06 of the top answers true, whoever calls. -/
import Derived.Test.YtnhnelgkcldkbaaGreatDoorCodRd
import Derived.Test.YtnhnelgkcldkbaaGreatDoorCodN
import Derived.Test.YtnhnelgkcldkbaaGreatDoorNumPut
import Derived.Deep.DeepCutAuto
import Derived.Deep.LoopGhost
import Derived.Deep.MidRow
namespace Go.Proofs.YtnhnelgkcldkbaaGreatDoor.enc
open Go.RowKit Go.Proofs.YtnhnelgkcldkbaaGreatDoor Go.Proofs.YtnhnelgkcldkbaaGreatDoor.Am Go.Proofs.YtnhnelgkcldkbaaGreatDoor.loan Go.Proofs.YtnhnelgkcldkbaaGreatDoor.bld
set_option linter.unusedVariables false
/-- number.Put answers a row of its own -/
def PutR (l : List Int) (W : World) (e : Ending) (W' : World) : Prop := ∃ A c, e = .returned (.slice A l.length c) ∧ l.length ≤ c ∧ c ≤ maxLen ∧ Row W' W'.heap.size .u8 A l ∧ Below W.heap.size W W' ∧ W'.ownsRow W.heap.size 5 1 (.slice A l.length c) l.length (l.map (Value.int .u8))
theorem put_r {n : Int} (h0 : 0 ≤ n) (h1 : n ≤ 18446744073709551615) (W : World) : Calls Tryz.prog 38 #[.int .u64 n] W (PutR (Num.put n) W) := by
  refine (put_any n W h0 h1).mono ?_
  rintro e w' ⟨v, rfl, ho, hb⟩
  obtain ⟨A, c, rfl, hc, hm, hr, _⟩ := Row.of_own ho
  exact ⟨A, c, rfl, hc, hm, hr, hb, ho⟩
theorem tab_b {w W : World} (k : TabOk w) (hb : Below w.heap.size w W) : TabOk W := ⟨Nat.le_trans k.size hb.size, k.here fun b h => hb.block b (by have := k.size; omega)⟩
theorem put300 : Num.put 300 = [172, 2] := by decide
theorem get300 : Num.get [172, 2] 0 = (300, 2, 0) := by decide
theorem get_300 {A : Option Addr} {c : Nat} {W : World} (hr : Row W W.heap.size .u8 A [172, 2]) (hc : 2 ≤ c) : Calls Tryz.prog 39 #[.slice A 2 c, .int .i64 0] W (fun e w' => e = .returned (.tuple #[.int .u64 300, .int .i64 2, .int .i64 0]) ∧ W = w') := by
  have := get_any A c W.heap.size [172, 2] 0 W hr (by decide) hc (by decide) (by decide) (by decide)
  rw [get300] at this
  exact this
theorem mut_run : sayV (.t [.g [.int .u8 4, .int .u8 2], .s (.int .i64 0)]) (@runs Know.nought (tyOf Tryz.prog) (fnOf Tryz.prog) noneO 12 8 59 [.s (.str [38, 109, 117, 116, 32, 112, 97, 105, 114])] ⟨[], 0⟩ 0) = true := by kernel_rfl
theorem mut_c (W : World) : Calls Tryz.prog 59 #[.string ⟨#[38, 109, 117, 116, 32, 112, 97, 105, 114]⟩] W (bld.Ans W (.tuple #[.agg #[.int .u8 4, .int .u8 2], .int .i64 0])) := by
  refine (run_lit W (args := [.s (.str [38, 109, 117, 116, 32, 112, 97, 105, 114])]) (vs := [.string ⟨#[38, 109, 117, 116, 32, 112, 97, 105, 114]⟩]) ⟨rfl, trivial⟩ mut_run).mono ?_
  rintro e w' ⟨u, rfl, ⟨r, us, rfl, hu⟩, hb⟩
  match us, hu with
  | [x, y], ⟨⟨gs, hx, h1⟩, h2, _⟩ =>
    match gs, hx, h1 with
    | [a, b], hx, ⟨e1, e2, _⟩ =>
      refine ⟨?_, hb⟩
      have e1 : a = _ := e1
      have e2 : b = _ := e2
      have h2 : y = _ := h2
      rw [hx, e1, e2, h2]
def prS : List S := [.int .u8 2, .int .i64 0, .bool false, .int .u8 0, .int .u8 0, .int .u8 0, .int .u8 0, .int .u8 0, .int .i64 0, .int .i64 0, .bool false, .int .u8 0, .int .u8 0, .int .i64 0, .int .i64 0, .bool false, .int .u8 0, .int .i64 0, .bool false, .int .u8 0, .int .u8 1, .int .i64 3, .int .i64 0, .bool false, .int .u8 0, .int .i64 0]
def prV : List Value := [.int .u8 2, .int .i64 0, .bool false, .int .u8 0, .int .u8 0, .int .u8 0, .int .u8 0, .int .u8 0, .int .i64 0, .int .i64 0, .bool false, .int .u8 0, .int .u8 0, .int .i64 0, .int .i64 0, .bool false, .int .u8 0, .int .i64 0, .bool false, .int .u8 0, .int .u8 1, .int .i64 3, .int .i64 0, .bool false, .int .u8 0, .int .i64 0]
theorem pr_run : sayV (.t [.s (.str [112, 114, 105, 110, 116, 32, 51]), .s (.int .i64 0)]) (@runs Know.nought (tyOf Tryz.prog) (fnOf Tryz.prog) numO 100 25 60 [.g prS] ⟨[], 0⟩ 0) = true := by kernel_rfl
theorem pr_c {W : World} (k : TabOk W) : Calls Tryz.prog 60 #[.agg prV.toArray] W (bld.Ans W (.tuple #[.string ⟨#[112, 114, 105, 110, 116, 32, 51]⟩, .int .i64 0])) := by
  obtain ⟨h', hr⟩ := sayV_some pr_run
  have ok := kn0
  letI : Base := base0 W ok
  refine (calls_flat W k.size (fun _ _ => rfl) (sound_runs ok (sound_num ok k) 100 25) (args := [.g prS]) (vs := [.agg prV.toArray]) ⟨⟨_, rfl, by unfold prS prV; exact ⟨rfl, rfl, rfl, rfl, rfl, rfl, rfl, rfl, rfl, rfl, rfl, rfl, rfl, rfl, rfl, rfl, rfl, rfl, rfl, rfl, rfl, rfl, rfl, rfl, rfl, rfl, trivial⟩⟩, trivial⟩ hr).mono fun e w' ⟨u, r', k1, k2, k3⟩ => ⟨?_, k3⟩
  rw [k1]
  obtain ⟨us, rfl, k2⟩ := k2
  match us, k2 with
  | [a, b], ⟨e1, e2, _⟩ =>
    have e1 : a = _ := e1
    have e2 : b = _ := e2
    rw [e1, e2]
set_option maxHeartbeats 4000000 in
set_option maxRecDepth 100000 in
theorem alive06_c {w : World} (kt : TabOk w) : Calls Tryz.prog 19 #[] w (bld.Ans w (.bool true)) := by
  have HP := Lib.hid (fun (W : World) => put_r (n := 300) (by decide) (by decide) W)
  rw [put300] at HP
  have HT := Lib.hid (fun (W : World) (hW : Below w.heap.size w W) => pr_c (tab_b kt hW))
  unfold prV at HT
  clear kt
  go_enter Tryz.func19, Tryz.ntmps19
  go_upto_region 2 with (first | (go_at_call 38; refine (HP.out _).mono ?_; rintro e w1 ⟨A, c, rfl, hc, _, hr, b1, _⟩; have HG := Lib.hid (get_300 hr hc)) | (go_at_call 39; refine HG.out.mono ?_; rintro e w2 ⟨rfl, rfl⟩))
  have HB1 := Lib.hid b1
  clear b1 hr hc HG HP
  go_upto_region 3 with (go_at_call 59; refine (mut_c _).mono ?_; rintro e w3 ⟨rfl, b3⟩)
  have HB3 := Lib.hid (HB1.out.trans (b3.mono HB1.out.size))
  clear b3
  go_upto_region 4 with (go_at_call 60; refine (HT.out _ (HB3.out.alloc HB3.out.size _)).mono ?_; rintro e w4 ⟨rfl, b4⟩)
  have c0 : w4.cell? ⟨w3.heap.size, 0, none⟩ = some (.int .u8 4) := (b4.cell (p := ⟨w3.heap.size, 0, none⟩) (by simp)).trans (cell_of_row _ _ 0 _ 88 (0, 0) (at_alloc rfl))
  have h4 := HB3.out.alloc HB3.out.size (.cells #[.int .u8 4, .int .u8 2] 88)
  have HB4 := Lib.hid (h4.trans (b4.mono h4.size))
  clear b4 h4
  go_wp2_with fail
  go_ret
  exact ⟨rfl, HB4.out⟩
end Go.Proofs.YtnhnelgkcldkbaaGreatDoor.enc
