/- What the reference's Func calls: numbers, names of types, statements, jumps. -/
import Derived.Test.YtglmonlofejcgaaGreatDoorTextM
import Derived.Test.YtglmonlofejcgaaGreatDoorTexts5B
set_option maxRecDepth 100000
set_option linter.unusedVariables false
namespace Go.Proofs.YtglmonlofejcgaaGreatDoor
namespace txt
open Go.RowKit Am loan bld
theorem anE (n : Int) (h0 : -9223372036854775808 <= n) (h1 : n <= 9223372036854775807) (w : World) : Calls Tryz.prog 83 #[.int .i64 n] w (bld.Ans w (.string ⟨(bM n).toArray⟩)) := by
 have H := Lib.hid (fun W => H6 n h0 h1 W)
 go_enter Tryz.func83, Tryz.ntmps83
 go_wp2_with (go_at_call 111; refine (H.out _).mono ?_; rintro e w1 ⟨rfl, b1⟩)
 go_ret
 exact ⟨rfl, b1⟩
theorem ajg (W : World) : Calls Tryz.prog 84 #[] W fun e W' => ∃ g, e = .returned (.slice (some ⟨g, 0, none⟩) 8 8) /\ g < W'.heap.size /\ (∀ i s, OW[i]? = some s -> W'.cell? ⟨g, i, none⟩ = some (.string ⟨s.toArray⟩)) /\ Below W.heap.size W W' := by
 go_enter Tryz.func84, Tryz.ntmps84
 go_wp2_with fail
 go_ret
 refine ⟨W.heap.size, rfl, by simp, fun i s hi => ?_, (Below.refl _ _).alloc (Nat.le_refl _) _⟩
 rw [cell_of_row _ W.heap.size i _ tS1 (0, 0) (aX rfl)]
 have h8 : i < 8 := (List.getElem?_eq_some_iff.1 hi).1
 match i, h8, hi with
 | 0, _, hi => cases hi; rfl
 | 1, _, hi => cases hi; rfl
 | 2, _, hi => cases hi; rfl
 | 3, _, hi => cases hi; rfl
 | 4, _, hi => cases hi; rfl
 | 5, _, hi => cases hi; rfl
 | 6, _, hi => cases hi; rfl
 | 7, _, hi => cases hi; rfl
def a7p (p : Nat × Nat) : Nat := if p.2 = 0 then p.1 - 1 else 2 * (p.1 - 2) + (p.2 - 1)
theorem WS : D6.all (fun p => vY (.a (.s (.int .i64 (a7p p : Nat)))) (ZG 85 p)) = true := by kernel_rfl
theorem a9S : ∀ p ∈ D6, OW[a7p p]? = some (pI (Uw p)) := by decide
theorem a9s {t : List Value} (h : ak Kd.ok [.i .u8, .i .u8] t) (hk : ng t = true) : ∃ j : Nat, OW[j]? = some (pI t) /\ ∀ W, Calls Tryz.prog 85 #[.agg t.toArray] W (bld.Ans W (.int .i64 (j : Nat))) := by
 obtain ⟨p, hp, rfl⟩ := uH h hk
 refine ⟨a7p p, a9S p hp, fun W => (GV W (List.all_eq_true.1 WS p hp)).mono ?_⟩
 rintro e w' ⟨u, rfl, ⟨r, hu⟩, hb⟩
 exact ⟨by rw [show u = .int .i64 (a7p p : Nat) from hu], hb⟩
theorem ail {w : World} {v : Value} {D : FnD} (h : aV w v D) (kt : dL w) (hc : check.jK D = 0) : YC w D := by
 have k := jW hc
 refine ⟨fun n h0 h1 W _ => anE n h0 h1 W, ajg, fun t ht => ?_, fun b hb s hs W hW => ?_, fun b hb W hW => ?_⟩
 ·obtain ⟨j, h1, h2⟩ := a9s (h.lkd t ht) (k.ty t ht)
  exact ⟨j, h1, fun W _ => h2 W⟩
 ·exact ZC _ ((h.blk b hb).skd s hs) (k.st b hb s hs) W (gB kt hW)
 ·exact alN (gB kt hW) (oM ((h.frz hW.block).blk b hb)) (k.jm b hb)
end txt
end Go.Proofs.YtglmonlofejcgaaGreatDoor
