/- Increasing: the numbers of the truth values that are true, in order. -/
import Derived.Test.YtnhnelgkcldkbaaGreatDoorKit
import Derived.Test.YtnhnelgkcldkbaaGreatDoorProg
import Derived.Test.YtnhnelgkcldkbaaGreatDoorAmC
namespace Go.Proofs.YtnhnelgkcldkbaaGreatDoor
open Go.RowKit Go.Proofs.YtnhnelgkcldkbaaGreatDoor.Am

theorem introw : (Tryz.prog.info? 3).map (fun i => (i.zero, i.size, i.bytes)) = some (some (.int .i64 0), 1, 8) := by kernel_rfl

set_option maxRecDepth 4000 in
set_option maxHeartbeats 400000 in
theorem increasing_any (bs : List Bool) (hb : bs.length = 16) (w : World) :
    Calls Tryz.prog 27 #[.agg (bs.map Value.bool).toArray] w fun e w' =>
      ∃ v, e = .returned v ∧ w'.ownsRow (w.heap.size + 1) 3 1 v (incr 0 bs).length ((incr 0 bs).map (Value.int .i64)) ∧ Below w.heap.size w w' := by
  obtain ⟨i0, hi, hz0, hz1, hz2⟩ := info_parts introw
  go_enter Tryz.func27, Tryz.ntmps27
  go_wp2
  go_loopw [3, 4] (fun v m wr => ∃ (i : Nat), m = .int .i64 i ∧ i ≤ 16 ∧
      wr.ownsRow (w.heap.size + 1) 3 1 v (incr 0 (bs.take i)).length ((incr 0 (bs.take i)).map (Value.int .i64)) ∧ Below (w.heap.size + 1) (w.alloc (.cells (bs.map Value.bool).toArray 69)) wr) (fun _ m _ => 16 - (intOf m).toNat)
  case atStart => exact ⟨0, rfl, by omega, World.ownsRow_nil _ _ _ _, Below.refl _ _⟩
  case round =>
    obtain ⟨i, rfl, hi16, hown, hbel⟩ := hrel
    have hsz : w.heap.size + 1 ≤ wr.heap.size := by have := hbel.size; simpa using this
    rcases Nat.lt_or_ge i 16 with hlt | hge
    · have hcell : wr.cell? ⟨w.heap.size, i, none⟩ = some (.bool (bs[i]'(by omega))) := by
        have h1 := (hbel.block w.heap.size (by omega)).trans (heap_alloc_new w _)
        rw [cell_of_row wr w.heap.size i _ 69 (0, 0) h1]
        simp [show i < bs.length by omega]
      have htake : bs.take (i + 1) = bs.take i ++ [bs[i]'(by omega)] := by rw [List.take_succ_eq_append_getElem (by omega)]
      have hl : (bs.take i).length = i := by rw [List.length_take]; omega
      have hle := incr_len (bs.take i) 0
      rw [hl] at hle
      generalize hbi : bs[i]'(by omega) = b at *
      have HT := Lib.hid htake
      have HL := Lib.hid hl
      have HE := Lib.hid hle
      clear htake hl hbi hle
      cases b
      · go_wp2
        go_roundw
        case rel =>
          refine ⟨i + 1, by simp, by omega, ?_, hbel⟩
          rw [HT.out, incr_app]
          simpa using hown
        case measure => simp [intOf]; omega
      · have hlen : (incr 0 (bs.take i)).length + 1 ≤ 17 := by have := HE.out; omega
        go_wp2_with (at_builtin; refine wpList_append1 rfl _ _ 31 rfl (w.heap.size + 1) 3 (.int .i64 0) 8 Tryz.underlying31 introw rfl _ _ _ rfl hown (.int .i64 i) rfl rfl (by omega) (by omega) hbel hsz ?_; intro v1 w1 hown1 hbel1)
        go_roundw
        case rel =>
          refine ⟨i + 1, by simp, by omega, ?_, hbel1⟩
          rw [HT.out, incr_app, HL.out]
          simpa using hown1
        case measure => simp [intOf]; omega
    · obtain rfl : i = 16 := by omega
      have htake : bs.take 16 = bs := List.take_of_length_le (by omega)
      rw [htake] at hown
      have hbel' : Below w.heap.size w wr := ⟨hbel.os, hbel.tape, hbel.output, by omega, fun k hk => (hbel.block k (by omega)).trans (heap_alloc_old w _ hk)⟩
      go_wp2
      go_ret
      exact ⟨_, rfl, hown, hbel'⟩

namespace Am
/-- Increasing over truth values some of which are laid where numbers that are not written out say -/
noncomputable def incO (K : Know) : Oracle := fun f args h _ => bif f == 27 then
  (match args with | [.g cells] => ob (@incL K 16 cells) fun l => some (.a (.s (.sl h.next 0 l.length 1 none)), h.alloc l) | _ => none) else none
theorem sound_inc (b : Base) : @Sound b Tryz.prog (incO b.toKnow) := by
  intro f args h fl v h' e
  unfold incO at e
  cases hf : (f == 27) <;> rw [hf] at e <;> simp only [cond_true, cond_false] at e
  · cases e
  obtain rfl : f = 27 := by simpa using hf
  split at e
  · rename_i cells
    obtain ⟨l, hl, e⟩ := ob_some e
    cases e
    refine ⟨⟨_, Tryz.func27, by kernel_rfl, by kernel_rfl⟩, fun r B w vs hi ha => ?_⟩
    match vs, ha with
    | [u], ⟨⟨us, hu, hus⟩, _⟩ =>
      subst hu
      obtain ⟨bs, rfl, hb, hl'⟩ := incL_ok hl hus
      refine (increasing_any bs hb w).mono fun e w' ⟨v, e1, hown, hbel⟩ => ⟨v, e1, ?_⟩
      have hcs := hl' r
      have hlen := hcs.len
      rw [List.length_map] at hlen
      obtain ⟨h1, h2⟩ := hown
      rcases h2 with ⟨rfl, h0⟩ | ⟨g, cap, cur, rfl, hg, hcur, hn, hmx, hsz, htk⟩
      · have := incL_pos hl
        omega
      · have := Post.row (fl := fl) hi hbel (cs := l) (us := (incr 0 bs).map (Value.int .i64)) (z := 1) (n := l.length) (by omega) hcur (by omega) (by omega) hmx hsz (by simpa using htk) hcs
        rw [hlen] at this ⊢
        exact this
  · cases e
end Am
end Go.Proofs.YtnhnelgkcldkbaaGreatDoor
