/- What fnshape.Twos answers, where the function is right: a new list of the two-phase locals. -/
import Derived.Test.YthdcahkedlijpaaGreatLoanF
import Derived.Deep.DeepCutAuto
import Derived.Deep.QuietTactic
import Derived.BigQuiet
namespace Go.Proofs.YthdcahkedlijpaaGreat.twosL
open Go.RowKit Go.Proofs.YthdcahkedlijpaaGreat Go.Proofs.YthdcahkedlijpaaGreat.Am
set_option linter.unusedVariables false
set_option linter.unusedSectionVars false
theorem intR : (Tryz.prog.info? 3).map (fun i => (i.zero, i.size, i.bytes)) = some (some (.int .i64 0), 1, 8) := by kernel_rfl
theorem boolR : (Tryz.prog.info? 4).map (fun i => (i.zero, i.size, i.bytes)) = some (some (.bool false), 1, 1) := by kernel_rfl
theorem idx_bool {bs : List Bool} {b : Bool} {i : Nat} (hi : i < 16) (hb : bs[i]? = some b) (W : World) : (Instr.index 87 (.agg (bs.map Value.bool).toArray) (.int .i64 i)).run Tryz.prog W = .ok (.bool b) W := by
  obtain ⟨i0, hi0, hz0, hz1, hz2⟩ := info_parts boolR
  simp [Instr.index, asIntOf, run_underlying Tryz.underlying87, sizeOf, typeInfo, hi0, hz1, part, isAgg, run_underlying Tryz.underlying4]
  rw [if_pos hi, hb]
  rfl
def bits (D : FnD) : List Bool := (List.range 16).map fun j => (twos.Ct.fn D).i j
def locs (D : FnD) : List Int := incr 0 (bits D)
theorem bits_len (D : FnD) : (bits D).length = 16 := by simp [bits]
theorem isV_bits (D : FnD) : twos.isV D = .agg ((bits D).map Value.bool).toArray := by
  unfold twos.isV bits
  rw [List.map_map]
  rfl
def NewInts (w : World) (l : List Int) (e : Ending) (w' : World) : Prop :=
  ∃ s, e = .returned (.tuple #[s, .int .i64 0]) ∧ w'.ownsRow w.heap.size 3 1 s l.length (l.map (Value.int .i64)) ∧ Below w.heap.size w w'
set_option maxRecDepth 100000 in
set_option maxHeartbeats 1000000 in
theorem twos_list {w : World} {v : Value} {D : FnD} (h : FnOk' w v D) (hc : check.chkF D = 0) : Calls Tryz.prog 27 #[v] w (NewInts w (locs D)) := by
  have hsm := size.sm h hc
  have hok := check.okB_of (size.of_chk hc).2.1
  have hC : ∀ w', Below w.heap.size w w' → Calls Tryz.prog 30 #[v] w' fun e w'' => e = .returned (.int .i64 0) ∧ Below w'.heap.size w' w'' := fun w' hb => (hc ▸ check.check_ans (h.frz hb.block) : Answers check.f [v] w' (.int .i64 0))
  have hT : ∀ w', Below w.heap.size w w' → Calls Tryz.prog 42 #[v] w' fun e w'' => e = .returned (.tuple #[.agg ((bits D).map Value.bool).toArray, .bool (twos.twosF D)]) ∧ Below w'.heap.size w' w'' := fun w' hb => (isV_bits D ▸ twos.twos_ans (h.frz hb.block) hsm hok : Answers twos.f [v] w' (.tuple #[.agg ((bits D).map Value.bool).toArray, .bool (twos.twosF D)]))
  have hb16 := bits_len D
  unfold locs
  rw [h.eq] at hC hT ⊢
  have HT := Lib.hid hT
  have HC := Lib.hid hC
  clear hT hC
  clear h hsm hok hc
  generalize bits D = bs at *
  generalize twos.twosF D = r at *
  match bs, hb16 with
  | [c0, c1, c2, c3, c4, c5, c6, c7, c8, c9, c10, c11, c12, c13, c14, c15], _ =>
  obtain ⟨i0, hi, hz0, hz1, hz2⟩ := info_parts intR
  simp only [List.map_cons, List.map_nil] at HT
  have B0 : Box (w.alloc (.cells #[.int .i64 D.p, .bool D.u, D.lv, D.bv] 25)) w.heap.size 25 (.int .i64 D.p) (.bool D.u) D.lv D.bv := Box.mk rfl
  have b0 : Below w.heap.size w (w.alloc (.cells #[.int .i64 D.p, .bool D.u, D.lv, D.bv] 25)) := (Below.refl _ _).alloc (Nat.le_refl _) _
  go_enter Tryz.func27, Tryz.ntmps27
  go_wp2_with (first | (go_at_call 30; refine (HC.out _ b0).mono ?_; rintro e w1 ⟨rfl, b1⟩; obtain ⟨y0, y1, y2, y3⟩ := (B0.below b1).cells) | (go_at_call 42; refine (HT.out _ (b0.trans (b1.mono b0.size))).mono ?_; rintro e w2 ⟨rfl, b2⟩))
  have b3 : Below w.heap.size w w2 := (b0.trans (b1.mono b0.size)).trans (b2.mono (b0.trans (b1.mono b0.size)).size)
  have E : (#[Value.bool c0, Value.bool c1, Value.bool c2, Value.bool c3, Value.bool c4, Value.bool c5, Value.bool c6, Value.bool c7, Value.bool c8, Value.bool c9, Value.bool c10, Value.bool c11, Value.bool c12, Value.bool c13, Value.bool c14, Value.bool c15] : Array Value) = ([c0, c1, c2, c3, c4, c5, c6, c7, c8, c9, c10, c11, c12, c13, c14, c15].map Value.bool).toArray := rfl
  have H16 : [c0, c1, c2, c3, c4, c5, c6, c7, c8, c9, c10, c11, c12, c13, c14, c15].length = 16 := rfl
  rw [E]
  clear HT HC y0 y1 y2 y3 B0 b1 b2
  generalize [c0, c1, c2, c3, c4, c5, c6, c7, c8, c9, c10, c11, c12, c13, c14, c15] = bs at *
  clear E
  have hs2 := b3.size
  have b4 := b3.alloc b3.size (.cells (bs.map Value.bool).toArray 87)
  go_loopw [7, 21] (fun v m wr => ∃ (i : Nat), m = .int .i64 i ∧ i ≤ 16 ∧ wr.ownsRow w.heap.size 3 1 v (incr 0 (bs.take i)).length ((incr 0 (bs.take i)).map (Value.int .i64)) ∧ Below w.heap.size w wr) (fun _ m _ => 16 - (intOf m).toNat)
  case atStart => exact ⟨0, rfl, by omega, World.ownsRow_nil _ _ _ _, b4⟩
  case round =>
    obtain ⟨i, rfl, hi16, hown, hbel⟩ := hrel
    have hsz : w.heap.size ≤ wr.heap.size := hbel.size
    rcases Nat.lt_or_ge i 16 with hlt | hge
    · have hix := idx_bool (bs := bs) hlt (List.getElem?_eq_getElem (by omega : i < bs.length))
      have htake : bs.take (i + 1) = bs.take i ++ [bs[i]'(by omega)] := by rw [List.take_succ_eq_append_getElem (by omega)]
      have hl : (bs.take i).length = i := by rw [List.length_take]; omega
      have hle := incr_len (bs.take i) 0
      rw [hl] at hle
      generalize hbi : bs[i]'(by omega) = b at *
      have HT := Lib.hid htake
      have HL := Lib.hid hl
      have HE := Lib.hid hle
      have HH := Lib.hid H16
      clear htake hl hbi hle H16
      have hi2 : (i : Int) < 16 := by omega
      cases b
      · go_wp2
        go_roundw
        case rel =>
          refine ⟨i + 1, by simp, by omega, ?_, hbel⟩
          rw [HT.out, incr_app]
          simpa using hown
        case measure => simp [intOf]; omega
      · have hlen : (incr 0 (bs.take i)).length + 1 ≤ 17 := by have := HE.out; omega
        go_wp2_with (at_builtin; refine wpList_append1 rfl _ _ 69 rfl w.heap.size 3 (.int .i64 0) 8 Tryz.underlying69 intR rfl _ _ _ rfl hown (.int .i64 i) rfl rfl (by omega) (by omega) hbel hsz ?_; intro v1 w1 hown1 hbel1)
        go_roundw
        case rel =>
          refine ⟨i + 1, by simp, by omega, ?_, hbel1⟩
          rw [HT.out, incr_app, HL.out]
          simpa using hown1
        case measure => simp [intOf]; omega
    · obtain rfl : i = 16 := by omega
      have htake : bs.take 16 = bs := List.take_of_length_le (by omega)
      rw [htake] at hown
      clear htake H16
      go_wp2
      go_ret2
      exact ⟨_, rfl, hown, hbel⟩
end Go.Proofs.YthdcahkedlijpaaGreat.twosL
