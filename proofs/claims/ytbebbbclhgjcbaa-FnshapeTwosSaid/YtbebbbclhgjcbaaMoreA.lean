/- What fnshape.Twos answers, where the function is right: a new list of the two-phase locals; and SameInts of two lists that are the same. pawnshopref04.SameInts of two lists of the same numbers. alive of chapter 07 answers true, whoever calls. What the laws of chapter 07 that copy a function call, by its contracts. -/
import Derived.Test.YtbebbbclhgjcbaaCore
import Derived.Test.YtbebbbclhgjcbaaKit2
import Derived.Test.YtbebbbclhgjcbaaTwinA
import Derived.Test.YtbebbbclhgjcbaaProg
import Derived.Deep.DeepCutAuto
import Derived.Test.YtbebbbclhgjcbaaAmC
import Derived.Deep.QuietTactic
import Derived.BigQuiet
import Derived.Test.YtbebbbclhgjcbaaLn
import Derived.Test.YtbebbbclhgjcbaaOwn
/-! What fnshape.Twos answers, where the function is right: a new list of the two-phase locals; and SameInts of two lists that are the same. -/
namespace Go.Proofs.Ytbebbbclhgjcbaa.twosL
open Go.RowKit Go.Proofs.Ytbebbbclhgjcbaa Go.Proofs.Ytbebbbclhgjcbaa.Am
set_option linter.unusedVariables false
set_option linter.unusedSectionVars false
theorem intR : (Try.prog.info? 3).map (fun i => (i.zero, i.size, i.bytes)) = some (some (.int .i64 0), 1, 8) := by kernel_rfl
theorem boolR : (Try.prog.info? 4).map (fun i => (i.zero, i.size, i.bytes)) = some (some (.bool false), 1, 1) := by kernel_rfl
theorem idx_bool {bs : List Bool} {b : Bool} {i : Nat} (hi : i < 16) (hb : bs[i]? = some b) (W : World) : (Instr.index 65 (.agg (bs.map Value.bool).toArray) (.int .i64 i)).run Try.prog W = .ok (.bool b) W := by
  obtain ⟨i0, hi0, hz0, hz1, hz2⟩ := info_parts boolR
  simp [Instr.index, asIntOf, run_underlying Try.underlying65, sizeOf, typeInfo, hi0, hz1, part, isAgg, run_underlying Try.underlying4]
  rw [if_pos hi, hb]
  rfl
/-- which locals are two-phase -/
def bits (D : FnD) : List Bool := (List.range 16).map fun j => (twos.Ct.fn D).i j
def locs (D : FnD) : List Int := incr 0 (bits D)
theorem bits_len (D : FnD) : (bits D).length = 16 := by simp [bits]
theorem isV_bits (D : FnD) : twos.isV D = .agg ((bits D).map Value.bool).toArray := by
  unfold twos.isV bits
  rw [List.map_map]
  rfl
/-- a new list of these numbers, and no error -/
def NewInts (w : World) (l : List Int) (e : Ending) (w' : World) : Prop :=
  ∃ s, e = .returned (.tuple #[s, .int .i64 0]) ∧ w'.ownsRow w.heap.size 3 1 s l.length (l.map (Value.int .i64)) ∧ Below w.heap.size w w'
set_option maxRecDepth 100000 in
set_option maxHeartbeats 1000000 in
theorem twos_list {w : World} {v : Value} {D : FnD} (h : FnOk' w v D) (hc : check.chkF D = 0) : Calls Try.prog 8 #[v] w (NewInts w (locs D)) := by
  have hsm := size.sm h hc
  have hok := check.okB_of (size.of_chk hc).2.1
  have hC : ∀ w', Below w.heap.size w w' → Calls Try.prog 11 #[v] w' fun e w'' => e = .returned (.int .i64 0) ∧ Below w'.heap.size w' w'' := fun w' hb => (hc ▸ check.check_ans (h.frz hb.block) : Answers check.f [v] w' (.int .i64 0))
  have hT : ∀ w', Below w.heap.size w w' → Calls Try.prog 25 #[v] w' fun e w'' => e = .returned (.tuple #[.agg ((bits D).map Value.bool).toArray, .bool (twos.twosF D)]) ∧ Below w'.heap.size w' w'' := fun w' hb => (isV_bits D ▸ twos.twos_ans (h.frz hb.block) hsm hok : Answers twos.f [v] w' (.tuple #[.agg ((bits D).map Value.bool).toArray, .bool (twos.twosF D)]))
  have hb16 := bits_len D
  unfold locs
  rw [h.eq] at hC hT ⊢
  have HT := Lib.hid hT
  have HC := Lib.hid hC
  clear hT hC
  clear h hsm hok hc
  generalize bits D = bs at *
  generalize twos.twosF D = r at *
  match bs, hb16 with
  | [c0, c1, c2, c3, c4, c5, c6, c7, c8, c9, c10, c11, c12, c13, c14, c15], _ =>
  obtain ⟨i0, hi, hz0, hz1, hz2⟩ := info_parts intR
  simp only [List.map_cons, List.map_nil] at HT
  have B0 : Box (w.alloc (.cells #[.int .i64 D.p, .bool D.u, D.lv, D.bv] 31)) w.heap.size 31 (.int .i64 D.p) (.bool D.u) D.lv D.bv := Box.mk rfl
  have b0 : Below w.heap.size w (w.alloc (.cells #[.int .i64 D.p, .bool D.u, D.lv, D.bv] 31)) := (Below.refl _ _).alloc (Nat.le_refl _) _
  go_enter Try.func8, Try.ntmps8
  go_wp2_with (first | (go_at_call 11; refine (HC.out _ b0).mono ?_; rintro e w1 ⟨rfl, b1⟩; obtain ⟨y0, y1, y2, y3⟩ := (B0.below b1).cells) | (go_at_call 25; refine (HT.out _ (b0.trans (b1.mono b0.size))).mono ?_; rintro e w2 ⟨rfl, b2⟩))
  have b3 : Below w.heap.size w w2 := (b0.trans (b1.mono b0.size)).trans (b2.mono (b0.trans (b1.mono b0.size)).size)
  have E : (#[Value.bool c0, Value.bool c1, Value.bool c2, Value.bool c3, Value.bool c4, Value.bool c5, Value.bool c6, Value.bool c7, Value.bool c8, Value.bool c9, Value.bool c10, Value.bool c11, Value.bool c12, Value.bool c13, Value.bool c14, Value.bool c15] : Array Value) = ([c0, c1, c2, c3, c4, c5, c6, c7, c8, c9, c10, c11, c12, c13, c14, c15].map Value.bool).toArray := rfl
  have H16 : [c0, c1, c2, c3, c4, c5, c6, c7, c8, c9, c10, c11, c12, c13, c14, c15].length = 16 := rfl
  rw [E]
  clear HT HC y0 y1 y2 y3 B0 b1 b2
  generalize [c0, c1, c2, c3, c4, c5, c6, c7, c8, c9, c10, c11, c12, c13, c14, c15] = bs at *
  clear E
  have hs2 := b3.size
  have b4 := b3.alloc b3.size (.cells (bs.map Value.bool).toArray 65)
  go_loopw [7, 21] (fun v m wr => ∃ (i : Nat), m = .int .i64 i ∧ i ≤ 16 ∧ wr.ownsRow w.heap.size 3 1 v (incr 0 (bs.take i)).length ((incr 0 (bs.take i)).map (Value.int .i64)) ∧ Below w.heap.size w wr) (fun _ m _ => 16 - (intOf m).toNat)
  case atStart => exact ⟨0, rfl, by omega, World.ownsRow_nil _ _ _ _, b4⟩
  case round =>
    obtain ⟨i, rfl, hi16, hown, hbel⟩ := hrel
    have hsz : w.heap.size ≤ wr.heap.size := hbel.size
    rcases Nat.lt_or_ge i 16 with hlt | hge
    · have hix := idx_bool (bs := bs) hlt (List.getElem?_eq_getElem (by omega : i < bs.length))
      have htake : bs.take (i + 1) = bs.take i ++ [bs[i]'(by omega)] := by rw [List.take_succ_eq_append_getElem (by omega)]
      have hl : (bs.take i).length = i := by rw [List.length_take]; omega
      have hle := incr_len (bs.take i) 0
      rw [hl] at hle
      generalize hbi : bs[i]'(by omega) = b at *
      have HT := Lib.hid htake
      have HL := Lib.hid hl
      have HE := Lib.hid hle
      have HH := Lib.hid H16
      clear htake hl hbi hle H16
      have hi2 : (i : Int) < 16 := by omega
      cases b
      · go_wp2
        go_roundw
        case rel =>
          refine ⟨i + 1, by simp, by omega, ?_, hbel⟩
          rw [HT.out, incr_app]
          simpa using hown
        case measure => simp [intOf]; omega
      · have hlen : (incr 0 (bs.take i)).length + 1 ≤ 17 := by have := HE.out; omega
        go_wp2_with (at_builtin; refine wpList_append1 rfl _ _ 24 rfl w.heap.size 3 (.int .i64 0) 8 Try.underlying24 intR rfl _ _ _ rfl hown (.int .i64 i) rfl rfl (by omega) (by omega) hbel hsz ?_; intro v1 w1 hown1 hbel1)
        go_roundw
        case rel =>
          refine ⟨i + 1, by simp, by omega, ?_, hbel1⟩
          rw [HT.out, incr_app, HL.out]
          simpa using hown1
        case measure => simp [intOf]; omega
    · obtain rfl : i = 16 := by omega
      have htake : bs.take 16 = bs := List.take_of_length_le (by omega)
      rw [htake] at hown
      clear htake H16
      go_wp2
      go_ret2
      exact ⟨_, rfl, hown, hbel⟩
end Go.Proofs.Ytbebbbclhgjcbaa.twosL
/-! pawnshopref04.SameInts of two lists of the same numbers. -/
namespace Go.Proofs.Ytbebbbclhgjcbaa.sameI
open Go.RowKit Go.Proofs.Ytbebbbclhgjcbaa Go.Proofs.Ytbebbbclhgjcbaa.Am
set_option linter.unusedVariables false
/-- a slice of these numbers that can be read -/
def Ints (w : World) (s : Value) (l : List Int) : Prop := ∃ A c, s = .slice A l.length c ∧ (l.length : Int) ≤ 9223372036854775807 ∧ Row w w.heap.size .i64 A l
theorem Ints.own {w : World} {l : List Int} {s : Value} {b n : Nat} (h : w.ownsRow b 3 1 s n (l.map (Value.int .i64))) : Ints w s l := by
  obtain ⟨A, c, e, h1, hm, r, _⟩ := Row.of_own h
  exact ⟨A, c, e, by unfold maxLen at hm; omega, r⟩
theorem Ints.new {w w1 : World} {l : List Int} {s : Value} (h : NewRow w w1 s (l.map (Value.int .i64))) : Ints w1 s l := by
  generalize hl : l.map (Value.int .i64) = us at h
  cases h with
  | none =>
    have : l = [] := by simpa using hl
    subst this
    exact ⟨none, 0, rfl, by simp, fun h => by simp at h⟩
  | @row g cap C T fz _ hp hg hnew hfz hn hmx hcap hus =>
    have hlen : us.length = l.length := by rw [← hl]; simp
    refine ⟨some ⟨g, 0, none⟩, cap, by rw [hlen], by unfold maxLen at hmx; omega, fun _ => ⟨g, 0, rfl, (Array.getElem?_eq_some_iff.1 hnew).1, fun j hj => ?_⟩⟩
    rw [Nat.zero_add, cell_of_row w1 g j C T fz hnew]
    have hj' : us[j]? = some (.int .i64 (l.getD j 0)) := by
      rw [← hl]
      simp [List.getD, List.getElem?_eq_getElem hj]
    rw [← hus, List.getElem?_take] at hj'
    split at hj'
    · simpa using hj'
    · cases hj'
theorem Ints.below {w w' : World} {l : List Int} {s : Value} (h : Ints w s l) (hb : Below w.heap.size w w') : Ints w' s l := by
  obtain ⟨A, c, e, hm, r⟩ := h
  exact ⟨A, c, e, hm, (r.below hb (Nat.le_refl _)).more hb.size⟩
end Go.Proofs.Ytbebbbclhgjcbaa.sameI
namespace Go.Proofs.Ytbebbbclhgjcbaa.Am
open Go.RowKit
set_option maxRecDepth 100000
theorem alive07_run : tells true (@runs Know.nought (tyOf Try.prog) (fnOf Try.prog) noneO 100 40 17 [] ⟨[], 0⟩ 0) = true := by kernel_rfl
theorem alive07 (w : World) : Calls Try.prog 17 #[] w fun e w' => e = .returned (.bool true) ∧ Below w.heap.size w w' := by
  have ok := KnowOk.nought (fun _ => 0) (fun _ => [])
  have hs := @sound_noneO w _ _ _ ok
  letI : Base := baseN w ok
  exact calls_closed w (Nat.zero_le _) (sound_runsN ok hs 100 40) alive07_run
end Go.Proofs.Ytbebbbclhgjcbaa.Am
namespace Go.Proofs.Ytbebbbclhgjcbaa.more
open Go.RowKit Go.Proofs.Ytbebbbclhgjcbaa Go.Proofs.Ytbebbbclhgjcbaa.Am Go.Proofs.Ytbebbbclhgjcbaa.twin Go.Proofs.Ytbebbbclhgjcbaa.own
set_option linter.unusedVariables false
set_option linter.unusedSectionVars false
/-- true, and nothing that was there has changed -/
def Yes (w : World) (e : Ending) (w' : World) : Prop := e = .returned (.bool true) ∧ Below w.heap.size w w'
theorem alive_from {w w1 : World} (hb : Below w.heap.size w w1) : Calls Try.prog 17 #[] w1 (Yes w) := (alive07 w1).mono fun e w' ⟨h1, h2⟩ => ⟨h1, hb.trans (h2.mono hb.size)⟩
/-- an answer; what was there when it was called has not changed -/
def Ans (w1 : World) (v : Value) (e : Ending) (w' : World) : Prop := e = .returned v ∧ Below w1.heap.size w1 w'
theorem great_c {w w1 : World} {v : Value} {D : FnD} (h : FnOk' w v D) (hb : Below w.heap.size w w1) : Calls Try.prog 18 #[v] w1 (Ans w1 (.bool (great.greatF D))) := great.great_ans (h.frz hb.block)
theorem check_c {w w1 : World} {v : Value} {D : FnD} (h : FnOk' w v D) (hb : Below w.heap.size w w1) : Calls Try.prog 19 #[v] w1 (Ans w1 (.int .i64 (check.chkF D))) := refC.check_same (h.frz hb.block)
abbrev tF : TypeId := 31
theorem one_of {k : Kd} {v : Value} (h : k.ok v) : v.oneCell' = true := by
  cases k with
  | i x => obtain ⟨n, rfl, _⟩ := h; rfl
  | b => obtain ⟨b, rfl⟩ := h; rfl
  | s => obtain ⟨s, rfl, _⟩ := h; rfl
theorem ones {ks : List Kd} {us : List Value} (h : All2 Kd.ok ks us) : ∀ u ∈ us, u.oneCell' = true := fun u hu => by
  obtain ⟨i, hi⟩ := List.getElem?_of_mem hu
  have hl := (List.getElem?_eq_some_iff.1 hi).1
  obtain ⟨k, hk⟩ : ∃ k, ks[i]? = some k := ⟨_, List.getElem?_eq_getElem (by have := h.len; omega)⟩
  obtain ⟨v', hv', ok⟩ := All2.nth h (n := i) (x := k) (by rw [nth_eq]; exact hk)
  rw [hi] at hv'
  cases hv'
  exact one_of ok
/-- the copy, as the law has it -/
def Copied (w : World) (D : FnD) (e : Ending) (w' : World) : Prop :=
  ∃ (gl cl gb cB : Nat) (Bs : List BlkD), e = .returned (.agg #[.int .i64 D.p, .bool D.u, .slice (some ⟨gl, 0, none⟩) D.ls.length cl, .slice (some ⟨gb, 0, none⟩) Bs.length cB]) ∧ OwnFn w.heap.size w' ⟨D.p, D.u, .slice (some ⟨gl, 0, none⟩) D.ls.length cl, .slice (some ⟨gb, 0, none⟩) Bs.length cB, D.ls, Bs, ⟨nilV, []⟩⟩ ∧ Bs.map BlkD.core = D.bs.map BlkD.core ∧ Below w.heap.size w w'
theorem twin_c {w w1 : World} {v : Value} {D : FnD} (h : FnOk' w v D) (hc : check.chkF D = 0) (hb : Below w.heap.size w w1) : Calls Try.prog 20 #[v] w1 (Copied w1 D) := by
  have h' := h.frz hb.block
  have hs := size.sm h hc
  obtain ⟨m1, m2, m3⟩ := check.small_of (size.of_chk hc).1
  have hpos : 0 < D.bs.length := by
    have := (size.of_chk hc).2.1
    unfold made.madeF at this
    simp only [Bool.and_eq_true, decide_eq_true_eq] at this
    exact this.2.1
  refine (twin.any h' (by omega) (by omega) (fun el he => ones (h'.lkd el he)) (fun b hb el he => ones (hb.skd el he)) (fun b hb el he => ones (hb.okd el he)) (fun b hb => by have := (hs.s b hb).1; omega) (fun b hb => by have := (hs.s b hb).2; omega)).mono ?_
  rintro e w' ⟨g, c, bv', Bs, he, hf, hb'⟩
  have hlen : Bs.length = D.bs.length := by simpa using congrArg List.length hf.core
  obtain ⟨gb, cap, hbv, _⟩ := hf.ob.form (by omega)
  subst hbv
  exact ⟨g, c, gb, cap, Bs, he, (of_fresh hf).1, hf.core, hb'⟩
/-- a list of numbers and no error -/
def AnsL (w1 : World) (l : List Int) (e : Ending) (w' : World) : Prop := ∃ s, e = .returned (.tuple #[s, .int .i64 0]) ∧ sameI.Ints w' s l ∧ Below w1.heap.size w1 w'
theorem twos_c {w w1 : World} {v : Value} {D : FnD} (h : FnOk' w v D) (hc : check.chkF D = 0) (hb : Below w.heap.size w w1) : Calls Try.prog 8 #[v] w1 (AnsL w1 (twosL.locs D)) :=
  (twosL.twos_list (h.frz hb.block) hc).mono fun e w' ⟨s, h1, h2, h3⟩ => ⟨s, h1, sameI.Ints.own h2, h3⟩
end Go.Proofs.Ytbebbbclhgjcbaa.more
