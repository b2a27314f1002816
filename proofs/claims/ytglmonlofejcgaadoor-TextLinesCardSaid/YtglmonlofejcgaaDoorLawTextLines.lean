/- TextLines: the statement: for every input the law returns true, and each argument reads as it did. The walk is in the text before. -/
import Derived.Test.YtglmonlofejcgaaDoorTextLines
import Derived.Test.YtglmonlofejcgaaDoorSeat
import Derived.Test.YtglmonlofejcgaaDoorTie
import Derived.Test.YtglmonlofejcgaaDoorCards
import Derived.SevenTiedAt
namespace Go.Proofs.YtglmonlofejcgaaDoor.textLines
open Go.ChangeShapes Go.WideShapes Go.ChangeAt Go.RowKit Go.Proofs.YtglmonlofejcgaaDoor.Am
set_option linter.unusedVariables false
theorem door_met (os : Os) (args : Array Value) : laidMetH Tryd.prog Rows.textLinesRow.laid ((World.doorLaid Tryd.prog 400 os).forCall (fun _ _ => 0) ⟨#[], args, []⟩).memory :=
 laidMetH_of_parts3 (fuel := 8) (laidMet_of_run' 8 (by kernel_rfl) (by kernel_rfl)) (by kernel_rfl) (by kernel_rfl)
set_option maxRecDepth 100000 in
theorem fn_open {H : Type} {enc : TypeId × Value → H} {w : World} {b0 : Nat} {spare : Nat → Bool} {held : Bool} {v : Value} {fuel : Nat} {x : DataW H × List MemPlace} (hv : Value.okWide Tryd.prog w .any b0 25 v)
  (h : DataW.trod enc Tryd.prog w 0 spare held fuel 25 v.cells.toList = some x) : ∃ D, FnOk' w v D := by
 obtain ⟨fs, hu⟩ : ∃ fs, Tryd.prog.underlying 25 = some (.struct fs) := ⟨_, Tryd.underlying25⟩
 simp only [Value.okWide, hu] at hv
 obtain ⟨cs, rfl, hsz, _⟩ := hv
 have hsz : cs.size = 4 := hsz.trans (by kernel_rfl)
 have h : DataW.trod enc Tryd.prog w 0 spare held fuel 25 cs.toList = some x := h
 obtain ⟨p, u, lv, bv, ls, bs, hf⟩ := func_open (kS := kS26) (tLs := 22) (tT := 63) (tBs := 23) (tB := 52) (tSs := 43) (tS := 59) (tOs := 48) (tO := 47) h (by simpa using hsz) (by kernel_rfl)
  Tryd.underlying22 (by kernel_rfl) (by kernel_rfl) Tryd.underlying23 (by kernel_rfl) (by kernel_rfl) Tryd.underlying43 (by kernel_rfl) (by decide) (by kernel_rfl) Tryd.underlying48 (by kernel_rfl) (by kernel_rfl)
 rw [Array.toArray_toList] at hf
 exact FnOk'.of hf
set_option maxHeartbeats 2000000 in
set_option maxRecDepth 100000 in
theorem lifted (os : Os) (started : os.Started) (H : Type) (enc : TypeId × Value → H) :
  ReturnsInHanded {} Tryd.checked os 4 .any (fun w args => (Rows.textLinesSpec.pre enc Tryd.prog Tryd.f4 [] false w args ∧ laidMetH Tryd.prog Rows.textLinesRow.laid w) ∧ sizedMet enc Tryd.prog Tryd.f4 (OpenSpec.ofChange Rows.textLinesSpec) false w args)
   (Rows.textLinesSpec.post enc Tryd.prog Tryd.f4 false true false false) := by
 refine returnsInHanded_of_change_and (C := Tryd.checked) (X := fun w _ => laidMetH Tryd.prog Rows.textLinesRow.laid w) (fun _ _ _ hh h => h.of_heap hh) own started (by kernel_rfl) Tryd.func4
  (ChangeSpec.witness_shaped (enc := enc) (C := Tryd.checked) (os := os) (X := fun w _ => laidMetH Tryd.prog Rows.textLinesRow.laid w) false (World.doorLaid Tryd.prog 400 os) #[.agg #[.int .i64 0, .bool false, .slice none 0 0, .slice none 0 0], .int .i64 0] 8 rfl (World.shaped_of_RefB (by kernel_rfl) (by kernel_rfl)) (by kernel_rfl) (by kernel_rfl) (by kernel_rfl) (door_met os _)) ?_
 intro W base args ds gs0 before hval0 hW _ _ hL _
 have hval : ∀ (j : Nat) t v, Tryd.f4.params[j]? = some t → args[j]? = some v → Value.okWide Tryd.prog W .any base t v := hval0
 have hW' := hW
 obtain ⟨p, q, hA0, hV, rfl, hfz, hnd⟩ := hW
 have hA : DataW.TrodAll enc Tryd.prog W 0 (fun _ => true) true Tryd.f4.params.toList args.toList ds p := hA0
 rw [Tryd.params4] at hA hval
 obtain ⟨v0, vs0, d0, ds0, p0, q0, hargs, rfl, rfl, h0, r0⟩ := trodAll_cons hA
 obtain ⟨v1, vs1, d1, ds1, p1, q1, rfl, rfl, rfl, h1, r1⟩ := trodAll_cons r0
 obtain ⟨rfl, rfl, rfl⟩ := trodAll_nil r1
 obtain rfl : args = #[v0, v1] := by cases args; simp_all
 obtain ⟨rfl, rfl⟩ := trodVars_none hV
 have lt0 : ∀ x ∈ p0, x.block < W.heap.size := by obtain ⟨m, hm⟩ := h0; exact DataW.trod_lt m _ _ _ hm
 obtain ⟨D0, j0⟩ : ∃ D, FnOk' W v0 D := by
  obtain ⟨m, hm⟩ := h0
  exact fn_open (hval 0 25 v0 rfl rfl) hm
 have lt1 : ∀ x ∈ p1, x.block < W.heap.size := by obtain ⟨m, hm⟩ := h1; exact DataW.trod_lt m _ _ _ hm
 have j1 := open_one (kd := .i .i64) (show kdOf Tryd.prog 3 = some (.i .i64) by kernel_rfl) (hval 1 3 v1 rfl rfl)
 have hE0 := tabOk (by kernel_rfl) (by simp [Rows.textLinesRow]) (by simp [Rows.textLinesRow]) hL
 refine (txt.lines_walk j0 j1 hE0).mono fun e W' ⟨he, bel⟩ => ?_
 subst he
 exact ⟨_, rfl, _, _, _, [], _, [], hW', trodAll_mk1 (shut_bool Tryd.underlying4 _), (trodAll_cons_mk (Below.trod laidOut (by kernel_rfl) (of_decide_eq_true (by kernel_rfl)) h0 bel lt0) (trodAll_cons_mk (Below.trod laidOut (by kernel_rfl) (of_decide_eq_true (by kernel_rfl)) h1 bel lt1) trodAll_mk0)), rfl, bel.frame _, fun h => by cases h⟩
theorem over : Rows.TextLinesSaid :=
 OpenClaim.holds_of_wide 4 Tryd.f4 rfl rfl rfl rfl rfl rfl rfl ⟨rfl, rfl, rfl, rfl, rfl⟩ rfl rfl rfl rfl rfl (by kernel_rfl) Tryd.func4 (by kernel_rfl)
  (of_decide_eq_true (by kernel_rfl)) (by unfold Func.isWrapper; first | (rw [if_pos (by decide +kernel)]; kernel_rfl) | (rw [if_neg (by decide +kernel)]; exact ⟨rfl, rfl⟩))
  (fun os started H enc _ => lifted os started H enc)
theorem proved : Rows.TextLinesCardSaid :=
 Claim7.holds_tied_plain_at .later [] [.data, .data, .data] true (true, "9c1c2fde05b3d2d0ac103e2bc596dc174256f6113ed376e728f279b6f81a9188") false
  over (fun _ h => by cases h) (by kernel_rfl) (fun _ h => by cases h) textLines_row_tie rfl ⟨rfl, rfl⟩ (by kernel_rfl) rfl
  (fun f fn hf hfn => by
   obtain rfl : f = 4 := Option.some.inj ((show Tryd.prog.funcNamed "pawnshop/pawnshoplaw12.TextLines" = some 4 by kernel_rfl).symm.trans hf) |>.symm
   obtain rfl : fn = Tryd.f4 := (Option.some.inj (Tryd.func4.symm.trans hfn)).symm
   exact ⟨by kernel_rfl, fun j t ht => by
    rw [Tryd.params4] at ht
    have hm : t ∈ ([25, 3] : List TypeId) := by simpa using Array.mem_of_getElem? ht
    have hall : (([25, 3] : List TypeId).all fun t => !(Tryd.prog.wantsStandIn t)) = true := by kernel_rfl
    have hw := List.all_eq_true.1 hall t hm
    exact (by simpa using hw : Tryd.prog.wantsStandIn t = false)⟩)
  (by kernel_rfl)
#print axioms proved
end Go.Proofs.YtglmonlofejcgaaDoor.textLines
