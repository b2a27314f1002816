/- TextFuncs: the statement: for every input the law returns true, and each argument reads as it did. The walk is in the text before. -/
import Derived.Test.YtglmonlofejcgaaGreatDoorTextFuncs
import Derived.Test.YtglmonlofejcgaaGreatDoorTextVU
import Derived.Test.YtglmonlofejcgaaGreatDoorTie
import Derived.Test.YtglmonlofejcgaaGreatDoorCards
import Derived.SevenTiedAt
set_option linter.unusedVariables false
namespace Go.Proofs.YtglmonlofejcgaaGreatDoor.textFuncs
open Go.ChangeShapes Go.WideShapes Go.ChangeAt Go.RowKit Am
theorem door_met (os : Os) (args : Array Value) : laidMetH Tryz.prog Rows.textFuncsRow.laid ((World.doorLaid Tryz.prog 400 os).forCall (fun _ _ => 0) ⟨#[], args, []⟩).memory :=
 laidMetH_of_parts3 (fuel := 8) (laidMet_of_run' 8 (by kernel_rfl) (by kernel_rfl)) (by kernel_rfl) (by kernel_rfl)
set_option maxRecDepth 100000 in
theorem afn {H : Type} {enc : TypeId × Value -> H} {w : World} {b0 : Nat} {spare : Nat -> Bool} {held : Bool} {v : Value} {fuel : Nat} {x : DataW H × List MemPlace} (hv : Value.okWide Tryz.prog w .any b0 25 v)
  (h : DataW.trod enc Tryz.prog w 0 spare held fuel 25 v.cells.toList = some x) : ∃ D, aT w v D := by
 obtain ⟨fs, hu⟩ : ∃ fs, Tryz.prog.underlying 25 = some (.struct fs) := ⟨_, Tryz.underlying25⟩
 simp only [Value.okWide, hu] at hv
 obtain ⟨cs, rfl, hsz, _⟩ := hv
 have hsz : cs.size = 4 := hsz.trans (by kernel_rfl)
 have h : DataW.trod enc Tryz.prog w 0 spare held fuel 25 cs.toList = some x := h
 obtain ⟨p, u, lv, bv, ls, bs, hf⟩ := a2M (kS := Dj) (tLs := 22) (tT := 73) (tBs := 23) (tB := 60) (tSs := 51) (tS := 78) (tOs := 56) (tO := 55) h (by simpa using hsz) (by kernel_rfl)
  Tryz.underlying22 (by kernel_rfl) (by kernel_rfl) Tryz.underlying23 (by kernel_rfl) (by kernel_rfl) Tryz.underlying51 (by kernel_rfl) (by decide) (by kernel_rfl) Tryz.underlying56 (by kernel_rfl) (by kernel_rfl)
 rw [Array.toArray_toList] at hf
 exact aT.of hf
theorem abh : ∀ {us : List Value}, ak Kd.ok [Kd.i .i64, Kd.i .i64] us -> ∃ x y : Int, us = [.int .i64 x, .int .i64 y]
 | [], h => absurd h (by simp [ak])
 | [_], h => absurd h (by simp [ak])
 | [a, b], h => by obtain ⟨⟨x, hx, _⟩, ⟨y, hy, _⟩, _⟩ := h; exact ⟨x, y, by rw [hx, hy]⟩
 | _ :: _ :: _ :: _, h => absurd h (by simp [ak])
set_option maxHeartbeats 2000000 in
set_option maxRecDepth 100000 in
theorem lifted (os : Os) (started : os.Started) (H : Type) (enc : TypeId × Value -> H) :
  ReturnsInHanded {} Tryz.checked os 3 .any (fun w args => (Rows.textFuncsSpec.pre enc Tryz.prog Tryz.f3 [] false w args /\ laidMetH Tryz.prog Rows.textFuncsRow.laid w) /\ sizedMet enc Tryz.prog Tryz.f3 (OpenSpec.ofChange Rows.textFuncsSpec) false w args)
   (Rows.textFuncsSpec.post enc Tryz.prog Tryz.f3 false true false false) := by
 refine returnsInHanded_of_change_and (C := Tryz.checked) (X := fun w _ => laidMetH Tryz.prog Rows.textFuncsRow.laid w) (fun _ _ _ hh h => h.of_heap hh) own started (by kernel_rfl) Tryz.func3
  (ChangeSpec.witness_shaped (enc := enc) (C := Tryz.checked) (os := os) (X := fun w _ => laidMetH Tryz.prog Rows.textFuncsRow.laid w) false (World.doorLaid Tryz.prog 400 os) #[.agg #[.int .i64 0, .bool false, .slice none 0 0, .slice none 0 0], .int .i64 0, .agg #[.int .i64 0, .int .i64 0]] 8 rfl (World.shaped_of_RefB (by kernel_rfl) (by kernel_rfl)) (by kernel_rfl) (by kernel_rfl) (by kernel_rfl) (door_met os _)) ?_
 intro W base args ds gs0 before hval0 hW _ _ hL _
 have hval : ∀ (j : Nat) t v, Tryz.f3.params[j]? = some t -> args[j]? = some v -> Value.okWide Tryz.prog W .any base t v := hval0
 have hW' := hW
 obtain ⟨p, q, hA0, hV, rfl, hfz, hnd⟩ := hW
 have hA : DataW.TrodAll enc Tryz.prog W 0 (fun _ => true) true Tryz.f3.params.toList args.toList ds p := hA0
 rw [Tryz.params3] at hA hval
 obtain ⟨v0, vs0, d0, ds0, p0, q0, hargs, rfl, rfl, h0, r0⟩ := trodAll_cons hA
 obtain ⟨v1, vs1, d1, ds1, p1, q1, rfl, rfl, rfl, h1, r1⟩ := trodAll_cons r0
 obtain ⟨v2, vs2, d2, ds2, p2, q2, rfl, rfl, rfl, h2, r2⟩ := trodAll_cons r1
 obtain ⟨rfl, rfl, rfl⟩ := trodAll_nil r2
 obtain rfl : args = #[v0, v1, v2] := by cases args; simp_all
 obtain ⟨rfl, rfl⟩ := trodVars_none hV
 have lt0 : ∀ x ∈ p0, x.block < W.heap.size := by obtain ⟨m, hm⟩ := h0; exact DataW.trod_lt m _ _ _ hm
 obtain ⟨D0, j0⟩ : ∃ D, aT W v0 D := by
  obtain ⟨m, hm⟩ := h0
  exact afn (hval 0 25 v0 rfl rfl) hm
 have lt1 : ∀ x ∈ p1, x.block < W.heap.size := by obtain ⟨m, hm⟩ := h1; exact DataW.trod_lt m _ _ _ hm
 have j1 := aed (kd := .i .i64) (show KJ Tryz.prog 3 = some (.i .i64) by kernel_rfl) (hval 1 3 v1 rfl rfl)
 have lt2 : ∀ x ∈ p2, x.block < W.heap.size := by obtain ⟨m, hm⟩ := h2; exact DataW.trod_lt m _ _ _ hm
 have j2 : ∃ x y : Int, v2 = .agg #[.int .i64 x, .int .i64 y] := by
  obtain ⟨us, rfl, hk⟩ := a3q (ts := [3, 3]) (kds := [.i .i64, .i .i64]) Tryz.underlying27 (by kernel_rfl) (by kernel_rfl) (by kernel_rfl) (hval 2 27 v2 rfl rfl)
  obtain ⟨x, y, rfl⟩ := abh hk
  exact ⟨x, y, rfl⟩
 have hE0 := alL (by kernel_rfl) (by simp [Rows.textFuncsRow]) (by simp [Rows.textFuncsRow]) hL
 refine ((fun h hn hp kt => txt.agu h kt hn hp) j0 j1 j2 hE0).mono fun e W' ⟨he, bel⟩ => ?_
 subst he
 exact ⟨_, rfl, _, _, _, [], _, [], hW', trodAll_mk1 (shut_bool Tryz.underlying4 _), (trodAll_cons_mk (Below.trod laidOut (by kernel_rfl) (of_decide_eq_true (by kernel_rfl)) h0 bel lt0) (trodAll_cons_mk (Below.trod laidOut (by kernel_rfl) (of_decide_eq_true (by kernel_rfl)) h1 bel lt1) (trodAll_cons_mk (Below.trod laidOut (by kernel_rfl) (of_decide_eq_true (by kernel_rfl)) h2 bel lt2) trodAll_mk0))), rfl, bel.frame _, fun h => by cases h⟩
theorem over : Rows.TextFuncsSaid :=
 OpenClaim.holds_of_wide 3 Tryz.f3 rfl rfl rfl rfl rfl rfl rfl ⟨rfl, rfl, rfl, rfl, rfl⟩ rfl rfl rfl rfl rfl (by kernel_rfl) Tryz.func3 (by kernel_rfl)
  (of_decide_eq_true (by kernel_rfl)) (by unfold Func.isWrapper; first | (rw [if_pos (by decide +kernel)]; kernel_rfl) | (rw [if_neg (by decide +kernel)]; exact ⟨rfl, rfl⟩))
  (fun os started H enc _ => lifted os started H enc)
theorem proved : Rows.TextFuncsCardSaid :=
 Claim7.holds_tied_plain_at .later [] [.data, .data, .data] true (true, "8c3f80282f54b31e644f31a4a5ceb06d97eab7fb7e47b01e0b84ec173345749c") false
  over (fun _ h => by cases h) (by kernel_rfl) (fun _ h => by cases h) textFuncs_row_tie rfl ⟨rfl, rfl⟩ (by kernel_rfl) rfl
  (fun f fn hf hfn => by
   obtain rfl : f = 3 := Option.some.inj ((show Tryz.prog.funcNamed "pawnshop/pawnshoplaw12.TextFuncs" = some 3 by kernel_rfl).symm.trans hf) |>.symm
   obtain rfl : fn = Tryz.f3 := (Option.some.inj (Tryz.func3.symm.trans hfn)).symm
   exact ⟨by kernel_rfl, fun j t ht => by
    rw [Tryz.params3] at ht
    have hm : t ∈ ([25, 3, 27] : List TypeId) := by simpa using Array.mem_of_getElem? ht
    have hall : (([25, 3, 27] : List TypeId).all fun t => !(Tryz.prog.wantsStandIn t)) = true := by kernel_rfl
    have hw := List.all_eq_true.1 hall t hm
    exact (by simpa using hw : Tryz.prog.wantsStandIn t = false)⟩)
  (by kernel_rfl)
#print axioms proved
end Go.Proofs.YtglmonlofejcgaaGreatDoor.textFuncs
