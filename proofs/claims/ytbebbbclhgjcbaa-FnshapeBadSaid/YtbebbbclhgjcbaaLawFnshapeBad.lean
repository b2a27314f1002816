/- FnshapeBad: the statement: for every input the law returns true, and each argument reads as it did. The walk is the machine's runs, by the kernel. -/
import Derived.Test.YtbebbbclhgjcbaaBadAll
import Derived.Test.YtbebbbclhgjcbaaSeatN
namespace Go.Proofs.Ytbebbbclhgjcbaa.fnshapeBad
open Go.ChangeShapes Go.WideShapes Go.ChangeAt Go.RowKit Go.Proofs.Ytbebbbclhgjcbaa.Am
set_option linter.unusedVariables false

set_option maxRecDepth 100000 in
theorem fn_open {H : Type} {enc : TypeId × Value → H} {w : World} {b0 : Nat} {spare : Nat → Bool} {held : Bool} {v : Value} {fuel : Nat} {x : DataW H × List MemPlace} (hv : Value.okWide Try.prog w .any b0 31 v)
    (h : DataW.trod enc Try.prog w 0 spare held fuel 31 v.cells.toList = some x) : ∃ D, FnOk' w v D := by
  obtain ⟨fs, hu⟩ : ∃ fs, Try.prog.underlying 31 = some (.struct fs) := ⟨_, Try.underlying31⟩
  simp only [Value.okWide, hu] at hv
  obtain ⟨cs, rfl, hsz, _⟩ := hv
  have hsz : cs.size = 4 := hsz.trans (by kernel_rfl)
  have h : DataW.trod enc Try.prog w 0 spare held fuel 31 cs.toList = some x := h
  obtain ⟨p, u, lv, bv, ls, bs, hf⟩ := func_open (kS := kS26) (tLs := 28) (tT := 37) (tBs := 29) (tB := 47) (tSs := 38) (tS := 52) (tOs := 43) (tO := 42) h (by simpa using hsz) (by kernel_rfl)
    Try.underlying28 (by kernel_rfl) (by kernel_rfl) Try.underlying29 (by kernel_rfl) (by kernel_rfl) Try.underlying38 (by kernel_rfl) (by decide) (by kernel_rfl) Try.underlying43 (by kernel_rfl) (by kernel_rfl)
  rw [Array.toArray_toList] at hf
  exact FnOk'.of hf

set_option maxRecDepth 100000 in
theorem lifted (os : Os) (started : os.Started) (H : Type) (enc : TypeId × Value → H) :
    ReturnsInHanded {} Try.checked os 4 .any (Rows.fnshapeBadSpec.pre6 enc Try.prog Try.f4 Rows.fnshapeBadRow.domain false) (Rows.fnshapeBadSpec.post enc Try.prog Try.f4 false true false false) := by
  refine returnsInHanded_of_change (C := Try.checked) own started (by kernel_rfl) Try.func4
    (ChangeSpec.witness6 (enc := enc) (C := Try.checked) false ⟨#[], #[.agg #[.int .i64 0, .bool false, .slice none 0 0, .slice none 0 0], .int .i64 0, .int .i64 0, .int .i64 0], []⟩ 8 (by kernel_rfl) (by kernel_rfl) (by kernel_rfl) (by kernel_rfl)) ?_
  intro W base args ds gs0 before hval0 hW hcnd _
  have hval : ∀ (j : Nat) t v, Try.f4.params[j]? = some t → args[j]? = some v → Value.okWide Try.prog W .any base t v := hval0
  have hW' := hW
  obtain ⟨p, q, hA0, hV, rfl, hfz, hnd⟩ := hW
  have hA : DataW.TrodAll enc Try.prog W 0 (fun _ => true) true Try.f4.params.toList args.toList ds p := hA0
  rw [Try.params4] at hA hval
  obtain ⟨v0, vs0, d0, ds0, p0, q0, hargs, rfl, rfl, h0, r0⟩ := trodAll_cons hA
  obtain ⟨v1, vs1, d1, ds1, p1, q1, rfl, rfl, rfl, h1, r1⟩ := trodAll_cons r0
  obtain ⟨v2, vs2, d2, ds2, p2, q2, rfl, rfl, rfl, h2, r2⟩ := trodAll_cons r1
  obtain ⟨v3, vs3, d3, ds3, p3, q3, rfl, rfl, rfl, h3, r3⟩ := trodAll_cons r2
  obtain ⟨rfl, rfl, rfl⟩ := trodAll_nil r3
  obtain rfl : args = #[v0, v1, v2, v3] := by cases args; simp_all
  obtain ⟨rfl, rfl⟩ := trodVars_none hV
  have lt0 : ∀ x ∈ p0, x.block < W.heap.size := by obtain ⟨m, hm⟩ := h0; exact DataW.trod_lt m _ _ _ hm
  obtain ⟨D0, j0⟩ : ∃ D, FnOk' W v0 D := by
    obtain ⟨m, hm⟩ := h0
    exact fn_open (hval 0 31 v0 rfl rfl) hm
  have lt1 : ∀ x ∈ p1, x.block < W.heap.size := by obtain ⟨m, hm⟩ := h1; exact DataW.trod_lt m _ _ _ hm
  have j1 := open_one (kd := .i .i64) (show kdOf Try.prog 3 = some (.i .i64) by kernel_rfl) (hval 1 3 v1 rfl rfl)
  have lt2 : ∀ x ∈ p2, x.block < W.heap.size := by obtain ⟨m, hm⟩ := h2; exact DataW.trod_lt m _ _ _ hm
  have j2 := open_one (kd := .i .i64) (show kdOf Try.prog 3 = some (.i .i64) by kernel_rfl) (hval 2 3 v2 rfl rfl)
  have lt3 : ∀ x ∈ p3, x.block < W.heap.size := by obtain ⟨m, hm⟩ := h3; exact DataW.trod_lt m _ _ _ hm
  have j3 := open_one (kd := .i .i64) (show kdOf Try.prog 3 = some (.i .i64) by kernel_rfl) (hval 3 3 v3 rfl rfl)
  refine (bad.walkK j0 j1 j2 j3).mono fun e W' ⟨he, bel⟩ => ?_
  subst he
  exact ⟨_, rfl, _, _, _, [], _, [], hW', trodAll_mk1 (shut_bool Try.underlying4 _), (trodAll_cons_mk (Below.trod laidOut (by kernel_rfl) (of_decide_eq_true (by kernel_rfl)) h0 bel lt0) (trodAll_cons_mk (Below.trod laidOut (by kernel_rfl) (of_decide_eq_true (by kernel_rfl)) h1 bel lt1) (trodAll_cons_mk (Below.trod laidOut (by kernel_rfl) (of_decide_eq_true (by kernel_rfl)) h2 bel lt2) (trodAll_cons_mk (Below.trod laidOut (by kernel_rfl) (of_decide_eq_true (by kernel_rfl)) h3 bel lt3) trodAll_mk0)))), rfl, bel.frame _, fun h => by cases h⟩

theorem over : Rows.FnshapeBadSaid :=
  OpenClaim.holds_of_wide 4 Try.f4 rfl rfl rfl rfl rfl rfl rfl ⟨rfl, rfl, rfl, rfl, rfl⟩ rfl rfl rfl rfl rfl (by kernel_rfl) Try.func4 (by kernel_rfl)
    (of_decide_eq_true (by kernel_rfl)) (by unfold Func.isWrapper; first | (rw [if_pos (by decide +kernel)]; kernel_rfl) | (rw [if_neg (by decide +kernel)]; exact ⟨rfl, rfl⟩))
    (fun os started H enc _ => lifted os started H enc)

theorem proved : Rows.FnshapeBadSaid := over

#print axioms proved
end Go.Proofs.Ytbebbbclhgjcbaa.fnshapeBad
