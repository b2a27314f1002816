/- FnshapeTwos: the statement: for every input the law returns true, and each argument reads as it did. The walk is the machine's runs, by the kernel. -/
import Derived.Test.YtbebbbclhgjcbaaTwosW
import Derived.Test.YtbebbbclhgjcbaaSeatN
namespace Go.Proofs.Ytbebbbclhgjcbaa.fnshapeTwos
open Go.ChangeShapes Go.WideShapes Go.ChangeAt Go.RowKit Go.Proofs.Ytbebbbclhgjcbaa.Am
set_option linter.unusedVariables false

set_option maxRecDepth 100000 in
theorem fn_open {H : Type} {enc : TypeId × Value → H} {w : World} {b0 : Nat} {spare : Nat → Bool} {held : Bool} {v : Value} {fuel : Nat} {x : DataW H × List MemPlace} (hv : Value.okWide Try.prog w .any b0 31 v)
    (h : DataW.trod enc Try.prog w 0 spare held fuel 31 v.cells.toList = some x) : ∃ D, FnOk' w v D := by
  obtain ⟨fs, hu⟩ : ∃ fs, Try.prog.underlying 31 = some (.struct fs) := ⟨_, Try.underlying31⟩
  simp only [Value.okWide, hu] at hv
  obtain ⟨cs, rfl, hsz, _⟩ := hv
  have hsz : cs.size = 4 := hsz.trans (by kernel_rfl)
  have h : DataW.trod enc Try.prog w 0 spare held fuel 31 cs.toList = some x := h
  obtain ⟨p, u, lv, bv, ls, bs, hf⟩ := func_open (kS := kS26) (tLs := 28) (tT := 37) (tBs := 29) (tB := 47) (tSs := 38) (tS := 52) (tOs := 43) (tO := 42) h (by simpa using hsz) (by kernel_rfl)
    Try.underlying28 (by kernel_rfl) (by kernel_rfl) Try.underlying29 (by kernel_rfl) (by kernel_rfl) Try.underlying38 (by kernel_rfl) (by decide) (by kernel_rfl) Try.underlying43 (by kernel_rfl) (by kernel_rfl)
  rw [Array.toArray_toList] at hf
  exact FnOk'.of hf

set_option maxRecDepth 100000 in
theorem lifted (os : Os) (started : os.Started) (H : Type) (enc : TypeId × Value → H) :
    ReturnsInHanded {} Try.checked os 6 .any (Rows.fnshapeTwosSpec.pre6 enc Try.prog Try.f6 Rows.fnshapeTwosRow.domain false) (Rows.fnshapeTwosSpec.post enc Try.prog Try.f6 false true false false) := by
  refine returnsInHanded_of_change (C := Try.checked) own started (by kernel_rfl) Try.func6
    (ChangeSpec.witness6 (enc := enc) (C := Try.checked) false ⟨#[], #[.agg #[.int .i64 0, .bool false, .slice none 0 0, .slice none 0 0]], []⟩ 8 (by kernel_rfl) (by kernel_rfl) (by kernel_rfl) (by kernel_rfl)) ?_
  intro W base args ds gs0 before hval0 hW hcnd _
  have hval : ∀ (j : Nat) t v, Try.f6.params[j]? = some t → args[j]? = some v → Value.okWide Try.prog W .any base t v := hval0
  have hW' := hW
  obtain ⟨p, q, hA0, hV, rfl, hfz, hnd⟩ := hW
  have hA : DataW.TrodAll enc Try.prog W 0 (fun _ => true) true Try.f6.params.toList args.toList ds p := hA0
  rw [Try.params6] at hA hval
  obtain ⟨v0, vs0, d0, ds0, p0, q0, hargs, rfl, rfl, h0, r0⟩ := trodAll_cons hA
  obtain ⟨rfl, rfl, rfl⟩ := trodAll_nil r0
  obtain rfl : args = #[v0] := by cases args; simp_all
  obtain ⟨rfl, rfl⟩ := trodVars_none hV
  have lt0 : ∀ x ∈ p0, x.block < W.heap.size := by obtain ⟨m, hm⟩ := h0; exact DataW.trod_lt m _ _ _ hm
  obtain ⟨D0, j0⟩ : ∃ D, FnOk' W v0 D := by
    obtain ⟨m, hm⟩ := h0
    exact fn_open (hval 0 31 v0 rfl rfl) hm
  refine (two.walk j0).mono fun e W' ⟨he, bel⟩ => ?_
  subst he
  exact ⟨_, rfl, _, _, _, [], _, [], hW', trodAll_mk1 (shut_bool Try.underlying4 _), (trodAll_cons_mk (Below.trod laidOut (by kernel_rfl) (of_decide_eq_true (by kernel_rfl)) h0 bel lt0) trodAll_mk0), rfl, bel.frame _, fun h => by cases h⟩

theorem over : Rows.FnshapeTwosSaid :=
  OpenClaim.holds_of_wide 6 Try.f6 rfl rfl rfl rfl rfl rfl rfl ⟨rfl, rfl, rfl, rfl, rfl⟩ rfl rfl rfl rfl rfl (by kernel_rfl) Try.func6 (by kernel_rfl)
    (of_decide_eq_true (by kernel_rfl)) (by unfold Func.isWrapper; first | (rw [if_pos (by decide +kernel)]; kernel_rfl) | (rw [if_neg (by decide +kernel)]; exact ⟨rfl, rfl⟩))
    (fun os started H enc _ => lifted os started H enc)

theorem proved : Rows.FnshapeTwosSaid := over

#print axioms proved
end Go.Proofs.Ytbebbbclhgjcbaa.fnshapeTwos
