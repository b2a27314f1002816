/- LoansKilled: the statement: for every input the law returns true, and each argument reads as it did. The walk is the machine's runs, by the kernel. -/
import Derived.Test.YthdcahkedlijpaaGreatLoanKill
import Derived.Test.YthdcahkedlijpaaGreatSeatN
namespace Go.Proofs.YthdcahkedlijpaaGreat.loansKilled
open Go.ChangeShapes Go.WideShapes Go.ChangeAt Go.RowKit Go.Proofs.YthdcahkedlijpaaGreat.Am
set_option linter.unusedVariables false
set_option maxRecDepth 100000 in
theorem fn_open {H : Type} {enc : TypeId × Value → H} {w : World} {b0 : Nat} {spare : Nat → Bool} {held : Bool} {v : Value} {fuel : Nat} {x : DataW H × List MemPlace} (hv : Value.okWide Tryz.prog w .any b0 25 v)
    (h : DataW.trod enc Tryz.prog w 0 spare held fuel 25 v.cells.toList = some x) : ∃ D, FnOk' w v D := by
  obtain ⟨fs, hu⟩ : ∃ fs, Tryz.prog.underlying 25 = some (.struct fs) := ⟨_, Tryz.underlying25⟩
  simp only [Value.okWide, hu] at hv
  obtain ⟨cs, rfl, hsz, _⟩ := hv
  have hsz : cs.size = 4 := hsz.trans (by kernel_rfl)
  have h : DataW.trod enc Tryz.prog w 0 spare held fuel 25 cs.toList = some x := h
  obtain ⟨p, u, lv, bv, ls, bs, hf⟩ := func_open (kS := kS26) (tLs := 22) (tT := 43) (tBs := 23) (tB := 58) (tSs := 53) (tS := 51) (tOs := 54) (tO := 47) h (by simpa using hsz) (by kernel_rfl)
    Tryz.underlying22 (by kernel_rfl) (by kernel_rfl) Tryz.underlying23 (by kernel_rfl) (by kernel_rfl) Tryz.underlying53 (by kernel_rfl) (by decide) (by kernel_rfl) Tryz.underlying54 (by kernel_rfl) (by kernel_rfl)
  rw [Array.toArray_toList] at hf
  exact FnOk'.of hf
set_option maxRecDepth 100000 in
theorem lifted (os : Os) (started : os.Started) (H : Type) (enc : TypeId × Value → H) :
    ReturnsInHanded {} Tryz.checked os 6 .any (Rows.loansKilledSpec.pre6 enc Tryz.prog Tryz.f6 Rows.loansKilledRow.domain false) (Rows.loansKilledSpec.post enc Tryz.prog Tryz.f6 false true false false) := by
  refine returnsInHanded_of_change (C := Tryz.checked) own started (by kernel_rfl) Tryz.func6
    (ChangeSpec.witness6 (enc := enc) (C := Tryz.checked) false ⟨#[], #[.agg #[.int .i64 0, .bool false, .slice none 0 0, .slice none 0 0], .int .i64 0], []⟩ 8 (by kernel_rfl) (by kernel_rfl) (by kernel_rfl) (by kernel_rfl)) ?_
  intro W base args ds gs0 before hval0 hW hcnd _
  have hval : ∀ (j : Nat) t v, Tryz.f6.params[j]? = some t → args[j]? = some v → Value.okWide Tryz.prog W .any base t v := hval0
  have hW' := hW
  obtain ⟨p, q, hA0, hV, rfl, hfz, hnd⟩ := hW
  have hA : DataW.TrodAll enc Tryz.prog W 0 (fun _ => true) true Tryz.f6.params.toList args.toList ds p := hA0
  rw [Tryz.params6] at hA hval
  obtain ⟨v0, vs0, d0, ds0, p0, q0, hargs, rfl, rfl, h0, r0⟩ := trodAll_cons hA
  obtain ⟨v1, vs1, d1, ds1, p1, q1, rfl, rfl, rfl, h1, r1⟩ := trodAll_cons r0
  obtain ⟨rfl, rfl, rfl⟩ := trodAll_nil r1
  obtain rfl : args = #[v0, v1] := by cases args; simp_all
  obtain ⟨rfl, rfl⟩ := trodVars_none hV
  have lt0 : ∀ x ∈ p0, x.block < W.heap.size := by obtain ⟨m, hm⟩ := h0; exact DataW.trod_lt m _ _ _ hm
  obtain ⟨D0, j0⟩ : ∃ D, FnOk' W v0 D := by
    obtain ⟨m, hm⟩ := h0
    exact fn_open (hval 0 25 v0 rfl rfl) hm
  have lt1 : ∀ x ∈ p1, x.block < W.heap.size := by obtain ⟨m, hm⟩ := h1; exact DataW.trod_lt m _ _ _ hm
  have j1 := open_one (kd := .i .i64) (show kdOf Tryz.prog 3 = some (.i .i64) by kernel_rfl) (hval 1 3 v1 rfl rfl)
  refine (loan.kil_walk j0 j1).mono fun e W' ⟨he, bel⟩ => ?_
  subst he
  exact ⟨_, rfl, _, _, _, [], _, [], hW', trodAll_mk1 (shut_bool Tryz.underlying4 _), (trodAll_cons_mk (Below.trod laidOut (by kernel_rfl) (of_decide_eq_true (by kernel_rfl)) h0 bel lt0) (trodAll_cons_mk (Below.trod laidOut (by kernel_rfl) (of_decide_eq_true (by kernel_rfl)) h1 bel lt1) trodAll_mk0)), rfl, bel.frame _, fun h => by cases h⟩
theorem over : Rows.LoansKilledSaid :=
  OpenClaim.holds_of_wide 6 Tryz.f6 rfl rfl rfl rfl rfl rfl rfl ⟨rfl, rfl, rfl, rfl, rfl⟩ rfl rfl rfl rfl rfl (by kernel_rfl) Tryz.func6 (by kernel_rfl)
    (of_decide_eq_true (by kernel_rfl)) (by unfold Func.isWrapper; first | (rw [if_pos (by decide +kernel)]; kernel_rfl) | (rw [if_neg (by decide +kernel)]; exact ⟨rfl, rfl⟩))
    (fun os started H enc _ => lifted os started H enc)
theorem proved : Rows.LoansKilledSaid := over
#print axioms proved
end Go.Proofs.YthdcahkedlijpaaGreat.loansKilled
