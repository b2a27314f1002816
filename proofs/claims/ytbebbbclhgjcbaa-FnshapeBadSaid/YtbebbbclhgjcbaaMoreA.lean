/- What the laws of chapter 07 that copy a function call, by its contracts. -/
import Derived.Test.YtbebbbclhgjcbaaOwn
import Derived.Test.YtbebbbclhgjcbaaTwinA
import Derived.Test.YtbebbbclhgjcbaaListT
import Derived.Test.YtbebbbclhgjcbaaAlive07
import Derived.Deep.DeepCutAuto
namespace Go.Proofs.Ytbebbbclhgjcbaa.more
open Go.RowKit Go.Proofs.Ytbebbbclhgjcbaa Go.Proofs.Ytbebbbclhgjcbaa.Am Go.Proofs.Ytbebbbclhgjcbaa.twin Go.Proofs.Ytbebbbclhgjcbaa.own
set_option linter.unusedVariables false
set_option linter.unusedSectionVars false
/-- true, and nothing that was there has changed -/
def Yes (w : World) (e : Ending) (w' : World) : Prop := e = .returned (.bool true) ∧ Below w.heap.size w w'
theorem alive_from {w w1 : World} (hb : Below w.heap.size w w1) : Calls Try.prog 17 #[] w1 (Yes w) := (alive07 w1).mono fun e w' ⟨h1, h2⟩ => ⟨h1, hb.trans (h2.mono hb.size)⟩
/-- an answer; what was there when it was called has not changed -/
def Ans (w1 : World) (v : Value) (e : Ending) (w' : World) : Prop := e = .returned v ∧ Below w1.heap.size w1 w'
theorem great_c {w w1 : World} {v : Value} {D : FnD} (h : FnOk' w v D) (hb : Below w.heap.size w w1) : Calls Try.prog 18 #[v] w1 (Ans w1 (.bool (great.greatF D))) := great.great_ans (h.frz hb.block)
theorem check_c {w w1 : World} {v : Value} {D : FnD} (h : FnOk' w v D) (hb : Below w.heap.size w w1) : Calls Try.prog 19 #[v] w1 (Ans w1 (.int .i64 (check.chkF D))) := refC.check_same (h.frz hb.block)
abbrev tF : TypeId := 31
theorem one_of {k : Kd} {v : Value} (h : k.ok v) : v.oneCell' = true := by
  cases k with
  | i x => obtain ⟨n, rfl, _⟩ := h; rfl
  | b => obtain ⟨b, rfl⟩ := h; rfl
  | s => obtain ⟨s, rfl, _⟩ := h; rfl
theorem ones {ks : List Kd} {us : List Value} (h : All2 Kd.ok ks us) : ∀ u ∈ us, u.oneCell' = true := fun u hu => by
  obtain ⟨i, hi⟩ := List.getElem?_of_mem hu
  have hl := (List.getElem?_eq_some_iff.1 hi).1
  obtain ⟨k, hk⟩ : ∃ k, ks[i]? = some k := ⟨_, List.getElem?_eq_getElem (by have := h.len; omega)⟩
  obtain ⟨v', hv', ok⟩ := All2.nth h (n := i) (x := k) (by rw [nth_eq]; exact hk)
  rw [hi] at hv'
  cases hv'
  exact one_of ok
/-- the copy, as the law has it -/
def Copied (w : World) (D : FnD) (e : Ending) (w' : World) : Prop :=
  ∃ (gl cl gb cB : Nat) (Bs : List BlkD), e = .returned (.agg #[.int .i64 D.p, .bool D.u, .slice (some ⟨gl, 0, none⟩) D.ls.length cl, .slice (some ⟨gb, 0, none⟩) Bs.length cB]) ∧ OwnFn w.heap.size w' ⟨D.p, D.u, .slice (some ⟨gl, 0, none⟩) D.ls.length cl, .slice (some ⟨gb, 0, none⟩) Bs.length cB, D.ls, Bs, ⟨nilV, []⟩⟩ ∧ Bs.map BlkD.core = D.bs.map BlkD.core ∧ Below w.heap.size w w'
theorem twin_c {w w1 : World} {v : Value} {D : FnD} (h : FnOk' w v D) (hc : check.chkF D = 0) (hb : Below w.heap.size w w1) : Calls Try.prog 20 #[v] w1 (Copied w1 D) := by
  have h' := h.frz hb.block
  have hs := size.sm h hc
  obtain ⟨m1, m2, m3⟩ := check.small_of (size.of_chk hc).1
  have hpos : 0 < D.bs.length := by
    have := (size.of_chk hc).2.1
    unfold made.madeF at this
    simp only [Bool.and_eq_true, decide_eq_true_eq] at this
    exact this.2.1
  refine (twin.any h' (by omega) (by omega) (fun el he => ones (h'.lkd el he)) (fun b hb el he => ones (hb.skd el he)) (fun b hb el he => ones (hb.okd el he)) (fun b hb => by have := (hs.s b hb).1; omega) (fun b hb => by have := (hs.s b hb).2; omega)).mono ?_
  rintro e w' ⟨g, c, bv', Bs, he, hf, hb'⟩
  have hlen : Bs.length = D.bs.length := by simpa using congrArg List.length hf.core
  obtain ⟨gb, cap, hbv, _⟩ := hf.ob.form (by omega)
  subst hbv
  exact ⟨g, c, gb, cap, Bs, he, (of_fresh hf).1, hf.core, hb'⟩
/-- a list of numbers and no error -/
def AnsL (w1 : World) (l : List Int) (e : Ending) (w' : World) : Prop := ∃ s, e = .returned (.tuple #[s, .int .i64 0]) ∧ sameI.Ints w' s l ∧ Below w1.heap.size w1 w'
theorem size_c {w w1 : World} {v : Value} {D : FnD} (h : FnOk' w v D) (hc : check.chkF D = 0) (hb : Below w.heap.size w w1) : Calls Try.prog 10 #[v] w1 (Ans w1 (.tuple #[.int .i64 (size.sizeF D), .int .i64 0])) := size.size_ans (h.frz hb.block) hc
theorem calls_c {w w1 : World} {v : Value} {D : FnD} (h : FnOk' w v D) (hc : check.chkF D = 0) (hb : Below w.heap.size w w1) : Calls Try.prog 9 #[v] w1 (AnsL w1 (callsF.lits (callsF.vec D))) :=
  (callsF.calls_ans (h.frz hb.block) hc).mono fun e w' ⟨s, h1, h2, h3⟩ => ⟨s, h1, sameI.Ints.new h2, h3⟩
theorem twos_c {w w1 : World} {v : Value} {D : FnD} (h : FnOk' w v D) (hc : check.chkF D = 0) (hb : Below w.heap.size w w1) : Calls Try.prog 8 #[v] w1 (AnsL w1 (twosL.locs D)) :=
  (twosL.twos_list (h.frz hb.block) hc).mono fun e w' ⟨s, h1, h2, h3⟩ => ⟨s, h1, sameI.Ints.own h2, h3⟩
theorem size_lo {w : World} {v : Value} {D : FnD} (h : FnOk' w v D) (hc : check.chkF D = 0) : (D.bs.length : Int) ≤ size.sizeF D ∧ size.sizeF D ≤ 1000 := by
  have hs := size.sm h hc
  have := acc_le (fun b : BlkD => (b.st.length : Int)) 24 D.bs fun b hb => by
    have := (hs.s b hb).1
    omega
  have hb := hs.b
  unfold size.sizeF
  omega
theorem modify_set {α : Type} {f : α → α} {l : List α} {j : Nat} {x : α} (h : l[j]? = some x) : l.modify j f = l.set j (f x) := by
  obtain ⟨hl, rfl⟩ := List.getElem?_eq_some_iff.1 h
  apply List.ext_getElem?
  intro i
  rw [List.getElem?_modify, List.getElem?_set]
  by_cases hij : j = i
  · subst hij
    simp [hl]
  · simp [hij]
theorem locs_core {D D' : FnD} {j : Nat} {n : Int} (h : D'.core = D.core.setB j (BlkD.push (printS n))) : twosL.locs D' = twosL.locs D := by
  unfold twosL.locs twosL.bits
  rw [← ct_core D', h, print_ct, ct_core]
theorem print_kind (n : Int) (hn : Kd.ok (.i .i64) (.int .i64 n)) : All2 Kd.ok kS26 (printS n) := by
  have u : ∀ m : Int, 0 ≤ m → m ≤ 255 → Kd.ok (.i .u8) (.int .u8 m) := fun m h1 h2 => ⟨m, rfl, h1, h2⟩
  have z : Kd.ok (.i .i64) (.int .i64 0) := ⟨0, rfl, by decide, by decide⟩
  have b : Kd.ok .b (.bool false) := ⟨false, rfl⟩
  have u0 := u 0 (by decide) (by decide)
  exact ⟨u 2 (by decide) (by decide), z, b, u0, u0, u0, u0, u0, z, z, b, u0, u0, z, z, b, u0, z, b, u0, u 1 (by decide) (by decide), hn, z, b, u0, z, trivial⟩
/-- what the new function's core is -/
theorem core_push {D : FnD} {lv bv s' : Value} {Bs : List BlkD} {j : Nat} {bj : BlkD} {x : List Value} (hc : Bs.map BlkD.core = D.bs.map BlkD.core) (hj : Bs[j]? = some bj) :
    (⟨D.p, D.u, lv, bv, D.ls, Bs.set j { bj with s := s', st := bj.st ++ [x] }, ⟨nilV, []⟩⟩ : FnD).core = D.core.setB j (BlkD.push x) := by
  have e : (D.bs.map BlkD.core)[j]? = some bj.core := by rw [← hc, List.getElem?_map, hj]; rfl
  unfold FnD.core FnD.setB
  rw [modify_set e, List.map_set, hc]
  rfl
end Go.Proofs.Ytbebbbclhgjcbaa.more
