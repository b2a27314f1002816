/- What a function's checks answer hangs on its core: its data without where its lists lie; and what a change of the core does to the answers. (Plain.) -/
import Derived.Test.YtbebbbclhgjcbaaFn29
namespace Go.Proofs.Ytbebbbclhgjcbaa.Am
open Go.RowKit
set_option linter.unusedVariables false
set_option linter.unusedSectionVars false
set_option maxRecDepth 100000
def nilV : Value := .slice none 0 0
def BlkD.core (b : BlkD) : BlkD := ⟨nilV, b.pre, nilV, b.post, b.st, b.ops⟩
def FnD.core (D : FnD) : FnD := ⟨D.p, D.u, nilV, nilV, D.ls, D.bs.map BlkD.core, ⟨nilV, []⟩⟩
section
variable (D : FnD)
theorem many_core : many.manyF D.core = many.manyF D := by
  unfold many.manyF FnD.core
  rw [List.length_map, List.all_map]
  rfl
theorem made_core : made.madeF D.core = made.madeF D := by
  unfold made.madeF
  have h1 : head.headF D.core = head.headF D := rfl
  have h2 : D.core.bs.length = D.bs.length := by unfold FnD.core; rw [List.length_map]
  have h3 : D.core.ls = D.ls := rfl
  have h4 : ∀ p : BlkD → Bool, D.core.bs.all p = D.bs.all fun b => p b.core := fun p => by unfold FnD.core; rw [List.all_map]; rfl
  rw [h1, h2, h3, h4, h4]
  rfl
theorem ct_core : twos.Ct.fn D.core = twos.Ct.fn D := by
  unfold twos.Ct.fn FnD.core
  rw [List.foldl_map]
  rfl
theorem twos_core : twos.twosF D.core = twos.twosF D := by
  unfold twos.twosF
  congr 1
  funext t
  unfold twos.goodB
  rw [ct_core]
  rfl
theorem chk_core : check.chkF D.core = check.chkF D := by
  unfold check.chkF
  rw [many_core, made_core, twos_core]
theorem acc_map {α β : Type} (f : β → Int) (g : α → β) : ∀ l : List α, acc f (l.map g) = acc (fun x => f (g x)) l
  | [] => rfl
  | x :: l => by show f (g x) + acc f (l.map g) = _ + acc _ l; rw [acc_map f g l]
theorem size_core : size.sizeF D.core = size.sizeF D := by
  unfold size.sizeF FnD.core
  rw [List.length_map, acc_map]
  rfl
theorem called_core (j : Nat) : callsF.called D.core j = callsF.called D j := by
  unfold callsF.called FnD.core
  rw [List.any_map]
  rfl
theorem vec_core : callsF.vec D.core = callsF.vec D := by
  unfold callsF.vec
  simp only [called_core]
end
/-! one element changed -/
section
variable {α : Type} {p : α → Bool} {f : α → α} {l : List α} {b : Nat}
theorem all_modify (hl : l.all p = true) (hf : ∀ x, l[b]? = some x → p (f x) = true) : (l.modify b f).all p = true := by
  rw [List.all_eq_true] at hl ⊢
  intro y hy
  obtain ⟨i, hi⟩ := List.getElem?_of_mem hy
  rw [List.getElem?_modify] at hi
  cases hx : l[i]? with
  | none => rw [hx] at hi; cases hi
  | some x =>
    rw [hx] at hi
    by_cases hb : b = i
    · subst hb
      simp at hi
      rw [← hi]
      exact hf x hx
    · simp [hb] at hi
      rw [← hi]
      exact hl x (List.mem_of_getElem? hx)
theorem all_modify_not {x : α} (hx : l[b]? = some x) (hf : p (f x) = false) : (l.modify b f).all p = false := by
  cases h : (l.modify b f).all p with
  | false => rfl
  | true =>
    rw [List.all_eq_true] at h
    have := h (f x) (List.mem_of_getElem? (i := b) (by rw [List.getElem?_modify, hx]; simp))
    rw [hf] at this
    cases this
theorem foldl_modify {β : Type} {g : β → α → β} (hf : ∀ x c, l[b]? = some x → g c (f x) = g c x) : ∀ c, (l.modify b f).foldl g c = l.foldl g c := by
  induction l generalizing b with
  | nil => intro c; cases b <;> rfl
  | cons x l ih =>
    intro c
    cases b with
    | zero =>
      show l.foldl g (g c (f x)) = l.foldl g (g c x)
      rw [hf x c rfl]
    | succ b => exact ih (fun y c hy => hf y c hy) (g c x)
theorem any_modify (hf : ∀ x, l[b]? = some x → p (f x) = p x) : (l.modify b f).any p = l.any p := by
  induction l generalizing b with
  | nil => cases b <;> rfl
  | cons x l ih =>
    cases b with
    | zero =>
      show (p (f x) || l.any p) = (p x || l.any p)
      rw [hf x rfl]
    | succ b =>
      show (p x || (l.modify b f).any p) = (p x || l.any p)
      rw [ih fun y hy => hf y hy]
theorem acc_modify (g : α → Int) (d : Int) (hb : b < l.length) (hf : ∀ x, l[b]? = some x → g (f x) = g x + d) : acc g (l.modify b f) = acc g l + d := by
  induction l generalizing b with
  | nil => exact absurd hb (Nat.not_lt_zero _)
  | cons x l ih =>
    cases b with
    | zero =>
      show g (f x) + acc g l = g x + acc g l + d
      rw [hf x rfl]; omega
    | succ b =>
      show g x + acc g (l.modify b f) = g x + acc g l + d
      rw [ih (by simpa using hb) fun y hy => hf y hy]; omega
end
/-- a block that is changed -/
def FnD.setB (C : FnD) (b : Nat) (f : BlkD → BlkD) : FnD := { C with bs := C.bs.modify b f }
def FnD.setT (C : FnD) (t : Nat) (f : List Value → List Value) : FnD := { C with ls := C.ls.modify t f }
def BlkD.push (x : List Value) (b : BlkD) : BlkD := { b with st := b.st ++ [x] }
section
variable {C : FnD} {b : Nat} {f : BlkD → BlkD}
theorem setB_len : (C.setB b f).bs.length = C.bs.length := by simp [FnD.setB]
theorem many_not (h : many.manyF C = false) : C.ls.length ≤ 16 ∧ C.bs.length ≤ 24 ∧ (C.bs.all fun b => decide (b.st.length ≤ 24)) = true := by
  unfold many.manyF at h
  simp only [Bool.or_eq_false_iff, decide_eq_false_iff_not, Bool.not_eq_false'] at h
  exact ⟨by omega, by omega, h.2.2⟩
theorem many_mk (h1 : C.ls.length ≤ 16) (h2 : C.bs.length ≤ 24) (h3 : (C.bs.all fun b => decide (b.st.length ≤ 24)) = true) : many.manyF C = false := by
  unfold many.manyF
  rw [decide_eq_false (by omega), decide_eq_false (by omega), h3]
  rfl
theorem many_setB (h : many.manyF C = false) (hf : ∀ x, C.bs[b]? = some x → (f x).st.length ≤ 24) : many.manyF (C.setB b f) = false := by
  obtain ⟨h1, h2, h3⟩ := many_not h
  exact many_mk h1 (by rw [setB_len]; exact h2) (all_modify h3 fun x hx => decide_eq_true (hf x hx))
theorem chk_8 (h : many.manyF C = false) (h2 : made.madeF C = false) : check.chkF C = 8 := by
  unfold check.chkF
  rw [h, h2]
  rfl
theorem chk_0 (h : many.manyF C = false) (h2 : made.madeF C = true) (h3 : twos.twosF C = true) : check.chkF C = 0 := by
  unfold check.chkF
  rw [h, h2, h3]
  rfl
/-- one block is not right -/
theorem chk_setB_8 {x : BlkD} (h : many.manyF C = false) (hx : C.bs[b]? = some x) (hl : (f x).st.length ≤ 24) (hf : made.okB (f x) = false ∨ made.outB C.ls.length C.bs.length (f x) = false) : check.chkF (C.setB b f) = 8 := by
  refine chk_8 (many_setB h fun y hy => by rw [hx] at hy; cases hy; exact hl) ?_
  unfold made.madeF
  rw [setB_len]
  rcases hf with hf | hf
  · rw [show (C.setB b f).bs = C.bs.modify b f from rfl, all_modify_not hx hf]
    simp
  · rw [show (C.setB b f).bs = C.bs.modify b f from rfl, show (C.setB b f).ls = C.ls from rfl, all_modify_not hx hf]
    simp
theorem chk_setT_8 {t : Nat} {x : List Value} {g : List Value → List Value} (h : many.manyF C = false) (hx : C.ls[t]? = some x) (hg : okTy (g x) = false) : check.chkF (C.setT t g) = 8 := by
  obtain ⟨h1, h2, h3⟩ := many_not h
  refine chk_8 (many_mk (by show (C.ls.modify t g).length ≤ 16; simpa using h1) h2 h3) ?_
  unfold made.madeF head.headF
  rw [show (C.setT t g).ls = C.ls.modify t g from rfl, all_modify_not hx hg]
  simp
end
/-! a statement that prints a number -/
def u8 (n : Int) : Value := .int .u8 n
def i6 (n : Int) : Value := .int .i64 n
def bo (b : Bool) : Value := .bool b
def printS (n : Int) : List Value := [u8 2, i6 0, bo false, u8 0, u8 0, u8 0, u8 0, u8 0, i6 0, i6 0, bo false, u8 0, u8 0, i6 0, i6 0, bo false, u8 0, i6 0, bo false, u8 0, u8 1, i6 n, i6 0, bo false, u8 0, i6 0]
def freshS (l : Int) : List Value := [u8 3, i6 0, bo false, u8 0, u8 0, u8 0, u8 0, u8 0, i6 0, i6 0, bo false, u8 0, u8 0, i6 0, i6 0, bo false, u8 0, i6 0, bo false, u8 0, u8 0, i6 0, i6 0, bo false, u8 0, i6 l]
theorem print_ok (n : Int) : okStE.val (printS n) = true := rfl
theorem print_state (n : Int) : twos.stState (printS n) = 0 := rfl
theorem print_occ (n : Int) (j : Nat) : twos.occS (printS n) j = 0 := by unfold twos.occS; rw [print_state]; rfl
theorem print_pass (n : Int) (j : Nat) : twos.passS (printS n) j = 0 := rfl
theorem print_set (n : Int) (j : Nat) : twos.setS (printS n) j = 0 := rfl
theorem print_is (n : Int) (j : Nat) : twos.isS (printS n) j = false := rfl
theorem print_near (nL n : Int) : nearS nL (printS n) = true := by rw [refC.near_is]; rfl
theorem print_blk (n : Int) (c : twos.Ct) (b : BlkD) : twos.Ct.blk c (b.push (printS n)) = twos.Ct.blk c b := by
  have e : c.stm (b.st ++ [printS n]) = c.stm b.st := by
    unfold twos.Ct.stm
    congr 1
    · funext j; rw [acc_app]; show _ + (_ + (twos.occS (printS n) j + 0)) = _; rw [print_occ]; omega
    · funext j; rw [acc_app]; show _ + (_ + (twos.passS (printS n) j + 0)) = _; rw [print_pass]; omega
    · funext j; rw [acc_app]; show _ + (_ + (twos.setS (printS n) j + 0)) = _; rw [print_set]; omega
    · funext j; rw [List.any_append]; show (_ || (_ || (twos.isS (printS n) j || false))) = _; rw [print_is]; simp
  show (c.stm (b.st ++ [printS n])).jmp (b.push (printS n)) = (c.stm b.st).jmp b
  rw [e]
  rfl
section
variable {C : FnD} {b : Nat} (n : Int)
theorem print_ct : twos.Ct.fn (C.setB b (BlkD.push (printS n))) = twos.Ct.fn C := foldl_modify (fun x c _ => print_blk n c x) _
theorem print_chk (hc : check.chkF C = 0) (hl : ∀ x, C.bs[b]? = some x → x.st.length ≤ 23) : check.chkF (C.setB b (BlkD.push (printS n))) = 0 := by
  obtain ⟨h1, h2, h3⟩ := size.of_chk hc
  refine chk_0 (many_setB h1 fun x hx => by show (x.st ++ [printS n]).length ≤ 24; rw [List.length_append]; have := hl x hx; simp; omega) ?_ ?_
  · unfold made.madeF at h2 ⊢
    simp only [Bool.and_eq_true] at h2 ⊢
    obtain ⟨g1, g2, g3, g4⟩ := h2
    refine ⟨g1, by rw [setB_len]; exact g2, all_modify g3 fun x hx => ?_, ?_⟩
    · have := List.all_eq_true.1 g3 x (List.mem_of_getElem? hx)
      unfold made.okB at this ⊢
      show ((x.st ++ [printS n]).all _ && _) = true
      rw [List.all_append]
      simp only [Bool.and_eq_true] at this ⊢
      exact ⟨⟨this.1, by simp [print_ok]⟩, this.2⟩
    · rw [setB_len]
      refine all_modify g4 fun x hx => ?_
      have := List.all_eq_true.1 g4 x (List.mem_of_getElem? hx)
      unfold made.outB at this ⊢
      show ((x.st ++ [printS n]).all _ && _) = true
      rw [List.all_append]
      simp only [Bool.and_eq_true] at this ⊢
      exact ⟨⟨this.1, by simp [print_near]⟩, this.2⟩
  · unfold twos.twosF at h3 ⊢
    rw [← h3]
    congr 1
    funext t
    unfold twos.goodB
    rw [print_ct]
    rfl
theorem print_size (hb : b < C.bs.length) : size.sizeF (C.setB b (BlkD.push (printS n))) = size.sizeF C + 1 := by
  unfold size.sizeF
  rw [setB_len, show (C.setB b (BlkD.push (printS n))).bs = C.bs.modify b (BlkD.push (printS n)) from rfl, acc_modify _ 1 hb fun x _ => by show ((x.st ++ [printS n]).length : Int) = x.st.length + 1; simp]
  omega
theorem print_called (j : Nat) : callsF.called (C.setB b (BlkD.push (printS n))) j = callsF.called C j := any_modify fun x _ => rfl
theorem print_vec : callsF.vec (C.setB b (BlkD.push (printS n))) = callsF.vec C := by
  unfold callsF.vec
  simp only [print_called]
end
/-! each reason alone -/
theorem ty9 (x : List Value) (h : x.length = 2) : okTy (u8 9 :: x.drop 1) = false := rfl
theorem bad_par {C : FnD} (h : many.manyF C = false) : check.chkF { C with p := C.ls.length } = 8 := by
  refine chk_8 h ?_
  unfold made.madeF head.headF head.guard
  simp
theorem bad_ptr {C : FnD} (h : many.manyF C = false) {x : List Value} (hx : C.ls[0]? = some x) : check.chkF (C.setT 0 fun _ => [u8 4, u8 2]) = 8 := by
  obtain ⟨h1, h2, h3⟩ := many_not h
  refine chk_8 (many_mk (by show (C.ls.modify 0 _).length ≤ 16; simpa using h1) h2 h3) ?_
  have e : (C.setT 0 fun _ => [u8 4, u8 2]).typ 0 = [u8 4, u8 2] := by
    unfold FnD.typ FnD.setT
    rw [List.getD_eq_getElem?_getD, List.getElem?_modify, hx]
    simp
  unfold made.madeF head.headF head.ptr0
  rw [e]
  simp [cellI, codeI, u8]
def gotoPre (n : Int) : List Value := [u8 1, u8 0, i6 0, i6 0, bo false, u8 0, i6 0, i6 n, i6 0]
def post0 : List Value := [i6 0, bo false, u8 0]
theorem bad_goto {C : FnD} {b : Nat} {x : BlkD} (h : many.manyF C = false) (hx : C.bs[b]? = some x) : check.chkF (C.setB b fun y => { y with pre := gotoPre C.bs.length, post := post0, ops := [] }) = 8 := by
  obtain ⟨_, _, h3⟩ := many_not h
  have hl := List.all_eq_true.1 h3 x (List.mem_of_getElem? hx)
  refine chk_setB_8 h hx (by simpa using hl) (.inr ?_)
  have e0 : cellI (gotoPre C.bs.length) 0 = 1 := rfl
  have e7 : cellI (gotoPre C.bs.length) 7 = C.bs.length := rfl
  unfold made.outB made.jumpF
  simp [e0, e7]
theorem bad_jump {C : FnD} {b : Nat} {x : BlkD} (h : many.manyF C = false) (hx : C.bs[b]? = some x) : check.chkF (C.setB b fun y => { y with pre := u8 0 :: y.pre.drop 1 }) = 8 := by
  obtain ⟨_, _, h3⟩ := many_not h
  have hl := List.all_eq_true.1 h3 x (List.mem_of_getElem? hx)
  refine chk_setB_8 h hx (by simpa using hl) (.inl ?_)
  have e : okJF { x with pre := u8 0 :: x.pre.drop 1 } = false := rfl
  unfold made.okB
  rw [e, Bool.and_false]
theorem bad_stm {C : FnD} {b k : Nat} {x : BlkD} {s : List Value} (h : many.manyF C = false) (hx : C.bs[b]? = some x) (hs : x.st[k]? = some s) : check.chkF (C.setB b fun y => { y with st := y.st.modify k fun s => u8 0 :: s.drop 1 }) = 8 := by
  obtain ⟨_, _, h3⟩ := many_not h
  have hl := List.all_eq_true.1 h3 x (List.mem_of_getElem? hx)
  refine chk_setB_8 h hx (by simpa using hl) (.inl ?_)
  unfold made.okB
  show ((x.st.modify k _).all _ && _) = false
  rw [all_modify_not (p := fun st => okStE.val st) hs rfl]
  rfl
theorem bad_fresh {C : FnD} {b : Nat} {x : BlkD} (h : many.manyF C = false) (hx : C.bs[b]? = some x) (hl : x.st.length ≤ 23) : check.chkF (C.setB b (BlkD.push (freshS C.ls.length))) = 8 := by
  refine chk_setB_8 h hx (by show (x.st ++ [_]).length ≤ 24; simp; omega) (.inr ?_)
  have e0 : cellI (freshS C.ls.length) 0 = 3 := rfl
  have e25 : cellI (freshS C.ls.length) 25 = C.ls.length := rfl
  have e : nearS C.ls.length (freshS C.ls.length) = false := by
    rw [refC.near_is, e0, e25]
    simp
  unfold made.outB
  show ((x.st ++ [freshS C.ls.length]).all _ && _) = false
  rw [List.all_append]
  simp [e]
end Go.Proofs.Ytbebbbclhgjcbaa.Am
