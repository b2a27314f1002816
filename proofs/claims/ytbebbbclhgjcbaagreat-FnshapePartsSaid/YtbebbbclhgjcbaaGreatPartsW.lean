/- FnshapeParts: what statements and jumps of a function that is right use are its locals; how many points, which is the last used. (Plain: no run.) FnshapeParts: its loops, and its two pieces, for every function. FnshapeParts: the law answers true for every function. -/
import Derived.Test.YtbebbbclhgjcbaaGreatFn30
import Derived.Test.YtbebbbclhgjcbaaGreatStU
import Derived.Test.YtbebbbclhgjcbaaGreatJump4A
import Derived.Test.YtbebbbclhgjcbaaGreatFn33
import Derived.Test.YtbebbbclhgjcbaaGreatFn34
/-! FnshapeParts: what statements and jumps of a function that is right use are its locals; how many points, which is the last used. (Plain: no run.) -/
namespace Go.Proofs.YtbebbbclhgjcbaaGreat.parts
open Go.RowKit Go.Proofs.YtbebbbclhgjcbaaGreat.Am
set_option maxRecDepth 100000
set_option linter.unusedVariables false
set_option linter.unusedSectionVars false
def useS (st : List Value) : List Int := stU (stOf st)
def useJ (b : BlkD) : List Int := incT (usesJ b.pre b.ops b.post)
/-- the greater one of a number and a list's last -/
def mx (a : Int) (l : List Int) : Int := match l.getLast? with | none => a | some x => max a x
def lastS (a : Int) (l : List (List Value)) : Int := l.foldl (fun a st => mx a (useS st)) a
def lastB (a : Int) (b : BlkD) : Int := mx (lastS a b.st) (useJ b)
def lastK (D : FnD) (i : Nat) : Int := (D.bs.take i).foldl lastB 0
def numK (D : FnD) (i : Nat) : Int := acc (fun b : BlkD => (b.st.length : Int) + 1) (D.bs.take i)
theorem fold_take {α β : Type} (g : β → α → β) (a : β) (l : List α) (d : α) {k : Nat} (hk : k < l.length) : (l.take (k + 1)).foldl g a = g ((l.take k).foldl g a) (l.getD k d) := by
  rw [List.take_succ_eq_append_getElem hk, List.foldl_append, List.getD_eq_getElem?_getD, List.getElem?_eq_getElem hk]
  rfl
/-! statements -/
theorem opU_two {o : Opd} {x : Int} (h : x ∈ opU o) : o.k ≠ 1 ∧ x = o.l := by
  unfold opU at h
  split at h
  · cases h
  · rename_i hk
    exact ⟨hk, by simpa using h⟩
theorem useS_cell {st : List Value} (hk : All2 Kd.ok kS26 st) (hv : okStE.val st = true) {nL : Int} (hn : nearS nL st = true) {x : Int} (hx : x ∈ useS st) : ∃ c, c ∈ [25, 1, 9, 14, 17, 22] ∧ x = cellI st c ∧ x < nL := by
  rw [refC.near_is] at hn
  simp only [Bool.and_eq_true, Bool.or_eq_true, Bool.not_eq_true', decide_eq_true_eq, decide_eq_false_iff_not, Bool.not_not, Bool.or_eq_false_iff] at hn
  obtain ⟨_, n2, n3⟩ := hn
  have kd := refC.st_kind hk hv
  unfold useS stU at hx
  split at hx
  · rename_i h1
    have h1 : cellI st 0 = 1 := h1
    obtain ⟨k1, k2⟩ := kd h1
    obtain ⟨m1, m2, m3, m4⟩ : cellI st 1 < nL ∧ ((cellI st 4 ≠ 4 ∧ cellI st 4 ≠ 5) ∨ cellI st 17 < nL) ∧ ((cellI st 4 = 4 ∨ cellI st 4 = 5) ∨ (cellI st 7 = 1 ∨ cellI st 9 < nL)) ∧ ((cellI st 4 ≠ 2 ∧ cellI st 4 ≠ 3) ∨ (cellI st 12 = 1 ∨ cellI st 14 < nL)) := by
      rcases n3 with e | e
      · exact absurd h1 e
      · exact e
    have hr : ∀ y, y ∈ rvU (stOf st).r → ∃ c, c ∈ [25, 1, 9, 14, 17, 22] ∧ y = cellI st c ∧ y < nL := fun y hy => by
      unfold rvU at hy
      have ek : (stOf st).r.k = cellI st 4 := rfl
      have ea : (stOf st).r.a = opdAt st 7 := rfl
      have eb : (stOf st).r.b = opdAt st 12 := rfl
      have a9 : ∀ z, z ∈ opU (opdAt st 7) → cellI st 7 ≠ 1 ∧ z = cellI st 9 := fun z hz => opU_two hz
      have a14 : ∀ z, z ∈ opU (opdAt st 12) → cellI st 12 ≠ 1 ∧ z = cellI st 14 := fun z hz => opU_two hz
      split at hy
      · rename_i e
        rw [ek] at e
        obtain ⟨p, q⟩ := a9 y hy
        exact ⟨9, by decide, q, by omega⟩
      · split at hy
        · rename_i _ e
          rw [ek] at e
          rw [srtU_mem, List.mem_append] at hy
          rcases hy with hy | hy
          · obtain ⟨p, q⟩ := a9 y hy
            exact ⟨9, by decide, q, by omega⟩
          · obtain ⟨p, q⟩ := a14 y hy
            exact ⟨14, by decide, q, by omega⟩
        · rename_i e1 e2
          rw [ek] at e1 e2
          have hy : y = (stOf st).r.l := by simpa using hy
          have hy : y = cellI st 17 := hy
          exact ⟨17, by decide, hy, by omega⟩
    split at hx
    · rcases insU_mem.1 hx with e | e
      · have e : x = cellI st 1 := e
        exact ⟨1, by decide, e, by omega⟩
      · exact hr x e
    · exact hr x hx
  · split at hx
    · cases hx
    · rename_i h1 h3
      have h1 : ¬cellI st 0 = 1 := h1
      have h3 : ¬cellI st 0 = 3 := h3
      have e : cellI st 20 ≠ 1 ∧ x = cellI st 22 := opU_two hx
      have hk4 : cellI st 0 = 2 ∨ cellI st 0 = 4 := by
        rcases st_shape hv with ⟨q, _⟩ | ⟨q, _⟩ | ⟨q, _⟩
        · exact absurd q h1
        · exact q
        · exact absurd q h3
      refine ⟨22, by decide, e.2, ?_⟩
      rcases n2 with q | q | q
      · omega
      · exact absurd q e.1
      · omega
theorem useS_in {st : List Value} (hk : All2 Kd.ok kS26 st) (hv : okStE.val st = true) {nL : Int} (hn : nearS nL st = true) {x : Int} (hx : x ∈ useS st) : 0 ≤ x ∧ x ≤ 15 ∧ x < nL := by
  obtain ⟨c, hc, e, hl⟩ := useS_cell hk hv hn hx
  have := st_range hk hv hc
  rw [← e] at this
  exact ⟨this.1, this.2, hl⟩
theorem useS_len (st : List Value) : (useS st).length ≤ 3 := by
  unfold useS stU
  have h2 := rvU_len (stOf st).r
  split
  · split
    · have := insU_len (stOf st).l (rvU (stOf st).r)
      omega
    · omega
  · split
    · exact Nat.zero_le _
    · have := opU_len (stOf st).a
      omega
/-! jumps -/
theorem useJ_in {w : World} {v : Value} {D : FnD} (h : FnOk' w v D) {i : Nat} (hi : i < D.bs.length) (hok : okJF (D.blk i) = true) (h0 : 0 < D.ls.length) (hj : made.jumpF D.ls.length D.bs.length (D.blk i) = true) {x : Int} (hx : x ∈ useJ (D.blk i)) : 0 ≤ x ∧ x ≤ 15 ∧ x < D.ls.length := by
  obtain ⟨hm, h1, h2⟩ := incT_mem.1 hx
  refine ⟨h1, h2, ?_⟩
  have ji := jump_is h hi
  unfold made.jumpF at hj
  simp only [Bool.and_eq_true, Bool.or_eq_true, Bool.not_eq_true', decide_eq_true_eq, decide_eq_false_iff_not] at hj
  obtain ⟨j1, j2, _⟩ := hj
  unfold usesJ at hm
  rcases List.mem_append.1 hm with hm | hm
  · split at hm
    · have : x = 0 := by simpa using hm
      omega
    · cases hm
  · rcases isJ ji hok with ⟨k, a, n, e, l, d⟩ | ⟨k, a, f, n, e, l, d⟩ | ⟨k, a, l, d⟩ | ⟨k, a, f, n, e, l, d, o⟩
    all_goals rcases List.mem_append.1 hm with hm | hm
    · have d1 := d 1 (by decide)
      have d2 := d 2 (by decide)
      rw [if_neg (by unfold partJ; omega)] at hm
      cases hm
    · unfold partsJ at hm
      rw [if_neg (by omega), l] at hm
      cases hm
    · have d1 := d 1 (by decide)
      have d2 := d 2 (by decide)
      rw [if_neg (by unfold partJ; omega)] at hm
      cases hm
    · unfold partsJ at hm
      rw [if_pos k] at hm
      have hc : cellI ((D.blk i).pre.drop 1 |>.take 5) 0 = cellI (D.blk i).pre 1 ∧ cellI ((D.blk i).pre.drop 1 |>.take 5) 2 = cellI (D.blk i).pre 3 := ⟨cellI_sub (by decide), cellI_sub (by decide)⟩
      have hm : x ∈ (bif selU (cellI ((D.blk i).pre.drop 1 |>.take 5) 0) then [cellI ((D.blk i).pre.drop 1 |>.take 5) 2] else []) := by simpa [toldL] using hm
      rw [hc.1, hc.2] at hm
      cases hs : selU (cellI (D.blk i).pre 1) with
      | false => rw [hs] at hm; cases hm
      | true =>
        rw [hs] at hm
        have e : x = cellI (D.blk i).pre 3 := by simpa using hm
        have hs : ¬cellI (D.blk i).pre 1 = 1 := by simpa [selU] using hs
        rcases j1 with q | q | q
        · exact absurd k q
        · exact absurd q hs
        · omega
    · have d1 := d 1 (by decide)
      have d2 := d 2 (by decide)
      rw [if_neg (by unfold partJ; omega)] at hm
      cases hm
    · unfold partsJ at hm
      rw [if_neg (by omega), l] at hm
      cases hm
    · split at hm
      · have e : x = cellI (D.blk i).post 0 := by simpa using hm
        rcases j2 with q | q
        · exact absurd k q
        · omega
      · cases hm
    · unfold partsJ at hm
      rw [if_neg (by omega)] at hm
      obtain ⟨op, hop, hm⟩ := List.mem_flatMap.1 hm
      rcases j2 with q | ⟨_, q⟩
      · exact absurd k q
      · have := List.all_eq_true.1 q op hop
        unfold opNear at this
        cases hs : selU (cellI op 0) with
        | false => rw [hs] at hm; cases hm
        | true =>
          rw [hs] at hm
          have e : x = cellI op 2 := by simpa using hm
          have hs : ¬cellI op 0 = 1 := by simpa [selU] using hs
          simp only [Bool.or_eq_true, decide_eq_true_eq] at this
          rcases this with q | q
          · exact absurd q hs
          · omega
theorem useJ_len (b : BlkD) : (useJ b).length ≤ 16 := incT_len _
/-! the last one -/
def InL (n : Int) (x : Int) : Prop := 0 ≤ x ∧ x ≤ 15 ∧ x < n
theorem mx_in {n a : Int} {l : List Int} (ha : InL n a) (hl : ∀ x ∈ l, InL n x) : InL n (mx a l) := by
  unfold mx
  split
  · exact ha
  · rename_i x e
    have := hl x (List.mem_of_getLast? e)
    obtain ⟨a1, a2, a3⟩ := ha
    obtain ⟨b1, b2, b3⟩ := this
    exact ⟨by omega, by omega, by omega⟩
theorem lastS_in {n : Int} : ∀ {l : List (List Value)} {a : Int}, InL n a → (∀ st ∈ l, ∀ x ∈ useS st, InL n x) → InL n (lastS a l)
  | [], _, ha, _ => ha
  | st :: l, a, ha, h => lastS_in (l := l) (a := mx a (useS st)) (mx_in ha (h st (List.mem_cons_self ..))) fun s hs => h s (List.mem_cons_of_mem _ hs)
theorem lastB_in {n a : Int} {b : BlkD} (ha : InL n a) (h1 : ∀ st ∈ b.st, ∀ x ∈ useS st, InL n x) (h2 : ∀ x ∈ useJ b, InL n x) : InL n (lastB a b) := mx_in (lastS_in ha h1) h2
theorem fold_in {n : Int} : ∀ {l : List BlkD} {a : Int}, InL n a → (∀ b ∈ l, (∀ st ∈ b.st, ∀ x ∈ useS st, InL n x) ∧ ∀ x ∈ useJ b, InL n x) → InL n (l.foldl lastB a)
  | [], _, ha, _ => ha
  | b :: l, a, ha, h => fold_in (l := l) (lastB_in ha (h b (List.mem_cons_self ..)).1 (h b (List.mem_cons_self ..)).2) fun s hs => h s (List.mem_cons_of_mem _ hs)
/-- what is known of a function that is right -/
structure Right (D : FnD) : Prop where
  sm : twos.Sm D
  l0 : 0 < D.ls.length
  okS : ∀ b ∈ D.bs, ∀ st ∈ b.st, okStE.val st = true
  okJ : ∀ b ∈ D.bs, okJF b = true
  nS : ∀ b ∈ D.bs, ∀ st ∈ b.st, nearS D.ls.length st = true
  nJ : ∀ b ∈ D.bs, made.jumpF D.ls.length D.bs.length b = true
section
variable {w : World} {v : Value} {D : FnD} (h : FnOk' w v D)
include h
theorem right_of (hc : check.chkF D = 0) : Right D := by
  obtain ⟨h1, h2, _⟩ := size.of_chk hc
  have ok := check.okB_of h2
  have hm := h2
  unfold made.madeF at hm
  simp only [Bool.and_eq_true] at hm
  obtain ⟨hh, _, _, ho⟩ := hm
  have ho := fun b hb => List.all_eq_true.1 ho b hb
  unfold head.headF at hh
  refine ⟨size.sm h hc, ?_, fun b hb st hst => ?_, fun b hb => ?_, fun b hb st hst => ?_, fun b hb => ?_⟩
  · apply Decidable.byContradiction
    intro hn
    have : D.ls.length = 0 := by omega
    have hg : head.guard D = false := by unfold head.guard; rw [this]; rfl
    rw [hg] at hh
    cases hh
  · have := ok b hb
    unfold made.okB at this
    rw [Bool.and_eq_true] at this
    exact List.all_eq_true.1 this.1 st hst
  · have := ok b hb
    unfold made.okB at this
    rw [Bool.and_eq_true] at this
    exact this.2
  · have := ho b hb
    unfold made.outB at this
    rw [Bool.and_eq_true] at this
    exact List.all_eq_true.1 this.1 st hst
  · have := ho b hb
    unfold made.outB at this
    rw [Bool.and_eq_true] at this
    exact this.2
variable (hr : Right D)
include hr
theorem st_of {i k : Nat} (hi : i < D.bs.length) (hk : k < (D.blk i).st.length) : D.stm i k ∈ (D.blk i).st := List.mem_of_getElem? (stm_is h hi hk).2
theorem inS {b : BlkD} (hb : b ∈ D.bs) : ∀ st ∈ b.st, ∀ x ∈ useS st, InL D.ls.length x := fun st hst x hx => useS_in ((h.blk b hb).skd st hst) (hr.okS b hb st hst) (hr.nS b hb st hst) hx
theorem inJ {b : BlkD} (hb : b ∈ D.bs) : ∀ x ∈ useJ b, InL D.ls.length x := fun x hx => by
  obtain ⟨i, hi⟩ := List.getElem?_of_mem hb
  have hl := (List.getElem?_eq_some_iff.1 hi).1
  have e : D.blk i = b := by unfold FnD.blk; rw [List.getD_eq_getElem?_getD, hi]; rfl
  rw [← e] at hb hx
  exact useJ_in h hl (hr.okJ _ hb) hr.l0 (hr.nJ _ hb) hx
theorem in0 : InL D.ls.length 0 := ⟨by decide, by decide, by have := hr.l0; omega⟩
theorem inK (i : Nat) : InL D.ls.length (lastK D i) := fold_in (in0 h hr) fun b hb => ⟨inS h hr (List.mem_of_mem_take hb), inJ h hr (List.mem_of_mem_take hb)⟩
theorem inKS {i : Nat} (hi : i < D.bs.length) (k : Nat) : InL D.ls.length (lastS (lastK D i) ((D.blk i).st.take k)) := lastS_in (inK h hr i) fun st hst => inS h hr (twos.blk_mem hi) st (List.mem_of_mem_take hst)
theorem num_b (i : Nat) : 0 ≤ numK D i ∧ numK D i ≤ 600 := by
  have := acc_le (fun b : BlkD => (b.st.length : Int) + 1) 25 (D.bs.take i) fun b hb => by
    have := (hr.sm.s b (List.mem_of_mem_take hb)).1
    show 0 ≤ (b.st.length : Int) + 1 ∧ (b.st.length : Int) + 1 ≤ _
    omega
  have hl : (D.bs.take i).length ≤ 24 := by rw [List.length_take]; have := hr.sm.b; omega
  unfold numK
  omega
theorem num_all : numK D D.bs.length = size.sizeF D := by
  unfold numK size.sizeF
  rw [List.take_length]
  have key : ∀ l : List BlkD, acc (fun b : BlkD => (b.st.length : Int) + 1) l = l.length + acc (fun b : BlkD => (b.st.length : Int)) l := fun l => by
    induction l with
    | nil => rfl
    | cons b l ih =>
      rw [acc, acc, ih, List.length_cons]
      omega
  exact key _
end
/-- cases of a list's last number beside another -/
inductive Mx (a : Int) (l : List Int) : Prop where
  | nil (e : l = []) (m : mx a l = a)
  | more (n : Nat) (x : Int) (hl : l.length = n + 1) (hx : l[n]? = some x) (lt : a < x) (m : mx a l = x)
  | same (n : Nat) (hl : l.length = n + 1) (hx : l[n]? = some a) (m : mx a l = a)
  | less (n : Nat) (x : Int) (hl : l.length = n + 1) (hx : l[n]? = some x) (lt : x < a) (m : mx a l = a)
theorem mx_cases (a : Int) (l : List Int) : Mx a l := by
  cases hl : l.length with
  | zero =>
    have e : l = [] := List.eq_nil_of_length_eq_zero hl
    exact .nil e (by rw [e]; rfl)
  | succ n =>
    obtain ⟨x, hx⟩ : ∃ x, l[n]? = some x := ⟨_, List.getElem?_eq_getElem (by omega)⟩
    have hg : l.getLast? = some x := by rw [List.getLast?_eq_getElem?, hl]; exact hx
    have hm : mx a l = max a x := by unfold mx; rw [hg]
    rcases Int.lt_trichotomy a x with h | h | h
    · exact .more n x hl hx h (by rw [hm]; omega)
    · subst h
      exact .same n hl hx (by rw [hm]; omega)
    · exact .less n x hl hx h (by rw [hm]; omega)
end Go.Proofs.YtbebbbclhgjcbaaGreat.parts
/-! FnshapeParts: its loops, and its two pieces, for every function. -/
namespace Go.Proofs.YtbebbbclhgjcbaaGreat.Am
open Go.RowKit
set_option maxRecDepth 100000
set_option linter.unusedVariables false
set_option linter.unusedSectionVars false
theorem lit_is {b1 b2 : Base} {y : Nat} {n : Int} (e : b2.rho y = n) : UpdOk b1 b2 (isU (.xi .i64 y) (.int .i64 n)) := by
  intro r v hv
  have hv : v = .int .i64 n := hv
  show v = .int .i64 (b2.rho y)
  rw [hv, e]
theorem holds_less {L : Lf} {rho : Nat → Int} {sig : Nat → List UInt8} (h : L.Holds rho sig) {i j : Nat} (e : rho i < rho j) : (L.less i j).Holds rho sig :=
  ⟨h.iv, h.ne, fun a b m => by
    rcases List.mem_cons.1 m with e' | m
    · cases e'; exact e
    · exact h.lt a b m, h.to, h.st, h.sn, h.cf⟩
/-- a piece up to a cut, by the machine -/
theorem ends_cutR {P : Program} {R : Rig} {b : Base} (hR : RigOk P R b) {f : FuncId} {fn : Func} {c c2 : Code} {t : Nat} (hrest : restC t c = some c2) {L : Lf} {fx : Fx} (hL : L.Holds b.rho b.sig) (hf : FxOk fx b.rho)
    (hlp : ∀ K (ok : KnowOk K b.rho b.sig), Loops.ok (@LoopOk (b.withK K ok) P (R.loops K f)) c) {st s1 : St} {r : Ren} {B : Nat} {a : Act} {w : World} (hr : @Rel b st r B a w) (hcut : cutR R f fx t c st L = some s1) (hown : noOwn st.h = true) {Q : Ending → World → Prop}
    (k : ∀ r1 a1 w1, @Rel (b.withK (L.knowX fx) (Lf.okX hL hf)) s1 r1 B a1 w1 → Below w.heap.size w w1 → a1.defers = a.defers → Am.Ends P fn Q c2 a1 w1) : Am.Ends P fn Q c a w := by
  let bL : Base := b.withK (L.knowX fx) (Lf.okX hL hf)
  exact @ends_cut bL P (R.ctx (L.knowX fx) f) 0 R.n t (hR.ty _ _) ⟨hR.sound _ _, tabs_withK hR.tb _⟩ hR.mixed fn Q c2 s1 c (hlp _ _) hrest _ _ _ _ _ (Rel.withK b _ hr) hcut fun r1 a1 w1 h1 h2 h3 => k r1 a1 w1 h1 (@Adv.below bL _ _ _ _ _ _ _ hown h2) h3
/-- a piece that answers true, by the machine -/
theorem ends_endT {P : Program} {R : Rig} {b : Base} (hR : RigOk P R b) {f : FuncId} {fn : Func} {c : Code} {L : Lf} {fx : Fx} (hL : L.Holds b.rho b.sig) (hf : FxOk fx b.rho)
    (hlp : ∀ K (ok : KnowOk K b.rho b.sig), Loops.ok (@LoopOk (b.withK K ok) P (R.loops K f)) c) {st : St} {r : Ren} {B : Nat} {a : Act} {w : World} (hr : @Rel b st r B a w) (ha : a.defers = []) (hown : noOwn st.h = true) (hrun : endT R f fn fx c st L = true) {w0 : World} (hbel : Below w0.heap.size w0 w) :
    Am.Ends P fn (fun e w' => e = .returned (.bool true) ∧ Below w0.heap.size w0 w') c a w := by
  let bL : Base := b.withK (L.knowX fx) (Lf.okX hL hf)
  unfold endT at hrun
  cases hx : @exec (L.knowX fx) (R.ctx (L.knowX fx) f) 0 R.n c st with
  | none => rw [hx] at hrun; cases hrun
  | some p =>
    obtain ⟨y, s'⟩ := p
    rw [hx] at hrun
    have hrun : (retB y && trueB (mapO (resOf (R.ctx (L.knowX fx) f) s') fn.results.toList)) = true := hrun
    rw [Bool.and_eq_true] at hrun
    obtain ⟨h1, h2⟩ := hrun
    have hxr : y = .ret := by cases y <;> first | rfl | cases h1
    subst hxr
    unfold trueB at h2
    split at h2
    · rename_i hm
      refine @ends_last bL P (R.ctx (L.knowX fx) f) 0 R.n (hR.ty _ _) ⟨hR.sound _ _, tabs_withK hR.tb _⟩ hR.mixed fn _ c (hlp _ _) _ _ _ _ _ _ (Rel.withK b _ hr) ha hx _ hm fun r' w' vs hvs hi adv => ?_
      match vs, hvs with
      | [u], ⟨hu, _⟩ =>
        have hu : u = .bool true := hu
        subst hu
        have hb := @Adv.below bL _ _ _ _ _ _ _ hown adv
        exact ⟨rfl, Below.trans hbel (hb.mono hbel.size)⟩
    · cases h2
/-- a function begins -/
theorem start_rel {w : World} {v : Value} {D : FnD} (h : FnOk' w v D) (q : At) (m : List Int) (n : Nat) : @Rel (fnB w D q m) ⟨[V.a (.g fnCells)] ++ List.replicate n Am.undef, ⟨[], 0⟩⟩ r0 w.heap.size { tmps := #[v] ++ Array.replicate n Go.undef, defers := [] } w := by
  letI : Base := fnB w D q m
  have hfr : All2 (VV r0) ([V.a (.g fnCells)] ++ List.replicate n Am.undef) (#[v] ++ Array.replicate n Go.undef).toList := by
    rw [Array.toList_append, Array.toList_replicate]
    exact All2.app ⟨fn_val h q m r0, trivial⟩ (replicate_all2 VS.undef n)
  have hi : Inv ⟨[], 0⟩ r0 w.heap.size w := ⟨fun l h => h.elim, Nat.le_refl _, fun l b h => (by cases h), fun l b h => (by cases h), fun l b h => (by cases h), fun l b l' b' h => (by cases h), Nat.le_refl _, fun _ _ => rfl⟩
  exact ⟨hfr, hi⟩
end Go.Proofs.YtbebbbclhgjcbaaGreat.Am
namespace Go.Proofs.YtbebbbclhgjcbaaGreat.parts
open Go.RowKit Go.Proofs.YtbebbbclhgjcbaaGreat.Am
set_option maxRecDepth 100000
set_option linter.unusedVariables false
set_option linter.unusedSectionVars false
/-- a slot with a list of numbers -/
theorem slot_list {b : Base} {s : St} {r : Ren} {B : Nat} {a : Act} {w1 : World} (hr : @Rel b s r B a w1) {i o : Nat} {l : List Int} (h : slotN s i o l.length = true) (hrho : ∀ j m, l[j]? = some m → b.rho (o + j) = m) (hl : l.length ≤ 1000) :
    ∃ u, a.tmps.toList[i]? = some u ∧ ListAt w1 u 1 (l.map fun n => [Value.int .i64 n]) := by
  have P := @Rel.parts b _ _ _ _ _ hr
  have hI : @Inv b s.h r B w1 := @Rel.i b _ _ _ _ _ hr
  unfold slotN at h
  split at h
  · rename_i e
    obtain ⟨u, hu, hv⟩ := All2.nth P.f e
    have hv : u = .slice none 0 0 := hv
    have : l = [] := List.eq_nil_of_length_eq_zero (Nat.eq_of_beq_eq_true h)
    subst this
    exact ⟨u, hu, ⟨none, 0, hv⟩, by decide, fun i el h => by simp at h, fun i el h => by simp at h, fun h => absurd rfl h⟩
  · rename_i q k e
    rw [Bool.and_eq_true] at h
    obtain ⟨h1, h2⟩ := h
    obtain rfl := Nat.eq_of_beq_eq_true h1
    obtain ⟨u, hu, hv⟩ := All2.nth P.f e
    obtain ⟨g1, ⟨_, g3⟩, g4, g5⟩ := hv
    cases hb : s.h.get q with
    | none => rw [hb] at h2; cases h2
    | some bk =>
      rw [hb] at h2
      have h2 : sameL S.eqb (numsX o l.length) (bk.cells.take l.length) = true := h2
      have hc := sameB (fun _ _ => S.eqb_ok) h2
      have at_ : ∀ j m, l[j]? = some m → w1.cell? (r.at q j) = some (.int .i64 m) := fun j m hm => by
        have hj := (List.getElem?_eq_some_iff.1 hm).1
        have hx : nth bk.cells j = some (.xi .i64 (o + j)) := by
          have e1 : (bk.cells.take l.length)[j]? = some (.xi .i64 (o + j)) := by
            rw [← hc]
            unfold numsX
            rw [List.getElem?_map, List.getElem?_range hj]
            rfl
          rw [List.getElem?_take, if_pos hj] at e1
          rw [nth_eq]
          exact e1
        obtain ⟨u', hu', hv'⟩ := @HR.cell b _ _ _ _ hI.hr q bk hb j _ hx
        have hv' : u' = .int .i64 (b.rho (o + j)) := hv'
        rw [hu', hv', hrho j m hm]
      refine ⟨u, hu, ⟨_, _, by rw [g5, List.length_map]⟩, by rw [List.length_map]; omega, fun j el he => ?_, fun j el he => ?_, fun _ A m c e => ?_⟩
      · rw [List.getElem?_map] at he
        cases hn : l[j]? with
        | none => rw [hn] at he; cases he
        | some m =>
          rw [hn] at he
          cases he
          refine ⟨r.blk q, r.off q, _, by rw [g5, List.length_map]; rfl, fun f u hf => ?_⟩
          match f, hf with
          | 0, hf =>
            cases hf
            rw [Nat.mul_one]
            exact at_ j m hn
      · rw [List.getElem?_map] at he
        cases hn : l[j]? with
        | none => rw [hn] at he; cases he
        | some m => rw [hn] at he; cases he; rfl
      · rw [g5] at e
        cases e
        exact ⟨g4, g3⟩
  · cases h
/-! numbers -/
def mkS (D : FnD) (i k : Nat) (z : Int) (U : List Int) : List Int := rows16 [fun j => b2i (callsF.calledK D i j)] ++ ([numK D i + k, numK D i + k + 1, lastS (lastK D i) ((D.blk i).st.take k), 0, 0, z] ++ U)
def mkO (D : FnD) (i : Nat) (z : Int) (U : List Int) : List Int := rows16 [fun j => b2i (callsF.calledK D i j)] ++ ([numK D i, numK D (i + 1), lastK D i, numK D i + (D.blk i).st.length, lastS (lastK D i) (D.blk i).st, z] ++ U)
def mkF (D : FnD) (z m : Int) (U : List Int) : List Int := rows16 [fun j => b2i (callsF.called D j)] ++ ([z, m, lastK D D.bs.length, 0, ltI' (lastK D D.bs.length) D.ls.length, z] ++ U)
def qS (i k : Nat) : At := ⟨i, k, 0, 0⟩
theorem bit_at {D : FnD} {q : At} {g : Nat → Int} {six : List Int} {j : Nat} (hj : j < 16) : xsAt (fnXs D q (rows16 [g] ++ six)) (nm 0 j) = g j := fn_row (fs := [g]) (tail := six) (b := 0) (f := g) rfl hj
theorem six_at {D : FnD} {q : At} {g : Nat → Int} {six : List Int} (n : Nat) : xsAt (fnXs D q (rows16 [g] ++ six)) (93 + n) = xsAt six n := by
  have := fn_tail (D := D) (q := q) (fs := [g]) (tail := six) (n := 1) rfl n
  rw [← this]
  congr 1
  omega
theorem use_at {D : FnD} {q : At} {g : Nat → Int} {a b c d e z : Int} {U : List Int} {j : Nat} {m : Int} (h : U[j]? = some m) : xsAt (fnXs D q (rows16 [g] ++ ([a, b, c, d, e, z] ++ U))) (99 + j) = m := by
  rw [show 99 + j = 93 + (6 + j) by omega, six_at, xsAt_ge (n := 6) rfl]
  unfold xsAt
  rw [List.getD_eq_getElem?_getD, h]
  rfl
theorem rS (w : World) (D : FnD) (i k : Nat) (z : Int) (U : List Int) (n : Nat) : (fnB w D (qS i k) (mkS D i k z U)).rho (93 + n) = xsAt ([numK D i + k, numK D i + k + 1, lastS (lastK D i) ((D.blk i).st.take k), 0, 0, z] ++ U) n := six_at n
theorem rO (w : World) (D : FnD) (i : Nat) (z : Int) (U : List Int) (n : Nat) : (fnB w D (atB i) (mkO D i z U)).rho (93 + n) = xsAt ([numK D i, numK D (i + 1), lastK D i, numK D i + (D.blk i).st.length, lastS (lastK D i) (D.blk i).st, z] ++ U) n := six_at n
theorem rF (w : World) (D : FnD) (z m : Int) (U : List Int) (n : Nat) : (fnB w D (atB 0) (mkF D z m U)).rho (93 + n) = xsAt ([z, m, lastK D D.bs.length, 0, ltI' (lastK D D.bs.length) D.ls.length, z] ++ U) n := six_at n
theorem in64 {x : Int} (h1 : -1000000 ≤ x) (h2 : x ≤ 1000000) : InI twos.iv64 x := ⟨by show (-9223372036854775808 : Int) ≤ _; omega, by show _ ≤ (9223372036854775807 : Int); omega⟩
section
variable {w : World} {v : Value} {D : FnD} (h : FnOk' w v D)
include h
theorem start6 {q : At} (hq : Fits D q) {g : Nat → Int} {six U : List Int} (hg : ∀ j, InI ivB (g j)) (h6 : All2 InI (List.replicate 6 twos.iv64) six) : (Lf.of (fnIv ++ (List.replicate 16 ivB ++ List.replicate 6 twos.iv64))).Holds (xsAt (fnXs D q (rows16 [g] ++ (six ++ U)))) (fun _ => []) := by
  have := fn_start h hq (iv := List.replicate 16 ivB ++ List.replicate 6 twos.iv64) (m1 := rows16 [g] ++ six) (m2 := U) (all2_cat (all2_cat (a := List.replicate 16 ivB) (c := []) (twos.in_row16 hg) trivial) h6) (fun _ => [])
  rwa [List.append_assoc] at this
variable (hr : Right D)
include hr
/-! what a call answers -/
theorem lib_S {q : At} {m : List Int} (hi : q.i < D.bs.length) (hk : q.k < (D.blk q.i).st.length) {res : List S} (hres : ∀ r, All2 (@VS (fnB w D q m) r) res (intsV (useS (D.stm q.i q.k)))) (K : Know) (ok : KnowOk K (fnB w D q m).rho (fnB w D q m).sig) : @Sound ((fnB w D q m).withK K ok) Tryz.prog (libS res K) := by
  have hb := twos.blk_mem hi
  have hv := hr.okS _ hb _ (st_of h hr hi hk)
  have hc := stm_cells h hi hk m
  refine @sound_orcs ((fnB w D q m).withK K ok) _ _ fun O hO => ?_
  simp only [List.mem_cons, List.not_mem_nil, or_false] at hO
  rcases hO with rfl | rfl
  · refine @sound_rowGL ((fnB w D q m).withK K ok) _ 9 ⟨_, Tryz.func9, by kernel_rfl, by kernel_rfl⟩ _ _ _ (by rfl) [.agg (D.stm q.i q.k).toArray] ⟨⟨_, rfl, ?_⟩, trivial⟩ hres fun w' _ => tusA_lists _ (stm_is h hi hk).1 hv w' ⟨Nat.le_refl _⟩
    refine all2_by_nth hc.len fun i x u hx hu => ?_
    obtain ⟨u', hu', e⟩ := All2.nth hc (n := i) (x := x) (by rw [nth_eq]; exact hx)
    rw [hu] at hu'
    cases hu'
    exact e r0
  · exact row_stm h ⟨_, Tryz.func26, by kernel_rfl, by kernel_rfl⟩ stA_tests vm8 hi hk hv m K ok
theorem lib_O {q : At} {m : List Int} (hi : q.i < D.bs.length) {res : List S} (hres : ∀ r, All2 (@VS (fnB w D q m) r) res (intsJ (useJ (D.blk q.i)))) (K : Know) (ok : KnowOk K (fnB w D q m).rho (fnB w D q m).sig) : @Sound ((fnB w D q m).withK K ok) Tryz.prog (libO res K) := by
  have hb := twos.blk_mem hi
  have hv := hr.okJ _ hb
  have hc := jmp_cells h hi q rfl m
  refine @sound_orcs ((fnB w D q m).withK K ok) _ _ fun O hO => ?_
  simp only [List.mem_cons, List.not_mem_nil, or_false] at hO
  rcases hO with rfl | rfl
  · refine @sound_rowGL ((fnB w D q m).withK K ok) _ 12 ⟨_, Tryz.func12, by kernel_rfl, by kernel_rfl⟩ _ _ _ (by rfl) [.agg ((D.blk q.i).pre ++ (D.blk q.i).a :: (D.blk q.i).post).toArray] ⟨⟨_, rfl, ?_⟩, trivial⟩ hres fun w' hw => jUsesA w' _ _ _ _ _ (jump_is (h.frz hw) hi) hv
    refine all2_by_nth hc.len fun i x u hx hu => ?_
    obtain ⟨u', hu', e⟩ := All2.nth hc (n := i) (x := x) (by rw [nth_eq]; exact hx)
    rw [hu] at hu'
    cases hu'
    exact e r0
  · exact row_jmp h ⟨_, Tryz.func32, by kernel_rfl, by kernel_rfl⟩ jA_tests vm8 (q := q) hi hv m K ok
/-! a round over statements -/
theorem step_S {i k : Nat} (hi : i < D.bs.length) (hk : k < (D.blk i).st.length) {z : Int} (hz : 0 ≤ z ∧ z ≤ 600) {U U' : List Int} {res : List S} {y : Nat} {L : Lf} (hrun : stepI res y L = true) (hL : L.Holds (xsAt (fnXs D (qS i k) (mkS D i k z U))) (fun _ => []))
    (hres : ∀ r, All2 (@VS (fnB w D (qS i k) (mkS D i k z U)) r) res (intsV (useS (D.stm i k)))) (hy : xsAt (fnXs D (qS i k) (mkS D i k z U)) y = lastS (lastK D i) ((D.blk i).st.take (k + 1))) :
    TurnsS Tryz.prog (fnB w D (qS i k) (mkS D i k z U)) (fnB w D (qS i (k + 1)) (mkS D i (k + 1) z U')) codeI hdI .normal hdI := by
  have hb := twos.blk_mem hi
  have hst := st_of h hr hi hk
  have nb := num_b h hr i
  have h24 := (hr.sm.s _ hb).1
  refine turn_fn hrun (rig_ok (lib_S h hr (q := qS i k) hi hk hres) (@tabs_app (fnB w D (qS i k) (mkS D i k z U)) _ _ (tabF_ok h _ _) (@tabs_app (fnB w D (qS i k) (mkS D i k z U)) _ _ (tabB_ok h (q := qS i k) hi _) (tabS_ok h (q := qS i k) hi hk _))) no_loops) (agree_blk (qS i k) (qS i (k + 1)) rfl _ _) hL ?_ (fun p hp => ?_) (fun u hu => ?_) rfl (no_loopN f codeI)
  · have h0 := fnFx_ok D (qS i k) (mkS D i k z U)
    refine ⟨fun a c b hm => ?_, h0.xt⟩
    obtain e := List.mem_singleton.1 (show (a, c, b) ∈ [(93, (1 : Int), 94)] from hm)
    cases e
    have e3 : xsAt (fnXs D (qS i k) (mkS D i k z U)) 93 = numK D i + k := six_at 0
    have e4 : xsAt (fnXs D (qS i k) (mkS D i k z U)) 94 = numK D i + k + 1 := six_at 1
    rw [e3, e4]
    exact ⟨rfl, by show (-9223372036854775808 : Int) ≤ _; omega, by show _ ≤ (9223372036854775807 : Int); omega⟩
  · simp only [givI, List.mem_cons, List.not_mem_nil, or_false] at hp
    rcases hp with rfl | rfl
    · exact (okS_num (qS i k) _).trans (hr.okS _ hb _ hst)
    · exact (near_num (qS i k) _).trans (hr.nS _ hb _ hst)
  · unfold usI at hu
    rcases List.mem_append.1 hu with hu | hu
    · simp only [List.mem_cons, List.not_mem_nil, or_false] at hu
      rcases hu with rfl | rfl | rfl | rfl
      · exact isU_ok fun r v hv => hv
      · refine onceR.xi_is ((rS w D i k z U 1).trans (Eq.trans ?_ (rS w D i (k + 1) z U' 0).symm))
        show numK D i + k + 1 = numK D i + ((k + 1 : Nat) : Int)
        omega
      · exact onceR.xi_is (Eq.trans hy (rS w D i (k + 1) z U' 2).symm)
      · exact onceR.xi_is ((rS w D i k z U 5).trans (rS w D i (k + 1) z U' 5).symm)
    · exact sameB16_ok (fun j hj => (bit_at hj).trans (bit_at hj).symm) u hu
theorem inner {i : Nat} (hi : i < D.bs.length) {z : Int} (hz : 0 ≤ z ∧ z ≤ 600) {U : List Int} (K : Know) (ok : KnowOk K (fnB w D (atB i) (mkO D i z U)).rho (fnB w D (atB i) (mkO D i z U)).sig) : @LoopOk ((fnB w D (atB i) (mkO D i z U)).withK K ok) Tryz.prog (rowI K) codeI := by
  have hb := twos.blk_mem hi
  have nb := num_b h hr i
  have h24 := (hr.sm.s _ hb).1
  have hn := hr.sm.b
  have fit : ∀ k, k ≤ (D.blk i).st.length → Fits D (qS i k) := fun k hk => fits_small ⟨by show i ≤ 1000; omega, by show k ≤ 1000; omega, Nat.zero_le _, Nat.zero_le _⟩
  refine @roundsU_ok _ _ (fun k => fnB w D (qS i k) (mkS D i k z (useS (D.stm i k)))) codeI _ _ hdI _ _ (fun e => by cases e) (D.blk i).st.length (agree_blk (atB i) (qS i 0) rfl _ _) (fun u hu => ?_) (fun k hk => ?_) ?_ 15 K ok
  · unfold usS at hu
    rcases List.mem_append.1 hu with hu | hu
    · simp only [List.mem_cons, List.not_mem_nil, or_false] at hu
      rcases hu with rfl | rfl | rfl | rfl
      · exact isU_ok fun r v hv => hv
      · refine onceR.xi_is ((rO w D i z U 0).trans (Eq.trans ?_ (rS w D i 0 z _ 0).symm))
        show numK D i = numK D i + ((0 : Nat) : Int)
        omega
      · exact onceR.xi_is ((rO w D i z U 2).trans (rS w D i 0 z _ 2).symm)
      · exact onceR.xi_is ((rO w D i z U 5).trans (rS w D i 0 z _ 5).symm)
    · exact sameB16_ok (fun j hj => (bit_at hj).trans (bit_at hj).symm) u hu
  · have la := inKS h hr hi k
    have s6 : All2 InI (List.replicate 6 twos.iv64) [numK D i + k, numK D i + k + 1, lastS (lastK D i) ((D.blk i).st.take k), 0, 0, z] := ⟨in64 (by omega) (by omega), in64 (by omega) (by omega), in64 (by have := la.1; omega) (by have := la.2.1; omega), in64 (by decide) (by decide), in64 (by decide) (by decide), in64 (by omega) (by omega), trivial⟩
    have hL1 : L1.Holds (xsAt (fnXs D (qS i k) (mkS D i k z (useS (D.stm i k))))) (fun _ => []) :=
      ((start6 h (fit k (by omega)) (fun j => in_b _) s6).pin (i := 6) (c := 1) (show b2i (decide ((i : Int) < D.bs.length)) = 1 from (one_iff _).2 (by omega))).pin (i := 23) (c := 1) (show b2i (decide ((k : Int) < (D.blk i).st.length)) = 1 from (one_iff _).2 (by omega))
    have h95 : xsAt (fnXs D (qS i k) (mkS D i k z (useS (D.stm i k)))) 95 = lastS (lastK D i) ((D.blk i).st.take k) := six_at 2
    have hU : ∀ j m, (useS (D.stm i k))[j]? = some m → xsAt (fnXs D (qS i k) (mkS D i k z (useS (D.stm i k)))) (99 + j) = m := fun j m hm => use_at hm
    have hnext : lastS (lastK D i) ((D.blk i).st.take (k + 1)) = mx (lastS (lastK D i) ((D.blk i).st.take k)) (useS (D.stm i k)) := fold_take _ _ _ [] hk
    have h3 := useS_len (D.stm i k)
    have nums : ∀ {n : Nat}, (useS (D.stm i k)).length = n → ∀ r, All2 (@VS (fnB w D (qS i k) (mkS D i k z (useS (D.stm i k)))) r) (numsX 99 n) (intsV (useS (D.stm i k))) := fun {n} e r => e ▸ @numsX_ok (fnB w D (qS i k) (mkS D i k z (useS (D.stm i k)))) r 99 _ hU
    rcases mx_cases (lastS (lastK D i) ((D.blk i).st.take k)) (useS (D.stm i k)) with ⟨e, m⟩ | ⟨n, x, hl, hx, lt, m⟩ | ⟨n, hl, hx, m⟩ | ⟨n, x, hl, hx, lt, m⟩
    · exact step_S h hr hi hk hz step0 hL1 (fun r => by rw [e]; trivial) (by rw [hnext, m]; exact h95)
    · refine step_S h hr hi hk hz (List.all_eq_true.1 stepM n (List.mem_range.2 (by omega))) (holds_less hL1 (by rw [h95, hU n x hx]; exact lt)) (nums hl) (by rw [hnext, m]; exact hU n x hx)
    · refine step_S h hr hi hk hz (List.all_eq_true.1 stepE n (List.mem_range.2 (by omega))) hL1 (fun r => ?_) (by rw [hnext, m]; exact h95)
      have e : useS (D.stm i k) = (useS (D.stm i k)).take n ++ [lastS (lastK D i) ((D.blk i).st.take k)] := by
        conv => lhs; rw [← List.take_append_drop n (useS (D.stm i k))]
        congr 1
        rw [List.drop_eq_getElem_cons (by omega), List.drop_of_length_le (by omega)]
        rw [List.getElem?_eq_getElem (by omega)] at hx
        rw [Option.some.inj hx]
      have hl2 : ((useS (D.stm i k)).take n).length = n := by rw [List.length_take]; omega
      have h1 : All2 (@VS (fnB w D (qS i k) (mkS D i k z (useS (D.stm i k)))) r) (numsX 99 ((useS (D.stm i k)).take n).length) (((useS (D.stm i k)).take n).map (Value.int .i64)) := @numsX_ok (fnB w D (qS i k) (mkS D i k z (useS (D.stm i k)))) r 99 _ fun j m' hm => hU j m' (by
        rw [List.getElem?_take] at hm
        split at hm
        · exact hm
        · cases hm)
      rw [hl2] at h1
      have h2 : intsV (useS (D.stm i k)) = ((useS (D.stm i k)).take n).map (Value.int .i64) ++ [.int .i64 (lastS (lastK D i) ((D.blk i).st.take k))] := by
        show (useS (D.stm i k)).map (Value.int .i64) = _
        conv => lhs; rw [e]
        rw [List.map_append]
        rfl
      rw [h2]
      refine @All2.app _ _ (@VS (fnB w D (qS i k) (mkS D i k z (useS (D.stm i k)))) r) _ _ _ _ h1 ⟨?_, trivial⟩
      show Value.int .i64 _ = .int .i64 (xsAt (fnXs D (qS i k) (mkS D i k z (useS (D.stm i k)))) 95)
      rw [h95]
    · refine step_S h hr hi hk hz (List.all_eq_true.1 stepL n (List.mem_range.2 (by omega))) (holds_less hL1 (by rw [h95, hU n x hx]; exact lt)) (nums hl) (by rw [hnext, m]; exact h95)
  · refine turn_fn stopI (rig_plain (@tabs_app (fnB w D (qS i (D.blk i).st.length) _) _ _ (tabF_ok h _ _) (tabB_ok h (q := qS i (D.blk i).st.length) hi _))) (agree_blk (qS i (D.blk i).st.length) (atB i) rfl _ _) (L := L3) (((twos.start0 h (qS i (D.blk i).st.length) (fit _ (Nat.le_refl _)) _).pin (i := 6) (c := 1) (show b2i (decide ((i : Int) < D.bs.length)) = 1 from (one_iff _).2 (by omega))).pin (i := 23) (c := 0) (show b2i (decide (((D.blk i).st.length : Int) < (D.blk i).st.length)) = 0 by rw [decide_eq_false (by omega)]; rfl)) (fnFx_ok D _ _) (fun p hp => by cases hp) (fun u hu => ?_) rfl (no_loopN f codeI)
    rcases List.mem_append.1 hu with hu | hu
    · simp only [List.mem_cons, List.not_mem_nil, or_false] at hu
      rcases hu with rfl | rfl | rfl
      · exact onceR.xi_is ((rS w D i _ z _ 5).trans (rO w D i z U 5).symm)
      · exact onceR.xi_is ((rS w D i _ z _ 0).trans (rO w D i z U 3).symm)
      · refine onceR.xi_is ((rS w D i _ z _ 2).trans (Eq.trans ?_ (rO w D i z U 4).symm))
        show lastS (lastK D i) ((D.blk i).st.take (D.blk i).st.length) = lastS (lastK D i) (D.blk i).st
        rw [List.take_length]
    · exact sameB16_ok (fun j hj => (bit_at hj).trans (bit_at hj).symm) u hu
end
end Go.Proofs.YtbebbbclhgjcbaaGreat.parts
/-! FnshapeParts: the law answers true for every function. -/
namespace Go.Proofs.YtbebbbclhgjcbaaGreat.Am
open Go.RowKit
set_option maxRecDepth 100000
set_option linter.unusedVariables false
set_option linter.unusedSectionVars false
/-- a temp that is better known -/
theorem rel_upd {b : Base} {fr : Fr} {h : Heap} {r : Ren} {B : Nat} {a : Act} {w : World} (hr : @Rel b ⟨fr, h⟩ r B a w) {i : Nat} {x : V} {u : Value} (hu : a.tmps.toList[i]? = some u) (hv : @VV b r x u) : @Rel b ⟨upd fr i x, h⟩ r B a w := by
  have P := @Rel.parts b _ _ _ _ _ hr
  have hi : @Inv b h r B w := @Rel.i b _ _ _ _ _ hr
  refine @Rel.mk b _ _ _ _ _ ?_ hi
  show All2 (@VV b r) (upd fr i x) a.tmps.toList
  rw [upd_eq]
  have e : a.tmps.toList.set i u = a.tmps.toList := by
    refine List.ext_getElem? fun j => ?_
    rw [List.getElem?_set]
    by_cases hij : i = j
    · subst hij
      rw [if_pos rfl, if_pos (List.getElem?_eq_some_iff.1 hu).1, hu]
    · rw [if_neg hij]
  rw [← e]
  exact All2.set i P.f hv
theorem elOf_mem {l : List (Nat × N × List S)} {k : Nat} {i : N} {cs : List S} (h : Tabs.elOf ⟨[], l, []⟩ k i = some cs) : ∃ j, (k, j, cs) ∈ l ∧ j.eqv i = true := by
  induction l with
  | nil => cases h
  | cons p l ih =>
    have h : (bif Nat.beq p.1 k && p.2.1.eqv i then some p.2.2 else Tabs.elOf ⟨[], l, []⟩ k i) = some cs := h
    cases hb : (Nat.beq p.1 k && p.2.1.eqv i) <;> rw [hb] at h
    · obtain ⟨j, h1, h2⟩ := ih h
      exact ⟨j, List.mem_cons_of_mem _ h1, h2⟩
    · simp only [Bool.and_eq_true] at hb
      cases h
      have := Nat.eq_of_beq_eq_true hb.1
      subst this
      exact ⟨p.2.1, List.mem_cons_self .., hb.2⟩
/-- a list of numbers: its elements -/
theorem tab_nums {e : Env} {v : Value} {k o : Nat} {l : List Int} (h : ListAt e.w v 1 (l.map fun n => [Value.int .i64 n])) (hl : e.b.lst k = ⟨v, l.map fun n => [Value.int .i64 n]⟩) (hr : ∀ j m, l[j]? = some m → e.b.rho (o + j) = m) :
    @TabsOk e.b ⟨[], (List.range l.length).map (fun i : Nat => (k, .c (i : Int), [S.xi .i64 (o + i)])), []⟩ := by
  refine @TabsOk.mk e.b _ (fun _ _ h => (by cases h)) (fun q m ds hh => ?_) (fun _ _ _ h => (by cases h))
  obtain ⟨j, hm, hj⟩ := elOf_mem hh
  obtain ⟨i, hi, e1⟩ := List.mem_map.1 hm
  have hi := List.mem_range.1 hi
  cases e1
  rw [← N.eqv_ok hj]
  have hn : l[i]? = some (l[i]'hi) := List.getElem?_eq_getElem hi
  have he : (l.map fun n => [Value.int .i64 n])[i]? = some [Value.int .i64 (l[i]'hi)] := by rw [List.getElem?_map, hn]; rfl
  refine h.el (b := e.b) (i := .c (i : Int)) rfl rfl hl (n := i) rfl he rfl ⟨fun r => ?_, trivial⟩
  show Value.int .i64 (l[i]'hi) = .int .i64 (e.b.rho (o + i))
  rw [hr i _ hn]
theorem row_fnE {w : World} {v : Value} {D : FnD} (h : FnOk' w v D) {F : FuncId} {u : Value} {mv : V} (hF : Callable Tryz.prog F) (q : At) (m : List Int) (hu : ∀ r, @VV (fnB w D q m) r mv u) (ha : ∀ w', FnOk' w' v D → Answers F [v] w' u)
    (K : Know) (ok : KnowOk K (fnB w D q m).rho (fnB w D q m).sig) : @Sound ((fnB w D q m).withK K ok) Tryz.prog (rowG F [.g fnCells] mv) :=
  @sound_rowG ((fnB w D q m).withK K ok) _ F hF _ _ (by rfl) [v] ⟨fn_val h q m r0, trivial⟩ u (fun r => hu r) fun w' hw => ha w' (h.frz hw)
end Go.Proofs.YtbebbbclhgjcbaaGreat.Am
namespace Go.Proofs.YtbebbbclhgjcbaaGreat.parts
open Go.RowKit Go.Proofs.YtbebbbclhgjcbaaGreat.Am
set_option maxRecDepth 100000
set_option linter.unusedVariables false
set_option linter.unusedSectionVars false
section
variable {w : World} {v : Value} {D : FnD} (h : FnOk' w v D) (hr : Right D)
include h hr
theorem jm_ok {i : Nat} (hi : i < D.bs.length) (m : List Int) : jmE.num (xsAt (fnXs D (atB i) m)) = true := by
  have e8 : xsAt (fnXs D (atB i) m) 8 = cellI (D.blk i).pre 0 := rfl
  have e72 : xsAt (fnXs D (atB i) m) 72 = b2i (decide (cellI (D.blk i).pre 7 < D.bs.length)) := rfl
  have e73 : xsAt (fnXs D (atB i) m) 73 = b2i (decide (cellI (D.blk i).pre 8 < D.bs.length)) := rfl
  have e74 : xsAt (fnXs D (atB i) m) 74 = b2i (decide (cellI (D.blk i).pre 7 = cellI (D.blk i).pre 8)) := rfl
  have hj := hr.nJ _ (twos.blk_mem hi)
  unfold made.jumpF at hj
  simp only [Bool.and_eq_true] at hj
  obtain ⟨_, _, h1, h2⟩ := hj
  simp only [jmE, ands, imp, isE, E.num, List.all_cons, List.all_nil, Bool.and_true, e8, e72, e73, e74, made.dec_b2i, Bool.not_not, Bool.and_eq_true]
  exact ⟨h1, h2⟩
theorem num_succ {i : Nat} (hi : i < D.bs.length) : numK D (i + 1) = numK D i + (D.blk i).st.length + 1 := by
  unfold numK
  rw [acc_take _ _ b0 hi]
  show _ + (((D.blk i).st.length : Int) + 1) = _
  omega
/-! a round over blocks -/
theorem step_O {i : Nat} (hi : i < D.bs.length) {z : Int} (hz : 0 ≤ z ∧ z ≤ 600) {U U' : List Int} {res : List S} {y : Nat} {L : Lf} (hrun : stepO res y L = true) (hL : L.Holds (xsAt (fnXs D (atB i) (mkO D i z U))) (fun _ => []))
    (hres : ∀ r, All2 (@VS (fnB w D (atB i) (mkO D i z U)) r) res (intsJ (useJ (D.blk i)))) (hy : (fnB w D (atB i) (mkO D i z U)).rho y = lastK D (i + 1)) :
    TurnsS Tryz.prog (fnB w D (atB i) (mkO D i z U)) (fnB w D (atB (i + 1)) (mkO D (i + 1) z U')) codeO hdO .normal hdO := by
  have hb := twos.blk_mem hi
  have nb := num_b h hr i
  have ns := num_succ h hr hi
  have h24 := (hr.sm.s _ hb).1
  refine turn_fn hrun (rig_ok (lib_O h hr (q := atB i) hi hres) (@tabs_app (fnB w D (atB i) (mkO D i z U)) _ _ (tabF_ok h _ _) (tabB_ok h (q := atB i) hi _)) (rows_ok (T := fun K => [(f, rowI K)]) fun K ok p hp => ?_)) (agree_fn _ _ _ _) hL ?_ (fun p hp => ?_) (fun u hu => ?_) rfl (fun K ok => code_rows (F := F) (cc := codeO) fun p hp e => ?_)
  · obtain rfl := List.mem_singleton.1 hp
    exact ⟨F, Tryz.func3, fun c hc => row_fn tagI2 (inner h hr hi hz K ok) hc⟩
  · have h0 := fnFx_ok D (atB i) (mkO D i z U)
    refine ⟨fun a c b hm => ?_, h0.xt⟩
    obtain e := List.mem_singleton.1 (show (a, c, b) ∈ [(96, (1 : Int), 94)] from hm)
    cases e
    have e3 : xsAt (fnXs D (atB i) (mkO D i z U)) 96 = numK D i + (D.blk i).st.length := rO w D i z U 3
    have e4 : xsAt (fnXs D (atB i) (mkO D i z U)) 94 = numK D (i + 1) := rO w D i z U 1
    rw [e3, e4]
    exact ⟨ns.symm, by show (-9223372036854775808 : Int) ≤ _; omega, by show _ ≤ (9223372036854775807 : Int); omega⟩
  · obtain rfl := List.mem_singleton.1 hp
    exact jm_ok h hr hi _
  · unfold usO at hu
    rcases List.mem_append.1 hu with hu | hu
    · simp only [List.mem_cons, List.not_mem_nil, or_false] at hu
      rcases hu with rfl | rfl | rfl | rfl
      · exact isU_ok fun r v hv => hv
      · exact onceR.xi_is ((rO w D i z U 1).trans (rO w D (i + 1) z U' 0).symm)
      · exact onceR.xi_is (Eq.trans hy (rO w D (i + 1) z U' 2).symm)
      · exact onceR.xi_is ((rO w D i z U 5).trans (rO w D (i + 1) z U' 5).symm)
    · refine bitU16_ok (fun j hj => ?_) u hu
      have e8 : (fnB w D (atB i) (mkO D i z U)).rho 8 = cellI (D.blk i).pre 0 := rfl
      have e14 : (fnB w D (atB i) (mkO D i z U)).rho 14 = cellI (D.blk i).pre 6 := rfl
      have eN : (isE 8 4).num (fnB w D (atB i) (mkO D i z U)).rho = decide (cellI (D.blk i).pre 0 = 4) := by
        show (decide (_ = (4 : Int)) && true) = _
        rw [e8, Bool.and_true]
      have r1 : (fnB w D (atB (i + 1)) (mkO D (i + 1) z U')).rho (nm 0 j) = b2i (callsF.calledK D (i + 1) j) := bit_at hj
      have r0' : (fnB w D (atB i) (mkO D i z U)).rho (nm 0 j) = b2i (callsF.calledK D i j) := bit_at hj
      rw [eN, e14, r1, r0']
      unfold callsF.calledK
      rw [twos.any_take _ b0 _ hi, made.b2i_one, made.b2i_one, Bool.or_eq_true]
      show (_ ∨ (decide (cellI (D.blk i).pre 0 = 4) && decide (cellI (D.blk i).pre 6 = (j : Int))) = true) ↔ _
      rw [Bool.and_eq_true, decide_eq_true_iff, decide_eq_true_iff]
      exact Or.comm
  · obtain rfl := List.mem_singleton.1 hp
    exact row_code tagI (inner h hr hi hz K ok)
theorem outer {z m : Int} (hzz : numK D D.bs.length = z) {U : List Int} (K : Know) (ok : KnowOk K (fnB w D (atB 0) (mkF D z m U)).rho (fnB w D (atB 0) (mkF D z m U)).sig) :
    @LoopOk ((fnB w D (atB 0) (mkF D z m U)).withK K ok) Tryz.prog (rowO K) codeO := by
  have hn := hr.sm.b
  have hz : 0 ≤ z ∧ z ≤ 600 := hzz ▸ num_b h hr D.bs.length
  refine @roundsU_ok _ _ (fun i => fnB w D (atB i) (mkO D i z (useJ (D.blk i)))) codeO _ _ hdO _ _ (fun e => by cases e) D.bs.length (agree_fn _ _ _ _) (fun u hu => ?_) (fun i hi => ?_) ?_ 11 K ok
  · unfold usL at hu
    rcases List.mem_append.1 hu with hu | hu
    · simp only [List.mem_cons, List.not_mem_nil, or_false] at hu
      rcases hu with rfl | rfl | rfl | rfl
      · exact isU_ok fun r v hv => hv
      · exact lit_is (rO w D 0 z _ 0)
      · exact lit_is (rO w D 0 z _ 2)
      · exact onceR.xi_is ((rF w D z m U 5).trans (rO w D 0 z _ 5).symm)
    · exact falseU16_ok (fun j hj => (bit_at hj).trans rfl) u hu
  · have hb := twos.blk_mem hi
    have nb := num_b h hr i
    have nb1 := num_b h hr (i + 1)
    have ns := num_succ h hr hi
    have h24 := (hr.sm.s _ hb).1
    have fu := callsF.jm_func (jump_is h hi) (hr.okJ _ hb)
    have la := inK h hr i
    have lb : InL D.ls.length (lastS (lastK D i) (D.blk i).st) := lastS_in la (inS h hr hb)
    have s6 : All2 InI (List.replicate 6 twos.iv64) [numK D i, numK D (i + 1), lastK D i, numK D i + (D.blk i).st.length, lastS (lastK D i) (D.blk i).st, z] := ⟨in64 (by omega) (by omega), in64 (by omega) (by omega), in64 (by have := la.1; omega) (by have := la.2.1; omega), in64 (by omega) (by omega), in64 (by have := lb.1; omega) (by have := lb.2.1; omega), in64 (by omega) (by omega), trivial⟩
    have hLO : LO.Holds (xsAt (fnXs D (atB i) (mkO D i z (useJ (D.blk i))))) (fun _ => []) :=
      (((start6 h (fits_B (by omega)) (fun j => in_b _) s6).pin (i := 6) (c := 1) (show b2i (decide ((i : Int) < D.bs.length)) = 1 from (one_iff _).2 (by omega))).lo (i := 14) (c := 0) (show 0 ≤ cellI (D.blk i).pre 6 from fu.1)).hi (i := 14) (c := 7) (show cellI (D.blk i).pre 6 ≤ 7 from fu.2)
    have h97 : (fnB w D (atB i) (mkO D i z (useJ (D.blk i)))).rho 97 = lastS (lastK D i) (D.blk i).st := rO w D i z _ 4
    have hU : ∀ j m, (useJ (D.blk i))[j]? = some m → xsAt (fnXs D (atB i) (mkO D i z (useJ (D.blk i)))) (99 + j) = m := fun j m hm => use_at hm
    have hnext : lastK D (i + 1) = mx (lastS (lastK D i) (D.blk i).st) (useJ (D.blk i)) := fold_take _ _ _ b0 hi
    have h16 := useJ_len (D.blk i)
    have nums : ∀ {n : Nat}, (useJ (D.blk i)).length = n → ∀ r, All2 (@VS (fnB w D (atB i) (mkO D i z (useJ (D.blk i)))) r) (numsX 99 n) (intsJ (useJ (D.blk i))) := fun {n} e r => e ▸ @numsX_ok (fnB w D (atB i) (mkO D i z (useJ (D.blk i)))) r 99 _ hU
    rcases mx_cases (lastS (lastK D i) (D.blk i).st) (useJ (D.blk i)) with ⟨e, m⟩ | ⟨n, x, hl, hx, lt, m⟩ | ⟨n, hl, hx, m⟩ | ⟨n, x, hl, hx, lt, m⟩
    · exact step_O h hr hi hz stepO0 hLO (fun r => by rw [e]; trivial) (by rw [hnext, m]; exact h97)
    · exact step_O h hr hi hz (allM (k := n) (by omega)) (holds_less hLO (by rw [show xsAt (fnXs D (atB i) (mkO D i z (useJ (D.blk i)))) 97 = _ from h97, hU n x hx]; exact lt)) (nums hl) (by rw [hnext, m]; exact hU n x hx)
    · refine step_O h hr hi hz (allE (k := n) (by omega)) hLO (fun r => ?_) (by rw [hnext, m]; exact h97)
      have e : useJ (D.blk i) = (useJ (D.blk i)).take n ++ [lastS (lastK D i) (D.blk i).st] := by
        conv => lhs; rw [← List.take_append_drop n (useJ (D.blk i))]
        congr 1
        rw [List.drop_eq_getElem_cons (by omega), List.drop_of_length_le (by omega)]
        rw [List.getElem?_eq_getElem (by omega)] at hx
        rw [Option.some.inj hx]
      have hl2 : ((useJ (D.blk i)).take n).length = n := by rw [List.length_take]; omega
      have h1 : All2 (@VS (fnB w D (atB i) (mkO D i z (useJ (D.blk i)))) r) (numsX 99 ((useJ (D.blk i)).take n).length) (((useJ (D.blk i)).take n).map (Value.int .i64)) := @numsX_ok (fnB w D (atB i) (mkO D i z (useJ (D.blk i)))) r 99 _ fun j m' hm => hU j m' (by
        rw [List.getElem?_take] at hm
        split at hm
        · exact hm
        · cases hm)
      rw [hl2] at h1
      have h2 : intsJ (useJ (D.blk i)) = ((useJ (D.blk i)).take n).map (Value.int .i64) ++ [.int .i64 (lastS (lastK D i) (D.blk i).st)] := by
        show (useJ (D.blk i)).map (Value.int .i64) = _
        conv => lhs; rw [e]
        rw [List.map_append]
        rfl
      rw [h2]
      refine @All2.app _ _ (@VS (fnB w D (atB i) (mkO D i z (useJ (D.blk i)))) r) _ _ _ _ h1 ⟨?_, trivial⟩
      show Value.int .i64 _ = .int .i64 ((fnB w D (atB i) (mkO D i z (useJ (D.blk i)))).rho 97)
      rw [h97]
    · exact step_O h hr hi hz (allL (k := n) (by omega)) (holds_less hLO (by rw [show xsAt (fnXs D (atB i) (mkO D i z (useJ (D.blk i)))) 97 = _ from h97, hU n x hx]; exact lt)) (nums hl) (by rw [hnext, m]; exact h97)
  · refine turn_fn stopO (rig_plain (tabF_ok h _ _)) (agree_fn _ _ _ _) (L := L4) ((twos.start0 h (atB D.bs.length) (fits_B (by omega)) _).pin (i := 6) (c := 0) (show b2i (decide ((D.bs.length : Int) < D.bs.length)) = 0 by rw [decide_eq_false (by omega)]; rfl)) (fnFx_ok D _ _) (fun p hp => by cases hp) (fun u hu => ?_) rfl (no_loopN f codeO)
    rcases List.mem_append.1 hu with hu | hu
    · simp only [List.mem_cons, List.not_mem_nil, or_false] at hu
      rcases hu with rfl | rfl | rfl
      · exact onceR.xi_is ((rO w D _ z _ 5).trans (rF w D z m U 5).symm)
      · exact onceR.xi_is (((rO w D _ z _ 0).trans hzz).trans (rF w D z m U 5).symm)
      · exact onceR.xi_is ((rO w D _ z _ 2).trans (rF w D z m U 2).symm)
    · refine sameB16_ok (fun j hj => (show _ = b2i (callsF.calledK D D.bs.length j) from bit_at hj).trans (Eq.trans ?_ (show (fnB w D (atB 0) (mkF D z m U)).rho (nm 0 j) = b2i (callsF.called D j) from bit_at hj).symm)) u hu
      unfold callsF.calledK callsF.called
      rw [List.take_length]
end
/-! what is called, as a list -/
theorem vec_at (D : FnD) {j : Nat} (hj : j < 8) : (callsF.vec D).getD j false = callsF.called D j := by
  have h8 : j = 0 ∨ j = 1 ∨ j = 2 ∨ j = 3 ∨ j = 4 ∨ j = 5 ∨ j = 6 ∨ j = 7 := by omega
  rcases h8 with rfl | rfl | rfl | rfl | rfl | rfl | rfl | rfl <;> rfl
theorem lits_mem (D : FnD) (x : Int) : x ∈ callsF.lits (callsF.vec D) ↔ ∃ j : Nat, j < 8 ∧ callsF.called D j = true ∧ x = j := by
  unfold callsF.lits
  rw [List.mem_map]
  constructor
  · rintro ⟨j, hj, rfl⟩
    obtain ⟨h1, h2⟩ := List.mem_filter.1 hj
    have h1 := List.mem_range.1 h1
    exact ⟨j, h1, by rw [← vec_at D h1]; exact h2, rfl⟩
  · rintro ⟨j, h1, h2, rfl⟩
    exact ⟨j, List.mem_filter.2 ⟨List.mem_range.2 h1, by rw [vec_at D h1]; exact h2⟩, rfl⟩
theorem lits_sorted (bs : List Bool) : List.Pairwise (· < ·) (callsF.lits bs) := by
  unfold callsF.lits
  rw [List.pairwise_map]
  refine List.Pairwise.filter _ ?_
  exact List.Pairwise.imp (fun {a b} (h : a < b) => by show ((a : Nat) : Int) < b; omega) List.pairwise_lt_range
theorem lits_len (bs : List Bool) : (callsF.lits bs).length ≤ 8 := by
  unfold callsF.lits
  rw [List.length_map]
  have := List.length_filter_le (fun j => bs.getD j false) (List.range 8)
  rw [List.length_range] at this
  exact this
section
variable {w : World} {v : Value} {D : FnD} (h : FnOk' w v D) (hr : Right D)
include h hr
theorem called_lt {j : Nat} (hc : callsF.called D j = true) : j < 8 := by
  unfold callsF.called at hc
  obtain ⟨b, hb, hc⟩ := List.any_eq_true.1 hc
  obtain ⟨i, hi⟩ := List.getElem?_of_mem hb
  have hl := (List.getElem?_eq_some_iff.1 hi).1
  have e : D.blk i = b := by unfold FnD.blk; rw [List.getD_eq_getElem?_getD, hi]; rfl
  have fu := callsF.jm_func (jump_is h hl) (hr.okJ _ (twos.blk_mem hl))
  rw [e] at fu
  unfold callsF.callB at hc
  rw [Bool.and_eq_true, decide_eq_true_iff, decide_eq_true_iff] at hc
  omega
theorem bits_of {m z : Int} {U : List Int} (r : Ren) (us : List Value) (ha : All2 (@VS (fnB w D (atB 0) (mkF D z m U)) r) (bits16 0) us) : us = (boolsT (callsF.lits (callsF.vec D))).map Value.bool := by
  have hl : us.length = 16 := ha.len.symm
  refine List.ext_getElem? fun j => ?_
  by_cases hj : j < 16
  · obtain ⟨u, hu, hv⟩ := All2.nth ha (n := j) (x := .xe [(nm 0 j, 1)]) (by
      rw [nth_eq]
      unfold bits16
      rw [List.getElem?_map, List.getElem?_range hj]
      rfl)
    have hv : u = .bool (decide ((fnB w D (atB 0) (mkF D z m U)).rho (nm 0 j) = 1) || false) := hv
    rw [hu, List.getElem?_map, boolsT_at hj, hv, show (fnB w D (atB 0) (mkF D z m U)).rho (nm 0 j) = b2i (callsF.called D j) from bit_at hj, made.dec_b2i, Bool.or_false]
    show some (Value.bool _) = some (Value.bool _)
    congr 2
    rw [Bool.eq_iff_iff, decide_eq_true_eq, lits_mem]
    constructor
    · intro hc
      exact ⟨j, called_lt h hr hc, hc, rfl⟩
    · rintro ⟨k, _, hc, e⟩
      obtain rfl : j = k := by omega
      exact hc
  · rw [List.getElem?_eq_none (by omega), List.getElem?_eq_none (by rw [List.length_map, boolsT_len]; omega)]
theorem incT_lits : incT (callsF.lits (callsF.vec D)) = callsF.lits (callsF.vec D) := sorted_eq (incT_sorted _) (lits_sorted _) fun x => by
  rw [incT_mem]
  constructor
  · exact fun e => e.1
  · intro e
    obtain ⟨j, hj, _, rfl⟩ := (lits_mem D x).1 e
    exact ⟨e, by omega, by omega⟩
/-- the last piece -/
theorem stage2 {s : Value} (hx : D.xl = ⟨s, (callsF.lits (callsF.vec D)).map fun n => [Value.int .i64 n]⟩) (hs : ListAt w s 1 ((callsF.lits (callsF.vec D)).map fun n => [Value.int .i64 n])) {a : Act} {r : Ren} {B : Nat}
    (hrel : @Rel (fnB w D (atB 0) (mkF D (numK D D.bs.length) (callsF.lits (callsF.vec D)).length (callsF.lits (callsF.vec D)))) hd2 r B a w) (ha : a.defers = []) {w0 : World} (hbel : Below w0.heap.size w0 w) :
    Am.Ends Tryz.prog F (fun e w' => e = .returned (.bool true) ∧ Below w0.heap.size w0 w') code2 a w := by
  generalize hU : callsF.lits (callsF.vec D) = U at *
  have hlen : U.length ≤ 8 := hU ▸ lits_len _
  generalize hzz : numK D D.bs.length = z at *
  have hz : 0 ≤ z ∧ z ≤ 600 := hzz ▸ num_b h hr D.bs.length
  have la := inK h hr D.bs.length
  have hrun := List.all_eq_true.1 ok2_all U.length (List.mem_range.2 (by omega))
  have hu : ∀ j m, U[j]? = some m → (fnB w D (atB 0) (mkF D z U.length U)).rho (99 + j) = m := fun j m hm => use_at hm
  have s6 : All2 InI (List.replicate 6 twos.iv64) [z, (U.length : Int), lastK D D.bs.length, 0, ltI' (lastK D D.bs.length) D.ls.length, z] := ⟨in64 (by omega) (by omega), in64 (by omega) (by omega), in64 (by have := la.1; omega) (by have := la.2.1; omega), in64 (by decide) (by decide), (by
    have := in_b (decide (lastK D D.bs.length < (D.ls.length : Int)))
    have h1 : (0 : Int) ≤ ltI' (lastK D D.bs.length) D.ls.length := this.1
    have h2 : ltI' (lastK D D.bs.length) D.ls.length ≤ (1 : Int) := this.2
    exact in64 (by omega) (by omega)), in64 (by omega) (by omega), trivial⟩
  have r97 : (fnB w D (atB 0) (mkF D z U.length U)).rho 97 = ltI' (lastK D D.bs.length) D.ls.length := rF w D z U.length U 4
  have r95 : (fnB w D (atB 0) (mkF D z U.length U)).rho 95 = lastK D D.bs.length := rF w D z U.length U 2
  have hL : (LF U.length).Holds (fnB w D (atB 0) (mkF D z U.length U)).rho (fnB w D (atB 0) (mkF D z U.length U)).sig :=
    ((start6 h (fits_B (by omega)) (fun j => in_b _) s6).pin (i := 97) (c := 1) (r97.trans ((one_iff _).2 la.2.2))).pin (i := 94) (c := U.length) (rF w D z U.length U 1)
  have hf : FxOk fxF (fnB w D (atB 0) (mkF D z U.length U)).rho := by
    have h0 := fnFx_ok D (atB 0) (mkF D z U.length U)
    refine ⟨h0.ad, ⟨fun a b c hm => ?_, h0.xt.sm, h0.xt.ld, h0.xt.sr, h0.xt.eq⟩⟩
    rcases List.mem_cons.1 (show (a, b, c) ∈ (95, 2, 97) :: fnFx.xt.lf from hm) with e | hm
    · cases e
      rw [r97, r95]
      exact one_iff _
    · exact h0.xt.lf a b c hm
  have htab : @TabsOk (fnB w D (atB 0) (mkF D z U.length U)) (tb2 U.length) := by
    obtain ⟨A, c, e⟩ := hs.sl
    have hx2 : (fnB w D (atB 0) (mkF D z U.length U)).lst 2 = ⟨s, U.map fun n => [Value.int .i64 n]⟩ := hx
    have t1 : @TabsOk (fnB w D (atB 0) (mkF D z U.length U)) ⟨[(2, 94)], [], []⟩ := tab_len (n := U.length) (by rw [hx2, e, List.length_map]) (rF w D z U.length U 1)
    have t2 := tab_nums (e := fnE w D (atB 0) (mkF D z U.length U)) (k := 2) (o := 99) hs hx2 hu
    exact @tabs_app (fnB w D (atB 0) (mkF D z U.length U)) _ _ (tabF_ok h _ _) (@tabs_app (fnB w D (atB 0) (mkF D z U.length U)) _ _ t1 t2)
  have hlib : ∀ K (ok : KnowOk K (fnB w D (atB 0) (mkF D z U.length U)).rho (fnB w D (atB 0) (mkF D z U.length U)).sig), @Sound ((fnB w D (atB 0) (mkF D z U.length U)).withK K ok) Tryz.prog (lib2 U.length K) := fun K ok => by
    refine @sound_orcs ((fnB w D (atB 0) (mkF D z U.length U)).withK K ok) _ _ fun O hO => ?_
    simp only [List.mem_cons, List.not_mem_nil, or_false] at hO
    rcases hO with rfl | rfl
    · exact sound_alive07 _
    · refine sound_jinc ((fnB w D (atB 0) (mkF D z U.length U)).withK K ok) (T := U) (fun r us ha => ?_) fun r => ?_
      · rw [← hU]
        exact bits_of h hr r us ha
      · have : incT U = U := hU ▸ incT_lits h hr
        rw [this]
        exact @numsX_ok ((fnB w D (atB 0) (mkF D z U.length U)).withK K ok) r 99 U hu
  have hR : RigOk Tryz.prog (rigP (lib2 U.length) (tb2 U.length) fun K => rowsL [(f, rowO K)]) (fnB w D (atB 0) (mkF D z U.length U)) := rig_ok hlib htab (rows_ok (T := fun K => [(f, rowO K)]) fun K ok p hp => by
    obtain rfl := List.mem_singleton.1 hp
    exact ⟨F, Tryz.func3, fun c hc => row_fn (F := F) (i := 0) tagOF (outer h hr (m := U.length) (U := U) hzz K ok) hc⟩)
  exact ends_endT hR (f := f) (fn := F) (c := code2) hL hf (fun K ok => show Loops.ok (@LoopOk ((fnB w D (atB 0) (mkF D z U.length U)).withK K ok) Tryz.prog (rowsL [(f, rowO K)] f)) code2 from code_rows (F := F) (cc := code2) fun p hp e => by
    obtain rfl := List.mem_singleton.1 hp
    exact row_code tagO (by rw [nthO]; exact outer h hr (m := U.length) (U := U) hzz K ok)) hrel ha rfl hrun hbel
end
section
variable {w : World} {v : Value} {D : FnD} (h : FnOk' w v D)
include h
theorem good (hg : great.greatF D = false) (hc : check.chkF D = 0) : Calls Tryz.prog f #[v] w fun e w' => e = .returned (.bool true) ∧ Below w.heap.size w w' := by
  have hr := right_of h hc
  have hzz : size.sizeF D = numK D D.bs.length := (num_all h hr).symm
  generalize hU : callsF.lits (callsF.vec D) = U
  have hlen : U.length ≤ 8 := hU ▸ lits_len _
  let z : Int := numK D D.bs.length
  have hok := List.all_eq_true.1 ok1_all U.length (List.mem_range.2 (by omega))
  have hu : ∀ (w' : World) (D' : FnD) j m, U[j]? = some m → (fnB w' D' (atB 0) (mkF D' z U.length U)).rho (99 + j) = m := fun w' D' j m hm => use_at hm
  have r98 : ∀ (w' : World) (D' : FnD), (fnB w' D' (atB 0) (mkF D' z U.length U)).rho 98 = z := fun w' D' => rF w' D' z U.length U 5
  unfold ok1 at hok
  cases hcut : cut1 U.length with
  | none => rw [hcut] at hok; cases hok
  | some s1 =>
    rw [hcut] at hok
    have hok : (frzSt ⟨4, 0, 2⟩ th1 hdT s1 && slotN s1 3 99 U.length) = true := hok
    rw [Bool.and_eq_true] at hok
    obtain ⟨hfrz, hsl⟩ := hok
    have hlib : ∀ K (ok : KnowOk K (fnB w D (atB 0) (mkF D z U.length U)).rho (fnB w D (atB 0) (mkF D z U.length U)).sig), @Sound ((fnB w D (atB 0) (mkF D z U.length U)).withK K ok) Tryz.prog (lib1 U.length K) := fun K ok => by
      refine @sound_orcs ((fnB w D (atB 0) (mkF D z U.length U)).withK K ok) _ _ fun O hO => ?_
      simp only [List.mem_cons, List.not_mem_nil, or_false] at hO
      rcases hO with rfl | rfl | rfl | rfl
      · exact row_fnE h ⟨_, Tryz.func4, by kernel_rfl, by kernel_rfl⟩ (u := .bool false) (mv := V.s (.bool false)) (atB 0) _ (fun r => rfl) (fun w' hw => hg ▸ great.great_ans hw) K ok
      · exact row_fnE h ⟨_, Tryz.func5, by kernel_rfl, by kernel_rfl⟩ (u := .int .i64 0) (mv := V.s (.int .i64 0)) (atB 0) _ (fun r => rfl) (fun w' hw => hc ▸ refC.check_same hw) K ok
      · exact @sound_rowGL ((fnB w D (atB 0) (mkF D z U.length U)).withK K ok) _ callsF.f ⟨_, Tryz.func7, by kernel_rfl, by kernel_rfl⟩ _ _ _ (by rfl) [v] ⟨fn_val h _ _ r0, trivial⟩ (fun r => @numsX_ok ((fnB w D (atB 0) (mkF D z U.length U)).withK K ok) r 99 U (hu w D)) fun w' hw => hU ▸ callsF.calls_ans (h.frz hw) hc
      · refine row_fnE h ⟨_, Tryz.func8, by kernel_rfl, by kernel_rfl⟩ (u := .tuple #[.int .i64 z, .int .i64 0]) (mv := .t [.s (xi 98), .s (.int .i64 0)]) (atB 0) _ (fun r => ⟨[_, _], rfl, ?_, rfl, trivial⟩) (fun w' hw => ?_) K ok
        · show Value.int .i64 z = .int .i64 ((fnB w D (atB 0) (mkF D z U.length U)).rho 98)
          rw [r98]
        · have := size.size_ans hw hc
          rw [hzz] at this
          exact this
    have hR : RigOk Tryz.prog (rigP (lib1 U.length) tabF noLoops) (fnB w D (atB 0) (mkF D z U.length U)) := rig_ok hlib (tabF_ok h _ _) no_loops
    refine ends_calls Tryz.func3 body_some ?_
    refine ends_cutR hR rest_some (twos.start0 h (atB 0) (fits_B (by omega)) _) (fnFx_ok D _ _) (no_loopN f body) (start_rel h (atB 0) (mkF D z U.length U) (nt - 1)) hcut rfl fun r1 a1 w1 hr1 bel hd => ?_
    obtain ⟨u, hu1, hlist⟩ := slot_list hr1 hsl (hu w D) (by omega)
    let D' : FnD := { D with xl := ⟨u, U.map fun n => [Value.int .i64 n]⟩ }
    have h1 : FnOk' w1 v D := h.frz fun k hk => bel.block k hk
    have h' : FnOk' w1 v D' := ⟨h1.eq, h1.pk, h1.locals, h1.lkd, h1.blocks, h1.blk⟩
    have hr' : Right D' := ⟨⟨hr.sm.b, hr.sm.s⟩, hr.l0, hr.okS, hr.okJ, hr.nS, hr.nJ⟩
    have hf := Am.freeze (b2 := fnB w1 D' (atB 0) (mkF D' z U.length U)) (d := ⟨4, 0, 2⟩) (r := r1) (th := th1) (hd := hdT) (s := s1) ⟨fun i hi => xsAt_lt (a := xsHd D) hi, fun i hi => absurd hi (Nat.not_lt_zero i), fun i hi => by
      have : i = 0 ∨ i = 1 := by have hi : i < 2 := hi; omega
      rcases this with rfl | rfl <;> rfl⟩ (fun p hp x hv => by
        obtain rfl := List.mem_singleton.1 hp
        have hv : x = .int .i64 ((fnB w D (atB 0) (mkF D z U.length U)).rho 98) := hv
        show x = .int .i64 ((fnB w1 D' (atB 0) (mkF D' z U.length U)).rho 98)
        rw [hv, r98, r98]) hr1 (Nat.le_refl _) (fun k _ => rfl) hfrz
    obtain ⟨A, c, e⟩ := hlist.sl
    have hrel := rel_upd (fr := hdT.fr) (h := hdT.h) hf hu1 (x := V.s (.rv 2)) ⟨A, _, c, e, e⟩
    have := stage2 h' hr' (s := u) (by show _ = _; rw [show callsF.lits (callsF.vec D') = U from hU]) (by rw [show callsF.lits (callsF.vec D') = U from hU]; exact hlist) (a := a1) (by rw [show callsF.lits (callsF.vec D') = U from hU]; exact hrel) hd bel
    exact this
theorem walk : Calls Tryz.prog f #[v] w fun e w' => e = .returned (.bool true) ∧ Below w.heap.size w w' := by
  cases hg : great.greatF D with
  | true =>
    refine fn_call h run_great (rig_ok (fun K ok => ?_) (tabF_ok h (atB 0) []) no_loops) (twos.start0 h (atB 0) (fits_B (by omega)) _) (fnFx_ok D _ _) (fun p hp => by cases hp) (fun r x hx => hx)
    refine @sound_orcs ((fnB w D (atB 0) []).withK K ok) _ _ fun O hO => ?_
    simp only [List.mem_cons, List.not_mem_nil, or_false] at hO
    rcases hO with rfl | rfl
    · exact row_fnE h ⟨_, Tryz.func4, by kernel_rfl, by kernel_rfl⟩ (u := .bool true) (mv := V.s (.bool true)) (atB 0) _ (fun r => rfl) (fun w' hw => hg ▸ great.great_ans hw) K ok
    · exact sound_alive07 _
  | false =>
    by_cases hc : check.chkF D = 0
    · exact good h hg hc
    · have hv : 1 ≤ check.chkF D ∧ check.chkF D ≤ 1000000 := by
        unfold check.chkF at hc ⊢
        revert hc
        cases many.manyF D <;> cases made.madeF D <;> cases twos.twosF D <;> simp
      have hst : LC.Holds (xsAt (fnXs D (atB 0) ([check.chkF D] ++ []))) (fun _ => []) := (fn_start h (q := atB 0) (fits_B (by omega)) (iv := [twos.iv64]) (m1 := [check.chkF D]) (m2 := []) ⟨in64 (by omega) (by omega), trivial⟩ _).lo (i := 77) (c := 1) (by
        rw [show xsAt (fnXs D (atB 0) ([check.chkF D] ++ [])) 77 = check.chkF D from fn_more (D := D) (q := atB 0) 0]
        exact hv.1)
      refine fn_call h run_bad (rig_ok (fun K ok => ?_) (tabF_ok h (atB 0) ([check.chkF D] ++ [])) no_loops) hst (fnFx_ok D _ _) (fun p hp => by cases hp) (fun r x hx => hx)
      refine @sound_orcs ((fnB w D (atB 0) ([check.chkF D] ++ [])).withK K ok) _ _ fun O hO => ?_
      simp only [List.mem_cons, List.not_mem_nil, or_false] at hO
      rcases hO with rfl | rfl | rfl
      · exact row_fnE h ⟨_, Tryz.func4, by kernel_rfl, by kernel_rfl⟩ (u := .bool false) (mv := V.s (.bool false)) (atB 0) _ (fun r => rfl) (fun w' hw => hg ▸ great.great_ans hw) K ok
      · refine row_fnE h ⟨_, Tryz.func5, by kernel_rfl, by kernel_rfl⟩ (u := .int .i64 (check.chkF D)) (mv := V.s (xi 77)) (atB 0) _ (fun r => ?_) (fun w' hw => refC.check_same hw) K ok
        show Value.int .i64 _ = .int .i64 (xsAt (fnXs D (atB 0) ([check.chkF D] ++ [])) 77)
        rw [show xsAt (fnXs D (atB 0) ([check.chkF D] ++ [])) 77 = check.chkF D from fn_more (D := D) (q := atB 0) 0]
      · exact sound_alive07 _
end
end Go.Proofs.YtbebbbclhgjcbaaGreat.parts
