/- JumpOrder: the law answers true for every jump and every index. -/
import Derived.Test.YtmljjflimiakfaaDoorOrderP
import Derived.Test.YtmljjflimiakfaaDoorTwinA
import Derived.Test.YtmljjflimiakfaaDoorSame
import Derived.Test.YtmljjflimiakfaaDoorAlive6
import Derived.Deep.DeepCutAuto
namespace Go.Proofs.YtmljjflimiakfaaDoor.order
open Go.RowKit Go.Proofs.YtmljjflimiakfaaDoor Go.Proofs.YtmljjflimiakfaaDoor.Am
set_option linter.unusedVariables false
set_option linter.unusedSectionVars false
abbrev tJ : TypeId := 28
abbrev tO : TypeId := 25
def zO : Value := .agg #[.int .u8 0, .int .i64 0, .int .i64 0, .bool false, .int .u8 0]
theorem rowO : (Tryd.prog.info? 25).map (fun i => (i.zero, i.size, i.bytes)) = some (some zO, 5, 32) := by kernel_rfl
theorem run_load_mid {P : Program} {o : Oper} {a : Act} {W : World} (ty : TypeId) (x : Operand) (ho : o.op = .load ty x) (b off : Nat) (hx : a.eval x = .pointer (some ⟨b, off, none⟩)) (cs : List Value) (d : TypeDesc) (hc : W.rangeAt b off cs) (hu : P.underlying ty = some d) (hd : d.isRow = true) (hi : (P.info? ty).map (·.size) = some cs.length) :
    (execOp a.eval o).run P W = .ok (.value (.agg cs.toArray)) W := by
  unfold execOp
  simp only [ho, hx, Instr.loadAt, Instr.sureAddr, Sem.run_bind, Sem.run_pure, Result.andThen_ok, run_loadVar_mid W b off ty cs d hc hu hd hi]
theorem frzJ {w w' : World} {v : Value} {pre : List Value} {sv : Value} {post : List Value} {els : List (List Value)} (hj : JumpIs w v pre sv post els) (hb : Below w.heap.size w w') : JumpIs w' v pre sv post els := by
  refine ⟨hj.v, hj.pre, hj.post, ⟨hj.ops.sl, hj.ops.most, fun i el he => ?_, hj.ops.kd, hj.ops.cap⟩⟩
  obtain ⟨b, off, c, e1, e2⟩ := hj.ops.at_ i el he
  refine ⟨b, off, c, e1, fun f u hf => ?_⟩
  have hcell := e2 f u hf
  rw [← hcell]
  exact World.cell?_of_block (hb.block b (World.block_lt_of_cell? w ⟨b, off + i * 5 + f, none⟩ hcell))
theorem tab_in {w w1 : World} (kt : TabOk w) (hb : Below w.heap.size w w1) : TabOk w1 := kt.all fun b hb' => hb.block b (by have := kt.size; omega)
def Yes (w : World) (e : Ending) (w' : World) : Prop := e = .returned (.bool true) ∧ Below w.heap.size w w'
theorem alive_from {w w1 : World} (kt : TabOk w) (hb : Below w.heap.size w w1) : Calls Tryd.prog 5 #[] w1 (Yes w) := (alive06 w1 (tab_in kt hb)).mono fun e w' ⟨h1, h2⟩ => ⟨h1, hb.trans (h2.mono hb.size)⟩
def Ans (w1 : World) (v : Value) (e : Ending) (w' : World) : Prop := e = .returned v ∧ Below w1.heap.size w1 w'
def AnsL (w1 : World) (l : List Int) (e : Ending) (w' : World) : Prop := ∃ s, e = .returned (.tuple #[s, .int .i64 0]) ∧ sameI.Ints w' s l ∧ Below w1.heap.size w1 w'
theorem check_c {w w1 : World} {v : Value} {pre : List Value} {sv : Value} {post : List Value} {els : List (List Value)} (hj : JumpIs w v pre sv post els) (hb : Below w.heap.size w w1) : Calls Tryd.prog 4 #[v] w1 (Ans w1 (.int .i64 (bif okJ pre els post then 0 else 8))) := jP_tests w1 v pre sv post els (frzJ hj hb)
theorem uses_c {w w1 : World} {v : Value} {pre : List Value} {sv : Value} {post : List Value} {els : List (List Value)} (hj : JumpIs w v pre sv post els) (hok : okJ pre els post = true) (hb : Below w.heap.size w w1) : Calls Tryd.prog 6 #[v] w1 (AnsL w1 (incT (usesJ pre els post))) :=
  (jUsesA w1 v pre sv post els (frzJ hj hb) hok).mono fun e w' ⟨s, h1, h2, h3⟩ => ⟨s, h1, sameI.Ints.new h2, h3⟩
theorem moves_c {w w1 : World} {v : Value} {pre : List Value} {sv : Value} {post : List Value} {els : List (List Value)} (hj : JumpIs w v pre sv post els) (hok : okJ pre els post = true) (hb : Below w.heap.size w w1) : Calls Tryd.prog 7 #[v] w1 (AnsL w1 (incT (movesJ pre els post))) :=
  (jMovesA w1 v pre sv post els (frzJ hj hb) hok).mono fun e w' ⟨s, h1, h2, h3⟩ => ⟨s, h1, sameI.Ints.new h2, h3⟩
theorem pre9 {l : List Value} (h : All2 Kd.ok [.i .u8, .i .u8, .i .i64, .i .i64, .b, .i .u8, .i .i64, .i .i64, .i .i64] l) : ∃ (x0 x1 x2 x3 : Int) (b4 : Bool) (x5 x6 x7 x8 : Int), l = [.int .u8 x0, .int .u8 x1, .int .i64 x2, .int .i64 x3, .bool b4, .int .u8 x5, .int .i64 x6, .int .i64 x7, .int .i64 x8] := by
  obtain ⟨v0, l0, rfl, ⟨x0, rfl, _⟩, q0⟩ := all2_cons' h
  obtain ⟨v1, l1, rfl, ⟨x1, rfl, _⟩, q1⟩ := all2_cons' q0
  obtain ⟨v2, l2, rfl, ⟨x2, rfl, _⟩, q2⟩ := all2_cons' q1
  obtain ⟨v3, l3, rfl, ⟨x3, rfl, _⟩, q3⟩ := all2_cons' q2
  obtain ⟨v4, l4, rfl, ⟨b4, rfl⟩, q4⟩ := all2_cons' q3
  obtain ⟨v5, l5, rfl, ⟨x5, rfl, _⟩, q5⟩ := all2_cons' q4
  obtain ⟨v6, l6, rfl, ⟨x6, rfl, _⟩, q6⟩ := all2_cons' q5
  obtain ⟨v7, l7, rfl, ⟨x7, rfl, _⟩, q7⟩ := all2_cons' q6
  obtain ⟨v8, l8, rfl, ⟨x8, rfl, _⟩, q8⟩ := all2_cons' q7
  obtain rfl := all2_nil' q8
  exact ⟨_, _, _, _, _, _, _, _, _, rfl⟩
theorem post3 {l : List Value} (h : All2 Kd.ok [.i .i64, .b, .i .u8] l) : ∃ (y0 : Int) (y1 : Bool) (y2 : Int), l = [.int .i64 y0, .bool y1, .int .u8 y2] := by
  obtain ⟨v0, l0, rfl, ⟨x0, rfl, _⟩, q0⟩ := all2_cons' h
  obtain ⟨v1, l1, rfl, ⟨b1, rfl⟩, q1⟩ := all2_cons' q0
  obtain ⟨v2, l2, rfl, ⟨x2, rfl, _⟩, q2⟩ := all2_cons' q1
  obtain rfl := all2_nil' q2
  exact ⟨_, _, _, rfl⟩
theorem el5 {l : List Value} (h : All2 Kd.ok [.i .u8, .i .i64, .i .i64, .b, .i .u8] l) : ∃ (x0 x1 x2 : Int) (b3 : Bool) (x4 : Int), l = [.int .u8 x0, .int .i64 x1, .int .i64 x2, .bool b3, .int .u8 x4] := by
  obtain ⟨v0, l0, rfl, ⟨x0, rfl, _⟩, q0⟩ := all2_cons' h
  obtain ⟨v1, l1, rfl, ⟨x1, rfl, _⟩, q1⟩ := all2_cons' q0
  obtain ⟨v2, l2, rfl, ⟨x2, rfl, _⟩, q2⟩ := all2_cons' q1
  obtain ⟨v3, l3, rfl, ⟨b3, rfl⟩, q3⟩ := all2_cons' q2
  obtain ⟨v4, l4, rfl, ⟨x4, rfl, _⟩, q4⟩ := all2_cons' q3
  obtain rfl := all2_nil' q4
  exact ⟨_, _, _, _, _, rfl⟩
theorem one_of {k : Kd} {v : Value} (h : k.ok v) : v.oneCell' = true := by
  cases k with
  | i x => obtain ⟨n, rfl, _⟩ := h; rfl
  | b => obtain ⟨b, rfl⟩ := h; rfl
  | s => obtain ⟨s, rfl, _⟩ := h; rfl
theorem ones {ks : List Kd} {us : List Value} (h : All2 Kd.ok ks us) : ∀ u ∈ us, u.oneCell' = true := fun u hu => by
  obtain ⟨i, hi⟩ := List.getElem?_of_mem hu
  have hl := (List.getElem?_eq_some_iff.1 hi).1
  obtain ⟨k, hk⟩ : ∃ k, ks[i]? = some k := ⟨_, List.getElem?_eq_getElem (by have := h.len; omega)⟩
  obtain ⟨v', hv', ok⟩ := All2.nth h (n := i) (x := k) (by rw [nth_eq]; exact hk)
  rw [hi] at hv'
  cases hv'
  exact one_of ok
/-- parts of a list of operands, where they lie -/
theorem list_drop {w : World} {ab off n c at_ : Nat} {els : List (List Value)} (h : Ops w (.slice (some ⟨ab, off, none⟩) n c) els) (ha : at_ < els.length) : ListAt w (.slice (some ⟨ab, off + at_ * 5, none⟩) (els.length - at_) (c - at_)) 5 (els.drop at_) := by
  obtain ⟨A, c0, e0⟩ := h.sl
  cases e0
  obtain ⟨k1, k2⟩ := h.cap (fun e => by rw [e] at ha; simp at ha) _ _ _ rfl
  refine ⟨⟨_, _, by rw [List.length_drop]⟩, by rw [List.length_drop]; have := h.most; omega, fun i el hi => ?_, fun i el hi => ?_, fun _ A n c e => ?_⟩
  · rw [List.getElem?_drop] at hi
    obtain ⟨b, o, c1, e1, h1⟩ := h.at_ _ el hi
    cases e1
    refine ⟨ab, off + at_ * 5, c - at_, by rw [List.length_drop], fun f u hf => ?_⟩
    have := h1 f u hf
    rw [show off + at_ * 5 + i * 5 + f = off + (at_ + i) * 5 + f by rw [Nat.add_mul]; omega]
    exact this
  · rw [List.getElem?_drop] at hi
    exact (h.kd _ el hi).len.symm.trans rfl
  · cases e
    omega
theorem list_take {w : World} {ab off n c at_ : Nat} {els : List (List Value)} (h : Ops w (.slice (some ⟨ab, off, none⟩) n c) els) (ha : at_ < els.length) : ListAt w (.slice (some ⟨ab, off, none⟩) at_ c) 5 (els.take at_) := by
  obtain ⟨A, c0, e0⟩ := h.sl
  cases e0
  obtain ⟨k1, k2⟩ := h.cap (fun e => by rw [e] at ha; simp at ha) _ _ _ rfl
  have hl : (els.take at_).length = at_ := by rw [List.length_take]; omega
  refine ⟨⟨_, _, by rw [hl]⟩, by rw [hl]; have := h.most; omega, fun i el hi => ?_, fun i el hi => ?_, fun _ A n c e => ?_⟩
  · rw [List.getElem?_take] at hi
    split at hi
    · obtain ⟨b, o, c1, e1, h1⟩ := h.at_ _ el hi
      cases e1
      exact ⟨ab, off, c, by rw [hl], h1⟩
    · cases hi
  · rw [List.getElem?_take] at hi
    split at hi
    · exact (h.kd _ el hi).len.symm.trans rfl
    · cases hi
  · cases e
    omega
theorem ops_of {w : World} {sv : Value} {els : List (List Value)} (h : ListAt w sv 5 els) (hk : ∀ el ∈ els, All2 Kd.ok opK el) : Ops w sv els := ⟨h.sl, h.most, h.at_, fun i el he => hk el (List.mem_of_getElem? he), h.cap⟩
theorem box_cells {w : World} {H : Nat} {t : TypeId} {a0 a1 a2 a3 a4 a5 a6 a7 a8 a9 a10 a11 a12 : Value} (h : w.heap[H]? = some (.cells #[a0, a1, a2, a3, a4, a5, a6, a7, a8, a9, a10, a11, a12] t (0, 0))) : w.cell? ⟨H, 0, none⟩ = some a0 ∧ w.cell? ⟨H, 1, none⟩ = some a1 ∧ w.cell? ⟨H, 2, none⟩ = some a2 ∧ w.cell? ⟨H, 3, none⟩ = some a3 ∧ w.cell? ⟨H, 4, none⟩ = some a4 ∧ w.cell? ⟨H, 5, none⟩ = some a5 ∧ w.cell? ⟨H, 6, none⟩ = some a6 ∧ w.cell? ⟨H, 7, none⟩ = some a7 ∧ w.cell? ⟨H, 8, none⟩ = some a8 ∧ w.cell? ⟨H, 9, none⟩ = some a9 ∧ w.cell? ⟨H, 10, none⟩ = some a10 ∧ w.cell? ⟨H, 11, none⟩ = some a11 ∧ w.cell? ⟨H, 12, none⟩ = some a12 := by
  refine ⟨?_, ?_, ?_, ?_, ?_, ?_, ?_, ?_, ?_, ?_, ?_, ?_, ?_⟩ <;> (rw [cell_of_row w H _ _ t (0, 0) h]; rfl)
set_option maxRecDepth 100000 in
set_option maxHeartbeats 4000000 in
theorem not_any {w : World} {A : Option Addr} {n c : Nat} {x0 x1 x2 x3 : Int} {b4 : Bool} {x5 x6 x7 x8 y0 : Int} {y1 : Bool} {y2 : Int} (kt : TabOk w) (b : Bool) (hC : ∀ w1, Below w.heap.size w w1 → Calls Tryd.prog 4 #[.agg #[.int .u8 x0, .int .u8 x1, .int .i64 x2, .int .i64 x3, .bool b4, .int .u8 x5, .int .i64 x6, .int .i64 x7, .int .i64 x8, .slice A n c, .int .i64 y0, .bool y1, .int .u8 y2]] w1 (Ans w1 (.int .i64 (bif b then 0 else 8)))) (a : Int)
    (hn : ¬ x0 = 4 ∨ (x0 = 4 ∧ (7 < n ∨ (¬ 7 < n ∧ (b = false ∨ (b = true ∧ (a < 0 ∨ (¬ a < 0 ∧ (n : Int) ≤ a)))))))) : Calls Tryd.prog 3 #[.agg #[.int .u8 x0, .int .u8 x1, .int .i64 x2, .int .i64 x3, .bool b4, .int .u8 x5, .int .i64 x6, .int .i64 x7, .int .i64 x8, .slice A n c, .int .i64 y0, .bool y1, .int .u8 y2], .int .i64 a] w (Yes w) := by
  have HC := Lib.hid hC
  clear hC
  rcases hn with h | ⟨rfl, h | ⟨h7, rfl | ⟨rfl, h | ⟨h8, h⟩⟩⟩⟩
  · have h' : (x0 != 4) = true := by simpa using h
    clear HC
    have B0 : (w.alloc (.cells #[.int .u8 x0, .int .u8 x1, .int .i64 x2, .int .i64 x3, .bool b4, .int .u8 x5, .int .i64 x6, .int .i64 x7, .int .i64 x8, .slice A n c, .int .i64 y0, .bool y1, .int .u8 y2] tJ)).heap[w.heap.size]? = some (.cells #[.int .u8 x0, .int .u8 x1, .int .i64 x2, .int .i64 x3, .bool b4, .int .u8 x5, .int .i64 x6, .int .i64 x7, .int .i64 x8, .slice A n c, .int .i64 y0, .bool y1, .int .u8 y2] tJ (0, 0)) := at_alloc rfl
    have b0 : Below w.heap.size w (w.alloc (.cells #[.int .u8 x0, .int .u8 x1, .int .i64 x2, .int .i64 x3, .bool b4, .int .u8 x5, .int .i64 x6, .int .i64 x7, .int .i64 x8, .slice A n c, .int .i64 y0, .bool y1, .int .u8 y2] tJ)) := (Below.refl _ _).alloc (Nat.le_refl _) _
    have ltB : w.heap.size < (w.alloc (.cells #[.int .u8 x0, .int .u8 x1, .int .i64 x2, .int .i64 x3, .bool b4, .int .u8 x5, .int .i64 x6, .int .i64 x7, .int .i64 x8, .slice A n c, .int .i64 y0, .bool y1, .int .u8 y2] tJ)).heap.size := by simp
    go_enter Tryd.func3, Tryd.ntmps3
    go_wp2_with (first | (go_at_call 5; refine (alive_from kt b0).mono ?_; rintro e w9 ⟨rfl, hbE⟩))
    go_ret
    exact ⟨rfl, hbE⟩
  · have h' : (7 : Int) < (n : Int) := by omega
    clear HC
    have B0 : (w.alloc (.cells #[.int .u8 4, .int .u8 x1, .int .i64 x2, .int .i64 x3, .bool b4, .int .u8 x5, .int .i64 x6, .int .i64 x7, .int .i64 x8, .slice A n c, .int .i64 y0, .bool y1, .int .u8 y2] tJ)).heap[w.heap.size]? = some (.cells #[.int .u8 4, .int .u8 x1, .int .i64 x2, .int .i64 x3, .bool b4, .int .u8 x5, .int .i64 x6, .int .i64 x7, .int .i64 x8, .slice A n c, .int .i64 y0, .bool y1, .int .u8 y2] tJ (0, 0)) := at_alloc rfl
    have b0 : Below w.heap.size w (w.alloc (.cells #[.int .u8 4, .int .u8 x1, .int .i64 x2, .int .i64 x3, .bool b4, .int .u8 x5, .int .i64 x6, .int .i64 x7, .int .i64 x8, .slice A n c, .int .i64 y0, .bool y1, .int .u8 y2] tJ)) := (Below.refl _ _).alloc (Nat.le_refl _) _
    have ltB : w.heap.size < (w.alloc (.cells #[.int .u8 4, .int .u8 x1, .int .i64 x2, .int .i64 x3, .bool b4, .int .u8 x5, .int .i64 x6, .int .i64 x7, .int .i64 x8, .slice A n c, .int .i64 y0, .bool y1, .int .u8 y2] tJ)).heap.size := by simp
    go_enter Tryd.func3, Tryd.ntmps3
    go_wp2_with (first | (go_at_call 5; refine (alive_from kt b0).mono ?_; rintro e w9 ⟨rfl, hbE⟩))
    go_ret
    exact ⟨rfl, hbE⟩
  · have h' : ¬ (7 : Int) < (n : Int) := by omega
    have B0 : (w.alloc (.cells #[.int .u8 4, .int .u8 x1, .int .i64 x2, .int .i64 x3, .bool b4, .int .u8 x5, .int .i64 x6, .int .i64 x7, .int .i64 x8, .slice A n c, .int .i64 y0, .bool y1, .int .u8 y2] tJ)).heap[w.heap.size]? = some (.cells #[.int .u8 4, .int .u8 x1, .int .i64 x2, .int .i64 x3, .bool b4, .int .u8 x5, .int .i64 x6, .int .i64 x7, .int .i64 x8, .slice A n c, .int .i64 y0, .bool y1, .int .u8 y2] tJ (0, 0)) := at_alloc rfl
    have b0 : Below w.heap.size w (w.alloc (.cells #[.int .u8 4, .int .u8 x1, .int .i64 x2, .int .i64 x3, .bool b4, .int .u8 x5, .int .i64 x6, .int .i64 x7, .int .i64 x8, .slice A n c, .int .i64 y0, .bool y1, .int .u8 y2] tJ)) := (Below.refl _ _).alloc (Nat.le_refl _) _
    have ltB : w.heap.size < (w.alloc (.cells #[.int .u8 4, .int .u8 x1, .int .i64 x2, .int .i64 x3, .bool b4, .int .u8 x5, .int .i64 x6, .int .i64 x7, .int .i64 x8, .slice A n c, .int .i64 y0, .bool y1, .int .u8 y2] tJ)).heap.size := by simp
    go_enter Tryd.func3, Tryd.ntmps3
    go_wp2_with (first | (go_at_call 4; refine (HC.out _ b0).mono ?_; rintro e w1 ⟨rfl, b1⟩; have b01 := b0.trans (b1.mono b0.size); have B1 := (b1.block _ ltB).trans B0; obtain ⟨z0, z1, z2, z3, z4, z5, z6, z7, z8, z9, z10, z11, z12⟩ := box_cells B1) | (go_at_call 5; refine (alive_from kt b01).mono ?_; rintro e w9 ⟨rfl, hbE⟩))
    go_ret
    exact ⟨rfl, hbE⟩
  · have h' : ¬ (7 : Int) < (n : Int) := by omega
    have B0 : (w.alloc (.cells #[.int .u8 4, .int .u8 x1, .int .i64 x2, .int .i64 x3, .bool b4, .int .u8 x5, .int .i64 x6, .int .i64 x7, .int .i64 x8, .slice A n c, .int .i64 y0, .bool y1, .int .u8 y2] tJ)).heap[w.heap.size]? = some (.cells #[.int .u8 4, .int .u8 x1, .int .i64 x2, .int .i64 x3, .bool b4, .int .u8 x5, .int .i64 x6, .int .i64 x7, .int .i64 x8, .slice A n c, .int .i64 y0, .bool y1, .int .u8 y2] tJ (0, 0)) := at_alloc rfl
    have b0 : Below w.heap.size w (w.alloc (.cells #[.int .u8 4, .int .u8 x1, .int .i64 x2, .int .i64 x3, .bool b4, .int .u8 x5, .int .i64 x6, .int .i64 x7, .int .i64 x8, .slice A n c, .int .i64 y0, .bool y1, .int .u8 y2] tJ)) := (Below.refl _ _).alloc (Nat.le_refl _) _
    have ltB : w.heap.size < (w.alloc (.cells #[.int .u8 4, .int .u8 x1, .int .i64 x2, .int .i64 x3, .bool b4, .int .u8 x5, .int .i64 x6, .int .i64 x7, .int .i64 x8, .slice A n c, .int .i64 y0, .bool y1, .int .u8 y2] tJ)).heap.size := by simp
    go_enter Tryd.func3, Tryd.ntmps3
    go_wp2_with (first | (go_at_call 4; refine (HC.out _ b0).mono ?_; rintro e w1 ⟨rfl, b1⟩; have b01 := b0.trans (b1.mono b0.size); have B1 := (b1.block _ ltB).trans B0; obtain ⟨z0, z1, z2, z3, z4, z5, z6, z7, z8, z9, z10, z11, z12⟩ := box_cells B1) | (go_at_call 5; refine (alive_from kt b01).mono ?_; rintro e w9 ⟨rfl, hbE⟩))
    go_ret
    exact ⟨rfl, hbE⟩
  · have h' : ¬ (7 : Int) < (n : Int) := by omega
    have B0 : (w.alloc (.cells #[.int .u8 4, .int .u8 x1, .int .i64 x2, .int .i64 x3, .bool b4, .int .u8 x5, .int .i64 x6, .int .i64 x7, .int .i64 x8, .slice A n c, .int .i64 y0, .bool y1, .int .u8 y2] tJ)).heap[w.heap.size]? = some (.cells #[.int .u8 4, .int .u8 x1, .int .i64 x2, .int .i64 x3, .bool b4, .int .u8 x5, .int .i64 x6, .int .i64 x7, .int .i64 x8, .slice A n c, .int .i64 y0, .bool y1, .int .u8 y2] tJ (0, 0)) := at_alloc rfl
    have b0 : Below w.heap.size w (w.alloc (.cells #[.int .u8 4, .int .u8 x1, .int .i64 x2, .int .i64 x3, .bool b4, .int .u8 x5, .int .i64 x6, .int .i64 x7, .int .i64 x8, .slice A n c, .int .i64 y0, .bool y1, .int .u8 y2] tJ)) := (Below.refl _ _).alloc (Nat.le_refl _) _
    have ltB : w.heap.size < (w.alloc (.cells #[.int .u8 4, .int .u8 x1, .int .i64 x2, .int .i64 x3, .bool b4, .int .u8 x5, .int .i64 x6, .int .i64 x7, .int .i64 x8, .slice A n c, .int .i64 y0, .bool y1, .int .u8 y2] tJ)).heap.size := by simp
    go_enter Tryd.func3, Tryd.ntmps3
    go_wp2_with (first | (go_at_call 4; refine (HC.out _ b0).mono ?_; rintro e w1 ⟨rfl, b1⟩; have b01 := b0.trans (b1.mono b0.size); have B1 := (b1.block _ ltB).trans B0; obtain ⟨z0, z1, z2, z3, z4, z5, z6, z7, z8, z9, z10, z11, z12⟩ := box_cells B1) | (go_at_call 5; refine (alive_from kt b01).mono ?_; rintro e w9 ⟨rfl, hbE⟩))
    go_ret
    exact ⟨rfl, hbE⟩
/-- the arguments stand in another order, one of them twice, in a row of the call's own -/
def Turned (w W2 : World) (T a : Nat) (els : List (List Value)) (el : List Value) (x1 x2 x3 : Int) (b4 : Bool) (x5 x6 x7 x8 y0 : Int) (y1 : Bool) (y2 : Int) (sv : Value) (wx : World) : Prop :=
  ∃ g cx : Nat, wx.ownsRow W2.heap.size tO 5 (.slice (some ⟨g, 0, none⟩) (els.length + 1) cx) (els.length + 1) (elsX a els ++ [el]).flatten ∧ wx.heap[T]? = some (.cells #[.int .u8 4, .int .u8 x1, .int .i64 x2, .int .i64 x3, .bool b4, .int .u8 x5, .int .i64 x6, .int .i64 x7, .int .i64 x8, .slice (some ⟨g, 0, none⟩) (els.length + 1) cx, .int .i64 y0, .bool y1, .int .u8 y2] tJ (0, 0)) ∧ wx.heap[w.heap.size]? = some (.cells #[.int .u8 4, .int .u8 x1, .int .i64 x2, .int .i64 x3, .bool b4, .int .u8 x5, .int .i64 x6, .int .i64 x7, .int .i64 x8, sv, .int .i64 y0, .bool y1, .int .u8 y2] tJ (0, 0)) ∧ Below w.heap.size w wx
theorem store_turned {w W2 w6 : World} {T a g cx : Nat} {els : List (List Value)} {el : List Value} {x1 x2 x3 : Int} {b4 : Bool} {x5 x6 x7 x8 y0 : Int} {y1 : Bool} {y2 : Int} {sv : Value} (ho : w6.ownsRow W2.heap.size tO 5 (.slice (some ⟨g, 0, none⟩) (els.length + 1) cx) (els.length + 1) (elsX a els ++ [el]).flatten)
    (hT : w6.heap[T]? = some (.cells #[.int .u8 4, .int .u8 x1, .int .i64 x2, .int .i64 x3, .bool b4, .int .u8 x5, .int .i64 x6, .int .i64 x7, .int .i64 x8, sv, .int .i64 y0, .bool y1, .int .u8 y2] tJ (0, 0))) (hB : w6.heap[w.heap.size]? = some (.cells #[.int .u8 4, .int .u8 x1, .int .i64 x2, .int .i64 x3, .bool b4, .int .u8 x5, .int .i64 x6, .int .i64 x7, .int .i64 x8, sv, .int .i64 y0, .bool y1, .int .u8 y2] tJ (0, 0))) (hb : Below w.heap.size w w6) (hTB : ¬ T = w.heap.size) (hz : W2.heap.size ≤ w6.heap.size) (hz2 : w.heap.size ≤ W2.heap.size) (hTw : w.heap.size ≤ T) (hgT : T < W2.heap.size) : Turned w W2 T a els el x1 x2 x3 b4 x5 x6 x7 x8 y0 y1 y2 sv (w6.setCells T 9 [.slice (some ⟨g, 0, none⟩) (els.length + 1) cx]) := by
  letI : Base := (⟨w, [], []⟩ : Env).b
  have hg := (ho.lt g rfl).1
  refine ⟨g, cx, owns_keep ho fun k hk => ?_, setCell_at (o := 9) hT, (setCell_off (fun e => hTB e.symm)).trans hB, hb.setCell (p := ⟨T, 9, none⟩) hTw _⟩
  obtain rfl : g = k := by simpa [blkOf, Value.ownBlock, eq_comm] using hk
  exact setCell_off (by omega)
set_option maxRecDepth 100000 in
set_option maxHeartbeats 4000000 in
theorem main_any {w : World} {ab off c : Nat} {els : List (List Value)} {x1 x2 x3 : Int} {b4 : Bool} {x5 x6 x7 x8 y0 : Int} {y1 : Bool} {y2 : Int} (kt : TabOk w) (hj : JumpIs w (.agg #[.int .u8 4, .int .u8 x1, .int .i64 x2, .int .i64 x3, .bool b4, .int .u8 x5, .int .i64 x6, .int .i64 x7, .int .i64 x8, .slice (some ⟨ab, off, none⟩) els.length c, .int .i64 y0, .bool y1, .int .u8 y2]) [.int .u8 4, .int .u8 x1, .int .i64 x2, .int .i64 x3, .bool b4, .int .u8 x5, .int .i64 x6, .int .i64 x7, .int .i64 x8] (.slice (some ⟨ab, off, none⟩) els.length c) [.int .i64 y0, .bool y1, .int .u8 y2] els) (hok : okJ [.int .u8 4, .int .u8 x1, .int .i64 x2, .int .i64 x3, .bool b4, .int .u8 x5, .int .i64 x6, .int .i64 x7, .int .i64 x8] els [.int .i64 y0, .bool y1, .int .u8 y2] = true) (h7 : ¬ 7 < els.length) (a : Nat) (ha : a < els.length) : Calls Tryd.prog 3 #[.agg #[.int .u8 4, .int .u8 x1, .int .i64 x2, .int .i64 x3, .bool b4, .int .u8 x5, .int .i64 x6, .int .i64 x7, .int .i64 x8, .slice (some ⟨ab, off, none⟩) els.length c, .int .i64 y0, .bool y1, .int .u8 y2], .int .i64 a] w (Yes w) := by
  have hC := fun w1 (hb : Below w.heap.size w w1) => check_c hj hb
  rw [hok] at hC
  have HC := Lib.hid hC
  clear hC
  have HJ := Lib.hid hj
  have HOK := Lib.hid hok
  have hops := hj.ops
  have h4 : cellI [.int .u8 4, .int .u8 x1, .int .i64 x2, .int .i64 x3, .bool b4, .int .u8 x5, .int .i64 x6, .int .i64 x7, .int .i64 x8] 0 = 4 := rfl
  have hcap : els.length ≤ c := (hops.cap (fun e => by rw [e] at ha; simp at ha) _ _ _ rfl).1
  obtain ⟨el, hel⟩ : ∃ el, els[a]? = some el := ⟨_, List.getElem?_eq_getElem ha⟩
  obtain ⟨bb, oo, cc, ee, hcl⟩ := hops.at_ a el hel
  cases ee
  have hmel := List.mem_of_getElem? hel
  have hkd : ∀ el ∈ els, All2 Kd.ok opK el := fun el he => by
    obtain ⟨i, hi⟩ := List.getElem?_of_mem he
    exact hops.kd i el hi
  obtain ⟨e0, e1, e2, e3, e4, rfl⟩ := el5 (hkd el hmel)
  have lab : ab < w.heap.size := World.block_lt_of_cell? w ⟨ab, off + a * 5 + 0, none⟩ (hcl 0 _ rfl)
  have HCL := Lib.hid hcl
  have HOP := Lib.hid hops
  have HME := Lib.hid hmel
  have HKD := Lib.hid hkd
  have H4 := Lib.hid h4
  have HEL := Lib.hid hel
  clear hcl hops hmel hkd h4 hel hj hok
  have h7I : ¬ (7 : Int) < (els.length : Int) := by omega
  have aI : (a : Int) < (els.length : Int) := by omega
  have a0I : (0 : Int) ≤ (a : Int) := Int.natCast_nonneg _
  have a0N : ¬ (a : Int) < 0 := by omega
  have aN : ¬ (els.length : Int) ≤ (a : Int) := by omega
  have capI : (els.length : Int) ≤ (c : Int) := by omega
  have acI : (a : Int) ≤ (c : Int) := by omega
  have hca : ¬ c = a := by omega
  have hd1 : decide ((a : Int) < 0) = false := by simp
  have hd2 : decide (els.length ≤ a) = false := by simpa using ha
  have alI : (a : Int) ≤ (els.length : Int) := by omega
  have B0 : (w.alloc (.cells #[.int .u8 4, .int .u8 x1, .int .i64 x2, .int .i64 x3, .bool b4, .int .u8 x5, .int .i64 x6, .int .i64 x7, .int .i64 x8, .slice (some ⟨ab, off, none⟩) els.length c, .int .i64 y0, .bool y1, .int .u8 y2] tJ)).heap[w.heap.size]? = some (.cells #[.int .u8 4, .int .u8 x1, .int .i64 x2, .int .i64 x3, .bool b4, .int .u8 x5, .int .i64 x6, .int .i64 x7, .int .i64 x8, .slice (some ⟨ab, off, none⟩) els.length c, .int .i64 y0, .bool y1, .int .u8 y2] tJ (0, 0)) := at_alloc rfl
  have b0 : Below w.heap.size w (w.alloc (.cells #[.int .u8 4, .int .u8 x1, .int .i64 x2, .int .i64 x3, .bool b4, .int .u8 x5, .int .i64 x6, .int .i64 x7, .int .i64 x8, .slice (some ⟨ab, off, none⟩) els.length c, .int .i64 y0, .bool y1, .int .u8 y2] tJ)) := (Below.refl _ _).alloc (Nat.le_refl _) _
  have ltB : w.heap.size < (w.alloc (.cells #[.int .u8 4, .int .u8 x1, .int .i64 x2, .int .i64 x3, .bool b4, .int .u8 x5, .int .i64 x6, .int .i64 x7, .int .i64 x8, .slice (some ⟨ab, off, none⟩) els.length c, .int .i64 y0, .bool y1, .int .u8 y2] tJ)).heap.size := by simp
  go_enter Tryd.func3, Tryd.ntmps3
  go_upto_region 4 with (go_at_call 4; refine (HC.out _ b0).mono ?_; rintro e w1 ⟨rfl, b1⟩; have b01 := b0.trans (b1.mono b0.size); have B1 := (b1.block _ ltB).trans B0; obtain ⟨z0, z1, z2, z3, z4, z5, z6, z7, z8, z9, z10, z11, z12⟩ := box_cells B1)
  have B2 := at_more (o := .cells #[.int .u8 4, .int .u8 x1, .int .i64 x2, .int .i64 x3, .bool b4, .int .u8 x5, .int .i64 x6, .int .i64 x7, .int .i64 x8, .slice (some ⟨ab, off, none⟩) els.length c, .int .i64 y0, .bool y1, .int .u8 y2] tJ) B1
  have T2 : (w1.alloc (.cells #[.int .u8 4, .int .u8 x1, .int .i64 x2, .int .i64 x3, .bool b4, .int .u8 x5, .int .i64 x6, .int .i64 x7, .int .i64 x8, .slice (some ⟨ab, off, none⟩) els.length c, .int .i64 y0, .bool y1, .int .u8 y2] tJ)).heap[w1.heap.size]? = some (.cells #[.int .u8 4, .int .u8 x1, .int .i64 x2, .int .i64 x3, .bool b4, .int .u8 x5, .int .i64 x6, .int .i64 x7, .int .i64 x8, .slice (some ⟨ab, off, none⟩) els.length c, .int .i64 y0, .bool y1, .int .u8 y2] tJ (0, 0)) := at_alloc rfl
  have b02 := b01.alloc b01.size (.cells #[.int .u8 4, .int .u8 x1, .int .i64 x2, .int .i64 x3, .bool b4, .int .u8 x5, .int .i64 x6, .int .i64 x7, .int .i64 x8, .slice (some ⟨ab, off, none⟩) els.length c, .int .i64 y0, .bool y1, .int .u8 y2] tJ)
  have ltT : w1.heap.size < (w1.alloc (.cells #[.int .u8 4, .int .u8 x1, .int .i64 x2, .int .i64 x3, .bool b4, .int .u8 x5, .int .i64 x6, .int .i64 x7, .int .i64 x8, .slice (some ⟨ab, off, none⟩) els.length c, .int .i64 y0, .bool y1, .int .u8 y2] tJ)).heap.size := by simp
  have lwT := (Array.getElem?_eq_some_iff.1 B1).1
  generalize w1.alloc (.cells #[.int .u8 4, .int .u8 x1, .int .i64 x2, .int .i64 x3, .bool b4, .int .u8 x5, .int .i64 x6, .int .i64 x7, .int .i64 x8, .slice (some ⟨ab, off, none⟩) els.length c, .int .i64 y0, .bool y1, .int .u8 y2] tJ) = W2 at *
  generalize w1.heap.size = T at *
  have hTB : ¬ T = w.heap.size := by omega
  have hTab : ¬ T = ab := by omega
  have hTw : w.heap.size ≤ T := by omega
  go_cut [] from 41 to 59 (fun wx => Turned w W2 T a els [Value.int .u8 e0, Value.int .i64 e1, Value.int .i64 e2, Value.bool e3, Value.int .u8 e4] x1 x2 x3 b4 x5 x6 x7 x8 y0 y1 y2 (.slice (some ⟨ab, off, none⟩) els.length c) wx)
  case first =>
    have hdl : (els.drop a).length = els.length - a := List.length_drop
    have htl : (els.take a).length = a := by rw [List.length_take]; omega
    have hsum : els.length - a + a = els.length := by omega
    have hfl : (els.drop a).flatten ++ (els.take a).flatten ++ [[Value.int .u8 e0, Value.int .i64 e1, Value.int .i64 e2, Value.bool e3, Value.int .u8 e4]].flatten = (elsX a els ++ [[Value.int .u8 e0, Value.int .i64 e1, Value.int .i64 e2, Value.bool e3, Value.int .u8 e4]]).flatten := by unfold elsX; simp
    have bD : Below W2.heap.size W2 W2.drew := (Below.refl _ _).drew
    have ld : ∀ {W : World}, Below W2.heap.size W2 W → ListAt W (.slice (some ⟨ab, off + a * 5, none⟩) (els.length - a) (c - a)) 5 (els.drop a) := fun hW => (list_drop HOP.out ha).frz (b02.trans (hW.mono b02.size)).block
    have lt : ∀ {W : World}, Below W2.heap.size W2 W → ListAt W (.slice (some ⟨ab, off, none⟩) a c) 5 (els.take a) := fun hW => (list_take HOP.out ha).frz (b02.trans (hW.mono b02.size)).block
    have hkd := HKD.out
    have c9 : W2.drew.cell? ⟨w.heap.size, 9, none⟩ = some (.slice (some ⟨ab, off, none⟩) els.length c) := (box_cells B2).2.2.2.2.2.2.2.2.2.1
    have ce : ∀ f u, [Value.int .u8 e0, Value.int .i64 e1, Value.int .i64 e2, Value.bool e3, Value.int .u8 e4][f]? = some u → W2.drew.cell? ⟨ab, off + a * 5 + f, none⟩ = some u := fun f u hf => (b02.cell (p := ⟨ab, off + a * 5 + f, none⟩) lab).trans (HCL.out f u hf)
    refine region_held [w.heap.size, ab] (by kernel_rfl) ?_
    refine AnyH.take (i := 1) (v := ?_) (by kernel_rfl) rfl (by kernel_rfl) (by kernel_rfl) (fun _ _ _ _ _ h => h) (by rfl) (fun W hW => ?_) ?_
    rotate_left
    focus (have d9 := (hW.cell (by simp) c9); go_simp; with_reducible rfl)
    simp only [Act.put, List.setIfInBounds_toArray, List.set_cons_zero, List.set_cons_succ]
    refine AnyH.take (i := 2) (v := ?_) (by kernel_rfl) rfl (by kernel_rfl) (by kernel_rfl) (fun _ _ _ _ _ h => h) (by rfl) (fun W hW => ?_) ?_
    rotate_left
    focus (have d9 := (hW.cell (by simp) c9); go_simp; with_reducible rfl)
    simp only [Act.put, List.setIfInBounds_toArray, List.set_cons_zero, List.set_cons_succ]
    refine AnyH.take (i := 3) (v := ?_) (by kernel_rfl) rfl (by kernel_rfl) (by kernel_rfl) (fun _ _ _ _ _ h => h) (by rfl) (fun W hW => ?_) ?_
    rotate_left
    focus (have d9 := (hW.cell (by simp) c9); go_simp; with_reducible rfl)
    simp only [Act.put, List.setIfInBounds_toArray, List.set_cons_zero, List.set_cons_succ]
    refine AnyH.take (i := 4) (v := ?_) (by kernel_rfl) rfl (by kernel_rfl) (by kernel_rfl) (fun _ _ _ _ _ h => h) (by rfl) (fun W hW => ?_) ?_
    rotate_left
    focus (have d9 := (hW.cell (by simp) c9); go_simp; with_reducible rfl)
    simp only [Act.put, List.setIfInBounds_toArray, List.set_cons_zero, List.set_cons_succ]
    refine AnyH.take (i := 6) (v := ?_) (by kernel_rfl) rfl (by kernel_rfl) (by kernel_rfl) (fun _ _ _ _ _ h => h) (by rfl) (fun W hW => ?_) ?_
    rotate_left
    focus (have d9 := (hW.cell (by simp) c9); go_simp; with_reducible rfl)
    simp only [Act.put, List.setIfInBounds_toArray, List.set_cons_zero, List.set_cons_succ]
    refine AnyH.take (i := 7) (v := ?_) (by kernel_rfl) rfl (by kernel_rfl) (by kernel_rfl) (fun _ _ _ _ _ h => h) (by rfl) (fun W hW => ?_) ?_
    rotate_left
    focus (have d9 := (hW.cell (by simp) c9); go_simp; with_reducible rfl)
    simp only [Act.put, List.setIfInBounds_toArray, List.set_cons_zero, List.set_cons_succ]
    refine AnyH.take (i := 8) (v := ?_) (by kernel_rfl) rfl (by kernel_rfl) (by kernel_rfl) (fun _ _ _ _ _ h => h) (by rfl) (fun W hW => ?_) ?_
    rotate_left
    focus (have d9 := (hW.cell (by simp) c9); go_simp; with_reducible rfl)
    simp only [Act.put, List.setIfInBounds_toArray, List.set_cons_zero, List.set_cons_succ]
    refine AnyH.take (i := 9) (v := ?_) (by kernel_rfl) rfl (by kernel_rfl) (by kernel_rfl) (fun _ _ _ _ _ h => h) (by rfl) (fun W hW => ?_) ?_
    rotate_left
    focus (have d9 := (hW.cell (by simp) c9); go_simp; with_reducible rfl)
    simp only [Act.put, List.setIfInBounds_toArray, List.set_cons_zero, List.set_cons_succ]
    refine AnyH.take (i := 11) (v := ?_) (by kernel_rfl) rfl (by kernel_rfl) (by kernel_rfl) (fun _ _ _ _ _ h => h) (by rfl) (fun W hW => ?_) ?_
    rotate_left
    focus (have d9 := (hW.cell (by simp) c9); go_simp; with_reducible rfl)
    simp only [Act.put, List.setIfInBounds_toArray, List.set_cons_zero, List.set_cons_succ]
    refine AnyH.take (i := 12) (v := ?_) (by kernel_rfl) rfl (by kernel_rfl) (by kernel_rfl) (fun _ _ _ _ _ h => h) (by rfl) (fun W hW => ?_) ?_
    rotate_left
    focus (have d9 := (hW.cell (by simp) c9); go_simp; with_reducible rfl)
    simp only [Act.put, List.setIfInBounds_toArray, List.set_cons_zero, List.set_cons_succ]
    refine AnyH.take (i := 13) (v := ?_) (by kernel_rfl) rfl (by kernel_rfl) (by kernel_rfl) (fun _ _ _ _ _ h => h) (by rfl) (fun W hW => ?_) ?_
    rotate_left
    focus (have d9 := (hW.cell (by simp) c9); go_simp; with_reducible rfl)
    simp only [Act.put, List.setIfInBounds_toArray, List.set_cons_zero, List.set_cons_succ]
    refine AnyH.take (i := 14) (v := ?_) (by kernel_rfl) rfl (by kernel_rfl) (by kernel_rfl) (fun _ _ _ _ _ h => h) (by rfl) (fun W hW => ?_) ?_
    rotate_left
    focus (have d9 := (hW.cell (by simp) c9); go_simp; with_reducible rfl)
    simp only [Act.put, List.setIfInBounds_toArray, List.set_cons_zero, List.set_cons_succ]
    refine AnyH.take (i := 15) (v := .agg #[Value.int .u8 e0, Value.int .i64 e1, Value.int .i64 e2, Value.bool e3, Value.int .u8 e4]) (by kernel_rfl) rfl (by kernel_rfl) (by kernel_rfl) (fun _ _ _ _ _ h => h) (by rfl) (fun W hW => ?_) ?_
    · exact run_load_mid _ _ rfl ab (off + a * 5) rfl [Value.int .u8 e0, Value.int .i64 e1, Value.int .i64 e2, Value.bool e3, Value.int .u8 e4] _ (fun f u hf => hW.cell (by simp) (ce f u hf)) Tryd.underlying25 rfl (by kernel_rfl)
    simp only [Act.put, List.setIfInBounds_toArray, List.set_cons_zero, List.set_cons_succ]
    clear c9 ce
    refine AnyH.all (rs := [0, 16]) (by kernel_rfl) rfl (fun i hi => ?_)
    simp only [List.mem_cons, List.not_mem_nil, or_false] at hi
    rcases hi with rfl | rfl
    · refine hNew (by rfl) (by rfl) (fun H => .slice (some ⟨H, 0, none⟩) 0 0) #[] tO (by go_simp) fun R u1w eR hR k_u1w c_u1w s_u1w => ?_
      simp only [Act.put, List.setIfInBounds_toArray, List.set_cons_zero, List.set_cons_succ]
      have z_u1w : W2.heap.size ≤ W2.drew.heap.size := bD.size
      have b_u1w := bD.trans (c_u1w.mono z_u1w)
      have o_u1w : u1w.ownsRow W2.heap.size tO 5 (.slice (some ⟨R, 0, none⟩) 0 0) 0 [] := owns_zero hR (by omega)
      have hRi : W2.heap.size ≤ R := by omega
      have t_u1w := k_u1w _ _ (by simp) T2
      have q_u1w := k_u1w _ _ (by simp) B2
      refine AnyH.all (rs := [5, 16]) (by kernel_rfl) rfl (fun i hi => ?_)
      simp only [List.mem_cons, List.not_mem_nil, or_false] at hi
      rcases hi with rfl | rfl
      · refine hApp (by rfl) (by rfl) _ _ W2.heap.size _ tO zO 5 32 (by rfl) Tryd.underlying26 rowO (by rfl) (by omega) (by rfl) o_u1w (by rfl) (ld b_u1w) (fun el he => ones (hkd el (List.mem_of_mem_drop he))) (by simp; try omega) (by omega) b_u1w.size (.inl (by simp [Value.ownBlock])) (fun k hk => by have := hRi; simp only [List.mem_cons, List.not_mem_nil, or_false] at hk; simp [Value.ownBlock]; omega) fun g_u2w c_u2w u2w o_u2w k_u2w d_u2w s_u2w a_u2w l_u2w => ?_
        simp only [Act.put, List.setIfInBounds_toArray, List.set_cons_zero, List.set_cons_succ, Nat.zero_add, hdl]
        rw [Nat.zero_add, hdl, List.nil_append] at o_u2w
        have b_u2w := b_u1w.trans d_u2w
        have r_u2w : W2.heap.size ≤ g_u2w := (o_u2w.lt g_u2w rfl).1
        have t_u2w := k_u2w _ _ (by have := hRi; simp [Value.ownBlock]; omega) t_u1w
        have q_u2w := k_u2w _ _ (by have := hRi; simp [Value.ownBlock]; omega) q_u1w
        refine AnyH.all (rs := [10, 16]) (by kernel_rfl) rfl (fun i hi => ?_)
        simp only [List.mem_cons, List.not_mem_nil, or_false] at hi
        rcases hi with rfl | rfl
        · refine hApp (by rfl) (by rfl) _ _ W2.heap.size _ tO zO 5 32 (by rfl) Tryd.underlying26 rowO (by rfl) (by omega) (by rfl) o_u2w (by rfl) (lt b_u2w) (fun el he => ones (hkd el (List.mem_of_mem_take he))) (by simp; try omega) (by omega) b_u2w.size (.inl (by simp [Value.ownBlock])) (fun k hk => by have := r_u2w; simp only [List.mem_cons, List.not_mem_nil, or_false] at hk; simp [Value.ownBlock]; omega) fun g_u3w c_u3w u3w o_u3w k_u3w d_u3w s_u3w a_u3w l_u3w => ?_
          simp only [Act.put, List.setIfInBounds_toArray, List.set_cons_zero, List.set_cons_succ, htl, hsum]
          rw [htl, hsum] at o_u3w
          have b_u3w := b_u2w.trans d_u3w
          have r_u3w : W2.heap.size ≤ g_u3w := (o_u3w.lt g_u3w rfl).1
          have t_u3w := k_u3w _ _ (by have := r_u2w; simp [Value.ownBlock]; omega) t_u2w
          have q_u3w := k_u3w _ _ (by have := r_u2w; simp [Value.ownBlock]; omega) q_u2w
          refine AnyH.all (rs := [16]) (by kernel_rfl) rfl (fun i hi => ?_)
          obtain rfl := List.mem_singleton.1 hi
          refine hNew (by rfl) (by rfl) (fun H => .slice (some ⟨H, 0, none⟩) 1 1) #[Value.int .u8 e0, Value.int .i64 e1, Value.int .i64 e2, Value.bool e3, Value.int .u8 e4] tO (by go_simp) fun HE u4w eE hE k_u4w c_u4w s_u4w => ?_
          simp only [Act.put, List.setIfInBounds_toArray, List.set_cons_zero, List.set_cons_succ]
          have z_u4w : W2.heap.size ≤ u3w.heap.size := b_u3w.size
          have b_u4w := b_u3w.trans (c_u4w.mono z_u4w)
          have o_u4w := k_u4w.owns o_u3w (fun _ _ => by simp)
          have nE_u4w : HE ≠ g_u3w := by have := (o_u3w.lt g_u3w rfl).2; omega
          have t_u4w := k_u4w _ _ (by simp) t_u3w
          have q_u4w := k_u4w _ _ (by simp) q_u3w
          refine AnyH.all (rs := [17]) (by kernel_rfl) rfl (fun i hi => ?_)
          obtain rfl := List.mem_singleton.1 hi
          refine hApp (by rfl) (by rfl) _ _ W2.heap.size _ tO zO 5 32 (by rfl) Tryd.underlying26 rowO (by rfl) (by omega) (by rfl) o_u4w (by rfl) (ListAt.of_block hE (by rfl) ⟨Nat.le_refl _, by unfold maxLen; omega⟩) (by simp [Value.oneCell']) (by simp; try omega) (by omega) b_u4w.size (.inl (by simp [Value.ownBlock])) (fun k hk => by have := r_u3w; simp only [List.mem_cons, List.not_mem_nil, or_false] at hk; simp [Value.ownBlock]; omega) fun g_u5w c_u5w u5w o_u5w k_u5w d_u5w s_u5w a_u5w l_u5w => ?_
          simp only [Act.put, List.setIfInBounds_toArray, List.set_cons_zero, List.set_cons_succ, List.length_singleton]
          rw [List.length_singleton, hfl] at o_u5w
          have b_u5w := b_u4w.trans d_u5w
          have r_u5w : W2.heap.size ≤ g_u5w := (o_u5w.lt g_u5w rfl).1
          have t_u5w := k_u5w _ _ (by have := r_u3w; simp [Value.ownBlock]; omega) t_u4w
          have q_u5w := k_u5w _ _ (by have := r_u3w; simp [Value.ownBlock]; omega) q_u4w
          refine AnyH.take (i := 18) (v := ?_) (by kernel_rfl) rfl (by kernel_rfl) (by kernel_rfl) (fun _ _ _ _ _ h => h) (by rfl) (fun W hW => ?_) ?_
          rotate_left
          focus (go_simp; with_reducible rfl)
          simp only [Act.put, List.setIfInBounds_toArray, List.set_cons_zero, List.set_cons_succ]
          refine AnyH.all (rs := [19]) (by kernel_rfl) rfl (fun i hi => ?_)
          obtain rfl := List.mem_singleton.1 hi
          refine hStore (by rfl) (by rfl) _ _ _ (by rfl) T 9 (.slice (some ⟨g_u5w, 0, none⟩) (els.length + 1) c_u5w) #[.slice (some ⟨g_u5w, 0, none⟩) (els.length + 1) c_u5w] (by rfl) (by rfl) rfl t_u5w (by simp) (by kernel_rfl) (by simp [Value.oneCell']) (by simp; exact ⟨hTB, hTab⟩) ?_
          simp only [Act.put]
          have F := Lib.hid (store_turned (els := els) (el := [Value.int .u8 e0, Value.int .i64 e1, Value.int .i64 e2, Value.bool e3, Value.int .u8 e4]) (a := a) (sv := .slice (some ⟨ab, off, none⟩) els.length c) o_u5w t_u5w q_u5w (b02.trans (b_u5w.mono b02.size)) hTB b_u5w.size b02.size hTw ltT)
          refine AnyH.done (by kernel_rfl) ?_
          clear eR s_u1w a_u2w s_u2w a_u3w s_u3w eE s_u4w a_u5w s_u5w
          go_wp2_with fail
          go_meet
          exact F.out
        · refine hNew (by rfl) (by rfl) (fun H => .slice (some ⟨H, 0, none⟩) 1 1) #[Value.int .u8 e0, Value.int .i64 e1, Value.int .i64 e2, Value.bool e3, Value.int .u8 e4] tO (by go_simp) fun HE u6w eE hE k_u6w c_u6w s_u6w => ?_
          simp only [Act.put, List.setIfInBounds_toArray, List.set_cons_zero, List.set_cons_succ]
          have z_u6w : W2.heap.size ≤ u2w.heap.size := b_u2w.size
          have b_u6w := b_u2w.trans (c_u6w.mono z_u6w)
          have o_u6w := k_u6w.owns o_u2w (fun _ _ => by simp)
          have nE_u6w : HE ≠ g_u2w := by have := (o_u2w.lt g_u2w rfl).2; omega
          have t_u6w := k_u6w _ _ (by simp) t_u2w
          have q_u6w := k_u6w _ _ (by simp) q_u2w
          refine AnyH.all (rs := [10]) (by kernel_rfl) rfl (fun i hi => ?_)
          obtain rfl := List.mem_singleton.1 hi
          refine hApp (by rfl) (by rfl) _ _ W2.heap.size _ tO zO 5 32 (by rfl) Tryd.underlying26 rowO (by rfl) (by omega) (by rfl) o_u6w (by rfl) (lt b_u6w) (fun el he => ones (hkd el (List.mem_of_mem_take he))) (by simp; try omega) (by omega) b_u6w.size (.inl (by simp [Value.ownBlock])) (fun k hk => by have := r_u2w; simp only [List.mem_cons, List.not_mem_nil, or_false] at hk; simp [Value.ownBlock]; omega) fun g_u7w c_u7w u7w o_u7w k_u7w d_u7w s_u7w a_u7w l_u7w => ?_
          simp only [Act.put, List.setIfInBounds_toArray, List.set_cons_zero, List.set_cons_succ, htl, hsum]
          rw [htl, hsum] at o_u7w
          have b_u7w := b_u6w.trans d_u7w
          have r_u7w : W2.heap.size ≤ g_u7w := (o_u7w.lt g_u7w rfl).1
          have e_u7w := k_u7w _ _ (by simp [Value.ownBlock]; exact nE_u6w) hE
          have nE_u7w : HE ≠ g_u7w := by have := (Array.getElem?_eq_some_iff.1 hE).1; rcases a_u7w with h | h; exact fun e => nE_u6w (e.trans (Option.some.inj h).symm); omega
          have t_u7w := k_u7w _ _ (by have := r_u2w; simp [Value.ownBlock]; omega) t_u6w
          have q_u7w := k_u7w _ _ (by have := r_u2w; simp [Value.ownBlock]; omega) q_u6w
          refine AnyH.all (rs := [17]) (by kernel_rfl) rfl (fun i hi => ?_)
          obtain rfl := List.mem_singleton.1 hi
          refine hApp (by rfl) (by rfl) _ _ W2.heap.size _ tO zO 5 32 (by rfl) Tryd.underlying26 rowO (by rfl) (by omega) (by rfl) o_u7w (by rfl) (ListAt.of_block e_u7w (by rfl) ⟨Nat.le_refl _, by unfold maxLen; omega⟩) (by simp [Value.oneCell']) (by simp; try omega) (by omega) b_u7w.size (.inl (by simp [Value.ownBlock])) (fun k hk => by have := r_u7w; simp only [List.mem_cons, List.not_mem_nil, or_false] at hk; simp [Value.ownBlock]; omega) fun g_u8w c_u8w u8w o_u8w k_u8w d_u8w s_u8w a_u8w l_u8w => ?_
          simp only [Act.put, List.setIfInBounds_toArray, List.set_cons_zero, List.set_cons_succ, List.length_singleton]
          rw [List.length_singleton, hfl] at o_u8w
          have b_u8w := b_u7w.trans d_u8w
          have r_u8w : W2.heap.size ≤ g_u8w := (o_u8w.lt g_u8w rfl).1
          have t_u8w := k_u8w _ _ (by have := r_u7w; simp [Value.ownBlock]; omega) t_u7w
          have q_u8w := k_u8w _ _ (by have := r_u7w; simp [Value.ownBlock]; omega) q_u7w
          refine AnyH.take (i := 18) (v := ?_) (by kernel_rfl) rfl (by kernel_rfl) (by kernel_rfl) (fun _ _ _ _ _ h => h) (by rfl) (fun W hW => ?_) ?_
          rotate_left
          focus (go_simp; with_reducible rfl)
          simp only [Act.put, List.setIfInBounds_toArray, List.set_cons_zero, List.set_cons_succ]
          refine AnyH.all (rs := [19]) (by kernel_rfl) rfl (fun i hi => ?_)
          obtain rfl := List.mem_singleton.1 hi
          refine hStore (by rfl) (by rfl) _ _ _ (by rfl) T 9 (.slice (some ⟨g_u8w, 0, none⟩) (els.length + 1) c_u8w) #[.slice (some ⟨g_u8w, 0, none⟩) (els.length + 1) c_u8w] (by rfl) (by rfl) rfl t_u8w (by simp) (by kernel_rfl) (by simp [Value.oneCell']) (by simp; exact ⟨hTB, hTab⟩) ?_
          simp only [Act.put]
          have F := Lib.hid (store_turned (els := els) (el := [Value.int .u8 e0, Value.int .i64 e1, Value.int .i64 e2, Value.bool e3, Value.int .u8 e4]) (a := a) (sv := .slice (some ⟨ab, off, none⟩) els.length c) o_u8w t_u8w q_u8w (b02.trans (b_u8w.mono b02.size)) hTB b_u8w.size b02.size hTw ltT)
          refine AnyH.done (by kernel_rfl) ?_
          clear eR s_u1w a_u2w s_u2w eE s_u6w a_u7w s_u7w a_u8w s_u8w
          go_wp2_with fail
          go_meet
          exact F.out
      · refine hNew (by rfl) (by rfl) (fun H => .slice (some ⟨H, 0, none⟩) 1 1) #[Value.int .u8 e0, Value.int .i64 e1, Value.int .i64 e2, Value.bool e3, Value.int .u8 e4] tO (by go_simp) fun HE u9w eE hE k_u9w c_u9w s_u9w => ?_
        simp only [Act.put, List.setIfInBounds_toArray, List.set_cons_zero, List.set_cons_succ]
        have z_u9w : W2.heap.size ≤ u1w.heap.size := b_u1w.size
        have b_u9w := b_u1w.trans (c_u9w.mono z_u9w)
        have o_u9w := k_u9w.owns o_u1w (fun _ _ => by simp)
        have nE_u9w : HE ≠ R := by have := (o_u1w.lt R rfl).2; omega
        have t_u9w := k_u9w _ _ (by simp) t_u1w
        have q_u9w := k_u9w _ _ (by simp) q_u1w
        refine AnyH.all (rs := [5]) (by kernel_rfl) rfl (fun i hi => ?_)
        obtain rfl := List.mem_singleton.1 hi
        refine hApp (by rfl) (by rfl) _ _ W2.heap.size _ tO zO 5 32 (by rfl) Tryd.underlying26 rowO (by rfl) (by omega) (by rfl) o_u9w (by rfl) (ld b_u9w) (fun el he => ones (hkd el (List.mem_of_mem_drop he))) (by simp; try omega) (by omega) b_u9w.size (.inl (by simp [Value.ownBlock])) (fun k hk => by have := hRi; simp only [List.mem_cons, List.not_mem_nil, or_false] at hk; simp [Value.ownBlock]; omega) fun g_u10w c_u10w u10w o_u10w k_u10w d_u10w s_u10w a_u10w l_u10w => ?_
        simp only [Act.put, List.setIfInBounds_toArray, List.set_cons_zero, List.set_cons_succ, Nat.zero_add, hdl]
        rw [Nat.zero_add, hdl, List.nil_append] at o_u10w
        have b_u10w := b_u9w.trans d_u10w
        have r_u10w : W2.heap.size ≤ g_u10w := (o_u10w.lt g_u10w rfl).1
        have e_u10w := k_u10w _ _ (by simp [Value.ownBlock]; exact nE_u9w) hE
        have nE_u10w : HE ≠ g_u10w := by have := (Array.getElem?_eq_some_iff.1 hE).1; rcases a_u10w with h | h; exact fun e => nE_u9w (e.trans (Option.some.inj h).symm); omega
        have t_u10w := k_u10w _ _ (by have := hRi; simp [Value.ownBlock]; omega) t_u9w
        have q_u10w := k_u10w _ _ (by have := hRi; simp [Value.ownBlock]; omega) q_u9w
        refine AnyH.all (rs := [10]) (by kernel_rfl) rfl (fun i hi => ?_)
        obtain rfl := List.mem_singleton.1 hi
        refine hApp (by rfl) (by rfl) _ _ W2.heap.size _ tO zO 5 32 (by rfl) Tryd.underlying26 rowO (by rfl) (by omega) (by rfl) o_u10w (by rfl) (lt b_u10w) (fun el he => ones (hkd el (List.mem_of_mem_take he))) (by simp; try omega) (by omega) b_u10w.size (.inl (by simp [Value.ownBlock])) (fun k hk => by have := r_u10w; simp only [List.mem_cons, List.not_mem_nil, or_false] at hk; simp [Value.ownBlock]; omega) fun g_u11w c_u11w u11w o_u11w k_u11w d_u11w s_u11w a_u11w l_u11w => ?_
        simp only [Act.put, List.setIfInBounds_toArray, List.set_cons_zero, List.set_cons_succ, htl, hsum]
        rw [htl, hsum] at o_u11w
        have b_u11w := b_u10w.trans d_u11w
        have r_u11w : W2.heap.size ≤ g_u11w := (o_u11w.lt g_u11w rfl).1
        have e_u11w := k_u11w _ _ (by simp [Value.ownBlock]; exact nE_u10w) e_u10w
        have nE_u11w : HE ≠ g_u11w := by have := (Array.getElem?_eq_some_iff.1 e_u10w).1; rcases a_u11w with h | h; exact fun e => nE_u10w (e.trans (Option.some.inj h).symm); omega
        have t_u11w := k_u11w _ _ (by have := r_u10w; simp [Value.ownBlock]; omega) t_u10w
        have q_u11w := k_u11w _ _ (by have := r_u10w; simp [Value.ownBlock]; omega) q_u10w
        refine AnyH.all (rs := [17]) (by kernel_rfl) rfl (fun i hi => ?_)
        obtain rfl := List.mem_singleton.1 hi
        refine hApp (by rfl) (by rfl) _ _ W2.heap.size _ tO zO 5 32 (by rfl) Tryd.underlying26 rowO (by rfl) (by omega) (by rfl) o_u11w (by rfl) (ListAt.of_block e_u11w (by rfl) ⟨Nat.le_refl _, by unfold maxLen; omega⟩) (by simp [Value.oneCell']) (by simp; try omega) (by omega) b_u11w.size (.inl (by simp [Value.ownBlock])) (fun k hk => by have := r_u11w; simp only [List.mem_cons, List.not_mem_nil, or_false] at hk; simp [Value.ownBlock]; omega) fun g_u12w c_u12w u12w o_u12w k_u12w d_u12w s_u12w a_u12w l_u12w => ?_
        simp only [Act.put, List.setIfInBounds_toArray, List.set_cons_zero, List.set_cons_succ, List.length_singleton]
        rw [List.length_singleton, hfl] at o_u12w
        have b_u12w := b_u11w.trans d_u12w
        have r_u12w : W2.heap.size ≤ g_u12w := (o_u12w.lt g_u12w rfl).1
        have t_u12w := k_u12w _ _ (by have := r_u11w; simp [Value.ownBlock]; omega) t_u11w
        have q_u12w := k_u12w _ _ (by have := r_u11w; simp [Value.ownBlock]; omega) q_u11w
        refine AnyH.take (i := 18) (v := ?_) (by kernel_rfl) rfl (by kernel_rfl) (by kernel_rfl) (fun _ _ _ _ _ h => h) (by rfl) (fun W hW => ?_) ?_
        rotate_left
        focus (go_simp; with_reducible rfl)
        simp only [Act.put, List.setIfInBounds_toArray, List.set_cons_zero, List.set_cons_succ]
        refine AnyH.all (rs := [19]) (by kernel_rfl) rfl (fun i hi => ?_)
        obtain rfl := List.mem_singleton.1 hi
        refine hStore (by rfl) (by rfl) _ _ _ (by rfl) T 9 (.slice (some ⟨g_u12w, 0, none⟩) (els.length + 1) c_u12w) #[.slice (some ⟨g_u12w, 0, none⟩) (els.length + 1) c_u12w] (by rfl) (by rfl) rfl t_u12w (by simp) (by kernel_rfl) (by simp [Value.oneCell']) (by simp; exact ⟨hTB, hTab⟩) ?_
        simp only [Act.put]
        have F := Lib.hid (store_turned (els := els) (el := [Value.int .u8 e0, Value.int .i64 e1, Value.int .i64 e2, Value.bool e3, Value.int .u8 e4]) (a := a) (sv := .slice (some ⟨ab, off, none⟩) els.length c) o_u12w t_u12w q_u12w (b02.trans (b_u12w.mono b02.size)) hTB b_u12w.size b02.size hTw ltT)
        refine AnyH.done (by kernel_rfl) ?_
        clear eR s_u1w eE s_u9w a_u10w s_u10w a_u11w s_u11w a_u12w s_u12w
        go_wp2_with fail
        go_meet
        exact F.out
    · refine hNew (by rfl) (by rfl) (fun H => .slice (some ⟨H, 0, none⟩) 1 1) #[Value.int .u8 e0, Value.int .i64 e1, Value.int .i64 e2, Value.bool e3, Value.int .u8 e4] tO (by go_simp) fun HE u13w eE hE k_u13w c_u13w s_u13w => ?_
      simp only [Act.put, List.setIfInBounds_toArray, List.set_cons_zero, List.set_cons_succ]
      have z_u13w : W2.heap.size ≤ W2.drew.heap.size := bD.size
      have b_u13w := bD.trans (c_u13w.mono z_u13w)
      have t_u13w := k_u13w _ _ (by simp) T2
      have q_u13w := k_u13w _ _ (by simp) B2
      refine AnyH.all (rs := [0]) (by kernel_rfl) rfl (fun i hi => ?_)
      obtain rfl := List.mem_singleton.1 hi
      refine hNew (by rfl) (by rfl) (fun H => .slice (some ⟨H, 0, none⟩) 0 0) #[] tO (by go_simp) fun R u14w eR hR k_u14w c_u14w s_u14w => ?_
      simp only [Act.put, List.setIfInBounds_toArray, List.set_cons_zero, List.set_cons_succ]
      have z_u14w : W2.heap.size ≤ u13w.heap.size := b_u13w.size
      have b_u14w := b_u13w.trans (c_u14w.mono z_u14w)
      have o_u14w : u14w.ownsRow W2.heap.size tO 5 (.slice (some ⟨R, 0, none⟩) 0 0) 0 [] := owns_zero hR (by omega)
      have hRi : W2.heap.size ≤ R := by omega
      have nE_u14w : HE ≠ R := by have := (Array.getElem?_eq_some_iff.1 hE).1; omega
      have e_u14w := k_u14w _ _ (by simp) hE
      have t_u14w := k_u14w _ _ (by simp) t_u13w
      have q_u14w := k_u14w _ _ (by simp) q_u13w
      refine AnyH.all (rs := [5]) (by kernel_rfl) rfl (fun i hi => ?_)
      obtain rfl := List.mem_singleton.1 hi
      refine hApp (by rfl) (by rfl) _ _ W2.heap.size _ tO zO 5 32 (by rfl) Tryd.underlying26 rowO (by rfl) (by omega) (by rfl) o_u14w (by rfl) (ld b_u14w) (fun el he => ones (hkd el (List.mem_of_mem_drop he))) (by simp; try omega) (by omega) b_u14w.size (.inl (by simp [Value.ownBlock])) (fun k hk => by have := hRi; simp only [List.mem_cons, List.not_mem_nil, or_false] at hk; simp [Value.ownBlock]; omega) fun g_u15w c_u15w u15w o_u15w k_u15w d_u15w s_u15w a_u15w l_u15w => ?_
      simp only [Act.put, List.setIfInBounds_toArray, List.set_cons_zero, List.set_cons_succ, Nat.zero_add, hdl]
      rw [Nat.zero_add, hdl, List.nil_append] at o_u15w
      have b_u15w := b_u14w.trans d_u15w
      have r_u15w : W2.heap.size ≤ g_u15w := (o_u15w.lt g_u15w rfl).1
      have e_u15w := k_u15w _ _ (by simp [Value.ownBlock]; exact nE_u14w) e_u14w
      have nE_u15w : HE ≠ g_u15w := by have := (Array.getElem?_eq_some_iff.1 e_u14w).1; rcases a_u15w with h | h; exact fun e => nE_u14w (e.trans (Option.some.inj h).symm); omega
      have t_u15w := k_u15w _ _ (by have := hRi; simp [Value.ownBlock]; omega) t_u14w
      have q_u15w := k_u15w _ _ (by have := hRi; simp [Value.ownBlock]; omega) q_u14w
      refine AnyH.all (rs := [10]) (by kernel_rfl) rfl (fun i hi => ?_)
      obtain rfl := List.mem_singleton.1 hi
      refine hApp (by rfl) (by rfl) _ _ W2.heap.size _ tO zO 5 32 (by rfl) Tryd.underlying26 rowO (by rfl) (by omega) (by rfl) o_u15w (by rfl) (lt b_u15w) (fun el he => ones (hkd el (List.mem_of_mem_take he))) (by simp; try omega) (by omega) b_u15w.size (.inl (by simp [Value.ownBlock])) (fun k hk => by have := r_u15w; simp only [List.mem_cons, List.not_mem_nil, or_false] at hk; simp [Value.ownBlock]; omega) fun g_u16w c_u16w u16w o_u16w k_u16w d_u16w s_u16w a_u16w l_u16w => ?_
      simp only [Act.put, List.setIfInBounds_toArray, List.set_cons_zero, List.set_cons_succ, htl, hsum]
      rw [htl, hsum] at o_u16w
      have b_u16w := b_u15w.trans d_u16w
      have r_u16w : W2.heap.size ≤ g_u16w := (o_u16w.lt g_u16w rfl).1
      have e_u16w := k_u16w _ _ (by simp [Value.ownBlock]; exact nE_u15w) e_u15w
      have nE_u16w : HE ≠ g_u16w := by have := (Array.getElem?_eq_some_iff.1 e_u15w).1; rcases a_u16w with h | h; exact fun e => nE_u15w (e.trans (Option.some.inj h).symm); omega
      have t_u16w := k_u16w _ _ (by have := r_u15w; simp [Value.ownBlock]; omega) t_u15w
      have q_u16w := k_u16w _ _ (by have := r_u15w; simp [Value.ownBlock]; omega) q_u15w
      refine AnyH.all (rs := [17]) (by kernel_rfl) rfl (fun i hi => ?_)
      obtain rfl := List.mem_singleton.1 hi
      refine hApp (by rfl) (by rfl) _ _ W2.heap.size _ tO zO 5 32 (by rfl) Tryd.underlying26 rowO (by rfl) (by omega) (by rfl) o_u16w (by rfl) (ListAt.of_block e_u16w (by rfl) ⟨Nat.le_refl _, by unfold maxLen; omega⟩) (by simp [Value.oneCell']) (by simp; try omega) (by omega) b_u16w.size (.inl (by simp [Value.ownBlock])) (fun k hk => by have := r_u16w; simp only [List.mem_cons, List.not_mem_nil, or_false] at hk; simp [Value.ownBlock]; omega) fun g_u17w c_u17w u17w o_u17w k_u17w d_u17w s_u17w a_u17w l_u17w => ?_
      simp only [Act.put, List.setIfInBounds_toArray, List.set_cons_zero, List.set_cons_succ, List.length_singleton]
      rw [List.length_singleton, hfl] at o_u17w
      have b_u17w := b_u16w.trans d_u17w
      have r_u17w : W2.heap.size ≤ g_u17w := (o_u17w.lt g_u17w rfl).1
      have t_u17w := k_u17w _ _ (by have := r_u16w; simp [Value.ownBlock]; omega) t_u16w
      have q_u17w := k_u17w _ _ (by have := r_u16w; simp [Value.ownBlock]; omega) q_u16w
      refine AnyH.take (i := 18) (v := ?_) (by kernel_rfl) rfl (by kernel_rfl) (by kernel_rfl) (fun _ _ _ _ _ h => h) (by rfl) (fun W hW => ?_) ?_
      rotate_left
      focus (go_simp; with_reducible rfl)
      simp only [Act.put, List.setIfInBounds_toArray, List.set_cons_zero, List.set_cons_succ]
      refine AnyH.all (rs := [19]) (by kernel_rfl) rfl (fun i hi => ?_)
      obtain rfl := List.mem_singleton.1 hi
      refine hStore (by rfl) (by rfl) _ _ _ (by rfl) T 9 (.slice (some ⟨g_u17w, 0, none⟩) (els.length + 1) c_u17w) #[.slice (some ⟨g_u17w, 0, none⟩) (els.length + 1) c_u17w] (by rfl) (by rfl) rfl t_u17w (by simp) (by kernel_rfl) (by simp [Value.oneCell']) (by simp; exact ⟨hTB, hTab⟩) ?_
      simp only [Act.put]
      have F := Lib.hid (store_turned (els := els) (el := [Value.int .u8 e0, Value.int .i64 e1, Value.int .i64 e2, Value.bool e3, Value.int .u8 e4]) (a := a) (sv := .slice (some ⟨ab, off, none⟩) els.length c) o_u17w t_u17w q_u17w (b02.trans (b_u17w.mono b02.size)) hTB b_u17w.size b02.size hTw ltT)
      refine AnyH.done (by kernel_rfl) ?_
      clear eE s_u13w eR s_u14w a_u15w s_u15w a_u16w s_u16w a_u17w s_u17w
      go_wp2_with fail
      go_meet
      exact F.out
  case rest =>
    obtain ⟨g, cx, ho, T7, B7, b7⟩ := hcut
    have hm : ∀ x, x ∈ els ↔ x ∈ elsX a els ++ [[Value.int .u8 e0, Value.int .i64 e1, Value.int .i64 e2, Value.bool e3, Value.int .u8 e4]] := fun x => (mem_elsX HME.out).symm
    have hlen : (elsX a els ++ [[Value.int .u8 e0, Value.int .i64 e1, Value.int .i64 e2, Value.bool e3, Value.int .u8 e4]]).length = els.length + 1 := by unfold elsX; simp; omega
    have hxk : ∀ x ∈ elsX a els ++ [[Value.int .u8 e0, Value.int .i64 e1, Value.int .i64 e2, Value.bool e3, Value.int .u8 e4]], All2 Kd.ok opK x := fun x hx => HKD.out x ((hm x).2 hx)
    have hla := ListAt.of_own (els := elsX a els ++ [[Value.int .u8 e0, Value.int .i64 e1, Value.int .i64 e2, Value.bool e3, Value.int .u8 e4]]) (sz := 5) (by rw [hlen]; exact ho) (fun x hx => (hxk x hx).len.symm.trans rfl)
    have hx : JumpIs wc (.agg #[.int .u8 4, .int .u8 x1, .int .i64 x2, .int .i64 x3, .bool b4, .int .u8 x5, .int .i64 x6, .int .i64 x7, .int .i64 x8, .slice (some ⟨g, 0, none⟩) (els.length + 1) cx, .int .i64 y0, .bool y1, .int .u8 y2]) [.int .u8 4, .int .u8 x1, .int .i64 x2, .int .i64 x3, .bool b4, .int .u8 x5, .int .i64 x6, .int .i64 x7, .int .i64 x8] (.slice (some ⟨g, 0, none⟩) (els.length + 1) cx) [.int .i64 y0, .bool y1, .int .u8 y2] (elsX a els ++ [[Value.int .u8 e0, Value.int .i64 e1, Value.int .i64 e2, Value.bool e3, Value.int .u8 e4]]) := ⟨rfl, HJ.out.pre, HJ.out.post, ops_of hla hxk⟩
    have hokx := ok_x HJ.out HOK.out H4.out (els' := elsX a els ++ [[Value.int .u8 e0, Value.int .i64 e1, Value.int .i64 e2, Value.bool e3, Value.int .u8 e4]]) (by rw [hlen]; omega) hm
    have hU1 := fun W hb => uses_c HJ.out HOK.out (w1 := W) hb
    have hV1 := fun W hb => moves_c HJ.out HOK.out (w1 := W) hb
    have hU2 := fun W hb => uses_c hx hokx (w1 := W) hb
    have hV2 := fun W hb => moves_c hx hokx (w1 := W) hb
    rw [← uses_same hm] at hU2
    rw [← moves_same hm] at hV2
    generalize incT (usesJ [.int .u8 4, .int .u8 x1, .int .i64 x2, .int .i64 x3, .bool b4, .int .u8 x5, .int .i64 x6, .int .i64 x7, .int .i64 x8] els [.int .i64 y0, .bool y1, .int .u8 y2]) = lu at *
    generalize incT (movesJ [.int .u8 4, .int .u8 x1, .int .i64 x2, .int .i64 x3, .bool b4, .int .u8 x5, .int .i64 x6, .int .i64 x7, .int .i64 x8] els [.int .i64 y0, .bool y1, .int .u8 y2]) = lm at *
    have HU1 := Lib.hid hU1
    have HV1 := Lib.hid hV1
    have HU2 := Lib.hid hU2
    have HV2 := Lib.hid hV2
    clear hU1 hV1 hU2 hV2 hx hokx hla hxk hlen hm ho B2 T2 B1 B0
    have d7 : Below wc.heap.size wc wc := Below.refl _ _
    obtain ⟨p7_0, p7_1, p7_2, p7_3, p7_4, p7_5, p7_6, p7_7, p7_8, p7_9, p7_10, p7_11, p7_12⟩ := box_cells B7
    obtain ⟨q7_0, q7_1, q7_2, q7_3, q7_4, q7_5, q7_6, q7_7, q7_8, q7_9, q7_10, q7_11, q7_12⟩ := box_cells T7
    go_upto_region 6 with (go_at_call 6; refine (HU1.out _ b7).mono ?_; rintro e w8 ⟨sa, rfl, ia, c8⟩)
    have B8 := (c8.block _ (Array.getElem?_eq_some_iff.1 B7).1).trans B7
    have T8 := (c8.block _ (Array.getElem?_eq_some_iff.1 T7).1).trans T7
    have d8 := d7.trans (c8.mono d7.size)
    obtain ⟨p8_0, p8_1, p8_2, p8_3, p8_4, p8_5, p8_6, p8_7, p8_8, p8_9, p8_10, p8_11, p8_12⟩ := box_cells B8
    obtain ⟨q8_0, q8_1, q8_2, q8_3, q8_4, q8_5, q8_6, q8_7, q8_8, q8_9, q8_10, q8_11, q8_12⟩ := box_cells T8
    go_upto_region 7 with (go_at_call 6; refine (HU2.out _ d8).mono ?_; rintro e w9 ⟨sb, rfl, ib, c9⟩)
    have B9 := (c9.block _ (Array.getElem?_eq_some_iff.1 B8).1).trans B8
    have T9 := (c9.block _ (Array.getElem?_eq_some_iff.1 T8).1).trans T8
    have d9 := d8.trans (c9.mono d8.size)
    obtain ⟨p9_0, p9_1, p9_2, p9_3, p9_4, p9_5, p9_6, p9_7, p9_8, p9_9, p9_10, p9_11, p9_12⟩ := box_cells B9
    obtain ⟨q9_0, q9_1, q9_2, q9_3, q9_4, q9_5, q9_6, q9_7, q9_8, q9_9, q9_10, q9_11, q9_12⟩ := box_cells T9
    go_upto_region 8 with (go_at_call 7; refine (HV1.out _ (b7.trans (d9.mono b7.size))).mono ?_; rintro e w10 ⟨sc, rfl, ic, c10⟩)
    have B10 := (c10.block _ (Array.getElem?_eq_some_iff.1 B9).1).trans B9
    have T10 := (c10.block _ (Array.getElem?_eq_some_iff.1 T9).1).trans T9
    have d10 := d9.trans (c10.mono d9.size)
    obtain ⟨p10_0, p10_1, p10_2, p10_3, p10_4, p10_5, p10_6, p10_7, p10_8, p10_9, p10_10, p10_11, p10_12⟩ := box_cells B10
    obtain ⟨q10_0, q10_1, q10_2, q10_3, q10_4, q10_5, q10_6, q10_7, q10_8, q10_9, q10_10, q10_11, q10_12⟩ := box_cells T10
    go_upto_region 9 with (go_at_call 7; refine (HV2.out _ d10).mono ?_; rintro e w11 ⟨sd, rfl, id', c11⟩)
    have B11 := (c11.block _ (Array.getElem?_eq_some_iff.1 B10).1).trans B10
    have T11 := (c11.block _ (Array.getElem?_eq_some_iff.1 T10).1).trans T10
    have d11 := d10.trans (c11.mono d10.size)
    obtain ⟨p11_0, p11_1, p11_2, p11_3, p11_4, p11_5, p11_6, p11_7, p11_8, p11_9, p11_10, p11_11, p11_12⟩ := box_cells B11
    obtain ⟨q11_0, q11_1, q11_2, q11_3, q11_4, q11_5, q11_6, q11_7, q11_8, q11_9, q11_10, q11_11, q11_12⟩ := box_cells T11
    have i1 := ((ia.below c9).below c10).below c11
    have i2 := (ib.below c10).below c11
    have i3 := ic.below c11
    have b11 := b7.trans (d11.mono b7.size)
    clear HU1 HV1 HU2 HV2
    go_wp2_with (first | (go_at_call 8; ((with_reducible refine (sameI.same_ints i1 i2).mono ?_); rintro e w14 ⟨rfl, c14⟩)) | (go_at_call 8; ((with_reducible refine (sameI.same_ints (i3.below c14) (id'.below c14)).mono ?_); rintro e w15 ⟨rfl, c15⟩)) | (go_at_call 5; refine (alive_from kt ((b11.trans (c14.mono b11.size)).trans (c15.mono (b11.trans (c14.mono b11.size)).size))).mono ?_; rintro e w16 ⟨rfl, hb16⟩))
    go_ret
    exact ⟨rfl, hb16⟩
theorem walkK {w : World} {v v1 : Value} {pre : List Value} {sv : Value} {post : List Value} {els : List (List Value)} (hj : JumpIs w v pre sv post els) (h1 : Kd.ok (.i .i64) v1) (kt : TabOk w) : Calls Tryd.prog 3 #[v, v1] w fun e w' => e = .returned (.bool true) ∧ Below w.heap.size w w' := by
  obtain ⟨at_, rfl, i1, i2⟩ := h1
  obtain ⟨x0, x1, x2, x3, b4, x5, x6, x7, x8, rfl⟩ := pre9 hj.pre
  obtain ⟨y0, y1, y2, rfl⟩ := post3 hj.post
  obtain ⟨A, c, rfl⟩ := hj.ops.sl
  obtain rfl := hj.v
  by_cases h0 : x0 = 4
  · by_cases h7 : 7 < els.length
    · exact not_any kt _ (fun w1 hb => check_c hj hb) at_ (.inr ⟨h0, .inl h7⟩)
    · cases hok : okJ [.int .u8 x0, .int .u8 x1, .int .i64 x2, .int .i64 x3, .bool b4, .int .u8 x5, .int .i64 x6, .int .i64 x7, .int .i64 x8] els [.int .i64 y0, .bool y1, .int .u8 y2] with
      | false => exact not_any kt false (fun w1 hb => hok ▸ check_c hj hb) at_ (.inr ⟨h0, .inr ⟨h7, .inl rfl⟩⟩)
      | true =>
        by_cases ha : at_ < 0
        · exact not_any kt true (fun w1 hb => hok ▸ check_c hj hb) at_ (.inr ⟨h0, .inr ⟨h7, .inr ⟨rfl, .inl ha⟩⟩⟩)
        by_cases hb : (els.length : Int) ≤ at_
        · exact not_any kt true (fun w1 hb => hok ▸ check_c hj hb) at_ (.inr ⟨h0, .inr ⟨h7, .inr ⟨rfl, .inr ⟨ha, hb⟩⟩⟩⟩)
        obtain ⟨k, rfl⟩ := Int.eq_ofNat_of_zero_le (by omega : 0 ≤ at_)
        have hk : k < els.length := by omega
        subst h0
        obtain ⟨b, off, c', e, _⟩ := hj.ops.at_ k _ (List.getElem?_eq_getElem hk)
        cases e
        exact main_any kt hj hok h7 k hk
  · exact not_any kt _ (fun w1 hb => check_c hj hb) at_ (.inl h0)
end Go.Proofs.YtmljjflimiakfaaDoor.order
