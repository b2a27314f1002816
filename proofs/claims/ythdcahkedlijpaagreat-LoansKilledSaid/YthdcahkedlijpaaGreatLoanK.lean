/- Words for walks over functions: lists of the arguments as rows of ranges; append of an element of several cells. (No program in sight.) -/
import Derived.Test.YthdcahkedlijpaaGreatLoanP
import Derived.Test.YthdcahkedlijpaaGreatTwinA
namespace Go.Proofs.YthdcahkedlijpaaGreat.loan
open Go.RowKit Go.Proofs.YthdcahkedlijpaaGreat Go.Proofs.YthdcahkedlijpaaGreat.Am
set_option linter.unusedVariables false
def RowsAt (w : World) (A : Option Addr) (sz : Nat) (els : List (List Value)) : Prop :=
  ∀ i el, els[i]? = some el → ∃ g o, A = some ⟨g, o, none⟩ ∧ g < w.heap.size ∧ w.rangeAt g (o + i * sz) el
theorem RowsAt.below {w w' : World} {A : Option Addr} {sz : Nat} {els : List (List Value)} (h : RowsAt w A sz els) (hb : Below w.heap.size w w') : RowsAt w' A sz els := fun i el hi => by
  obtain ⟨g, o, e, hg, hr⟩ := h i el hi
  exact ⟨g, o, e, Nat.lt_of_lt_of_le hg hb.size, fun j v hj => (hb.cell (p := ⟨g, o + i * sz + j, none⟩) hg).trans (hr j v hj)⟩
theorem ListAt.rows {w : World} {v : Value} {sz : Nat} {els : List (List Value)} (h : ListAt w v sz els) (hz : 0 < sz) : ∃ A c, v = .slice A els.length c ∧ (els.length : Int) ≤ 9223372036854775807 ∧ RowsAt w A sz els := by
  obtain ⟨A, c, e⟩ := h.sl
  refine ⟨A, c, e, h.most, fun i el hi => ?_⟩
  obtain ⟨b, off, c', e', hc⟩ := h.at_ i el hi
  rw [e] at e'
  cases e'
  have hl := h.len i el hi
  obtain ⟨u, hu⟩ : ∃ u, el[0]? = some u := ⟨_, List.getElem?_eq_getElem (by omega)⟩
  exact ⟨b, off, rfl, World.block_lt_of_cell? w ⟨b, off + i * sz + 0, none⟩ (hc 0 u hu), hc⟩
theorem RowsAt.own {w : World} {base : Nat} {e : TypeId} {sz n : Nat} {v : Value} {els : List (List Value)} (h : w.ownsRow base e sz v n els.flatten) (hn : els.length = n) (hz : 0 < sz) (hl : ∀ x ∈ els, x.length = sz) : ∃ A c, v = .slice A els.length c ∧ RowsAt w A sz els := by
  subst hn
  obtain ⟨A, c, e, _, r⟩ := ListAt.rows (ListAt.of_own h hl) hz
  exact ⟨A, c, e, r⟩
theorem wpList_appendN {P : Program} {ops : Array Oper} {rest : List Oper} {o : Oper} {a : Act} {Q : Exit → Act → World → Prop} {w0 W : World} (hgd : o.guard = none) (s x : Operand) (t : TypeId)
    (ho : o.op = .call { callee := .builtin .append, args := #[s, x], argTypes := #[t, t] })
    (B : Nat) (e : TypeId) (z : Value) (size bytes : Nat) (ht : P.underlying t = some (.slice e)) (hrow : (P.info? e).map (fun i => (i.zero, i.size, i.bytes)) = some (some z, size, bytes)) (hzs : z.cells.size = size) (hsz : 0 < size)
    (v : Value) (n : Nat) (xs : List Value) (hs : a.eval s = v) (hown : W.ownsRow B e size v n xs)
    (us : List Value) (g c : Nat) (hx : a.eval x = .slice (some ⟨g, 0, none⟩) 1 c) (hg : W.heap[g]? = some (.cells us.toArray e (0, 0))) (hl : us.length = size) (h1 : ∀ u ∈ us, u.oneCell' = true)
    (hn : n < 1000000) (hby : bytes ≤ 1024) (hbel : Below B w0 W) (hB : B ≤ W.heap.size)
    (h : ∀ v' w', w'.ownsRow B e size v' (n + 1) (xs ++ us) → Below B w0 w' → wpList P ops Q rest (a.put o.dst v') w') : wpList P ops Q (o :: rest) a W := by
  obtain ⟨i0, hi, hz0, hz1, hz2⟩ := info_parts hrow
  have hmul : (n + 1) * bytes ≤ 1000000 * 1024 := Nat.mul_le_mul (by omega) hby
  refine wpList_append_own _ hgd s x t ho B e i0 z size bytes ht hi hz0 hz1 hz2 hzs hsz v n xs hs hown ⟨g, 0, none⟩ 1 c us hx (by omega) (fun j u hu => ?_) h1 (by simp only [maxLen]; omega) (by omega) hB ?_
  · rw [addr_add, Nat.zero_add, cell_of_row W g j us.toArray e (0, 0) hg]
    simpa using hu
  · intro v' w' hown' hg' _
    exact h v' w' hown' (hbel.grown hg' hB (fun k hk => (hown.lt k hk).1))
theorem FnOk'.blks {w : World} {v : Value} {D : FnD} (h : FnOk' w v D) : ∃ A c, D.bv = .slice A D.bs.length c ∧ (D.bs.length : Int) ≤ 9223372036854775807 ∧ RowsAt w A 14 (D.bs.map BlkD.cells) := by
  obtain ⟨A, c, e, hm, r⟩ := ListAt.rows h.blocks (by decide)
  rw [List.length_map] at e hm
  exact ⟨A, c, e, hm, r⟩
theorem BlkOk.stms {w : World} {b : BlkD} (h : BlkOk w b) : ∃ A c, b.s = .slice A b.st.length c ∧ (b.st.length : Int) ≤ 9223372036854775807 ∧ RowsAt w A 26 b.st := ListAt.rows h.sts (by decide)
def ptV (p : Nat × Nat) : List Value := [.int .i64 p.1, .int .i64 p.2]
theorem cells_len {w : World} {b : BlkD} (h : BlkOk w b) : b.cells.length = 14 := by
  have l1 := h.prek.len
  have l2 := h.postk.len
  have e1 : kPre.length = 9 := rfl
  have e2 : kPost.length = 3 := rfl
  show (b.s :: (b.pre ++ b.a :: b.post)).length = 14
  simp
  omega
theorem one_of {k : Kd} {v : Value} (h : k.ok v) : v.oneCell' = true := by
  cases k with
  | i x => obtain ⟨n, rfl, _⟩ := h; rfl
  | b => obtain ⟨b, rfl⟩ := h; rfl
  | s => obtain ⟨s, rfl, _⟩ := h; rfl
theorem stm_ones : ∀ {ks : List Kd} {us : List Value}, All2 Kd.ok ks us → ∀ u ∈ us, u.oneCell' = true
  | [], [], _, _, hu => by cases hu
  | k :: ks, v :: us, h, u, hu => by
    rcases List.mem_cons.1 hu with rfl | hu
    · exact one_of h.1
    · exact stm_ones h.2 u hu
  | [], _ :: _, h, _, _ => h.elim
  | _ :: _, [], h, _, _ => h.elim
theorem blk_ones {w : World} {b : BlkD} (h : BlkOk w b) : ∀ u ∈ b.cells, u.oneCell' = true := fun u hu => by
  obtain ⟨A, c, e, _⟩ := BlkOk.stms h
  obtain ⟨A2, c2, e2, _⟩ := ListAt.rows h.opl (by decide)
  rcases List.mem_cons.1 hu with rfl | hu
  · rw [e]; rfl
  · rcases List.mem_append.1 hu with hu | hu
    · exact stm_ones h.prek u hu
    · rcases List.mem_cons.1 hu with rfl | hu
      · rw [e2]; rfl
      · exact stm_ones h.postk u hu
theorem alloc_setRow (w : World) (old new : Array Value) (t : TypeId) : (w.alloc (.cells old t)).setRow w.heap.size new = w.alloc (.cells new t) := by
  have h : (w.heap.push (Obj.cells old t)).modify w.heap.size (fun x => match x with | .cells c elem frozen => .cells new elem frozen | o => o) = w.heap.push (Obj.cells new t) := by
    apply Array.ext
    · simp
    · intro i h1 h2
      rw [Array.getElem_modify]
      by_cases hi : w.heap.size = i
      · subst hi
        simp
      · rw [if_neg hi]
        have : i < w.heap.size := by simp at h2; omega
        rw [Array.getElem_push_lt this, Array.getElem_push_lt this]
  exact congrArg (fun x => ({ heap := x, tape := w.tape, drawn := w.drawn, os := w.os, output := w.output } : World)) h
theorem range_more {w : World} {x : Obj} {b o : Nat} {cs : List Value} (h : w.rangeAt b o cs) : (w.alloc x).rangeAt b o cs := fun j v hj => cell_more (h j v hj)
theorem wpList_store_fresh {P : Program} {ops : Array Oper} {rest : List Oper} {o : Oper} {a : Act} {Q : Exit → Act → World → Prop} (hgd : o.guard = none) (ty : TypeId) (x y : Operand) (ho : o.op = .store ty x y) (hd : o.dst = none)
    (W : World) (H : Nat) (hH : W.heap.size = H) (cells : Array Value) (hx : a.eval x = .pointer (some ⟨H, 0, none⟩)) (hy : a.eval y = .agg cells)
    (t : TypeId) (old : Array Value) (hi : (P.info? ty).map (·.size) = some cells.size) (hold : old.size = cells.size) (h1 : cells.all (·.oneCell') = true)
    (h : wpList P ops Q rest a (W.alloc (.cells cells t))) : wpList P ops Q (o :: rest) a (W.alloc (.cells old t)) := by
  subst hH
  refine wpList_store_row hgd ty x y ho W.heap.size cells hx hy t old (at_alloc rfl) hi hold h1 ?_
  rw [alloc_setRow, hd]
  exact h
theorem run_store_fresh {P : Program} {W : World} {H : Nat} {cells : List Value} {old : Array Value} {t : TypeId} (hH : W.heap.size = H) (hold : old.size = cells.length) (h1 : ∀ u, u ∈ cells → u.oneCell' = true) :
    (storeCells ⟨H, 0, none⟩ cells).run P (W.alloc (.cells old t)) = .ok () (W.alloc (.cells cells.toArray t)) := by
  subst hH
  have := run_storeCells_from (P := P) W.heap.size t cells 0 old (W.alloc (.cells old t)) (at_alloc rfl) (by omega) h1
  simp only [List.take_zero, List.nil_append] at this
  rw [this, alloc_setRow]
theorem owns_below {w w' : World} {base : Nat} {e : TypeId} {size : Nat} {v : Value} {n : Nat} {xs : List Value} (h : w.ownsRow base e size v n xs) (hb : Below w.heap.size w w') : w'.ownsRow base e size v n xs := owns_keep h fun k hk => hb.block k (owns_in h k hk).2
theorem stm_open {el : List Value} (h : All2 Kd.ok kS26 el) : ∃ (x0 x1 x3 x4 x6 x17 x19 : Int) (d2 d18 : Bool) (v5 v7 v8 v9 v10 v11 v12 v13 v14 v15 v16 v20 v21 v22 v23 v24 v25 : Value), el = [.int .u8 x0, .int .i64 x1, .bool d2, .int .u8 x3, .int .u8 x4, v5, .int .u8 x6, v7, v8, v9, v10, v11, v12, v13, v14, v15, v16, .int .i64 x17, .bool d18, .int .u8 x19, v20, v21, v22, v23, v24, v25] ∧ (∀ u ∈ el, u.oneCell' = true) := by
  have h1 := stm_ones h
  obtain ⟨v0, l0, rfl, ⟨x0, rfl, _⟩, k0⟩ := all2_cons' h
  obtain ⟨v1, l1, rfl, ⟨x1, rfl, _⟩, k1⟩ := all2_cons' k0
  obtain ⟨v2, l2, rfl, ⟨d2, rfl⟩, k2⟩ := all2_cons' k1
  obtain ⟨v3, l3, rfl, ⟨x3, rfl, _⟩, k3⟩ := all2_cons' k2
  obtain ⟨v4, l4, rfl, ⟨x4, rfl, _⟩, k4⟩ := all2_cons' k3
  obtain ⟨v5, l5, rfl, _, k5⟩ := all2_cons' k4
  obtain ⟨v6, l6, rfl, ⟨x6, rfl, _⟩, k6⟩ := all2_cons' k5
  obtain ⟨v7, l7, rfl, _, k7⟩ := all2_cons' k6
  obtain ⟨v8, l8, rfl, _, k8⟩ := all2_cons' k7
  obtain ⟨v9, l9, rfl, _, k9⟩ := all2_cons' k8
  obtain ⟨v10, l10, rfl, _, k10⟩ := all2_cons' k9
  obtain ⟨v11, l11, rfl, _, k11⟩ := all2_cons' k10
  obtain ⟨v12, l12, rfl, _, k12⟩ := all2_cons' k11
  obtain ⟨v13, l13, rfl, _, k13⟩ := all2_cons' k12
  obtain ⟨v14, l14, rfl, _, k14⟩ := all2_cons' k13
  obtain ⟨v15, l15, rfl, _, k15⟩ := all2_cons' k14
  obtain ⟨v16, l16, rfl, _, k16⟩ := all2_cons' k15
  obtain ⟨v17, l17, rfl, ⟨x17, rfl, _⟩, k17⟩ := all2_cons' k16
  obtain ⟨v18, l18, rfl, ⟨d18, rfl⟩, k18⟩ := all2_cons' k17
  obtain ⟨v19, l19, rfl, ⟨x19, rfl, _⟩, k19⟩ := all2_cons' k18
  obtain ⟨v20, l20, rfl, _, k20⟩ := all2_cons' k19
  obtain ⟨v21, l21, rfl, _, k21⟩ := all2_cons' k20
  obtain ⟨v22, l22, rfl, _, k22⟩ := all2_cons' k21
  obtain ⟨v23, l23, rfl, _, k23⟩ := all2_cons' k22
  obtain ⟨v24, l24, rfl, _, k24⟩ := all2_cons' k23
  obtain ⟨v25, l25, rfl, _, k25⟩ := all2_cons' k24
  cases l25 with
  | cons _ _ => cases k25
  | nil => exact ⟨x0, x1, x3, x4, x6, x17, x19, d2, d18, v5, v7, v8, v9, v10, v11, v12, v13, v14, v15, v16, v20, v21, v22, v23, v24, v25, rfl, h1⟩
end Go.Proofs.YthdcahkedlijpaaGreat.loan
