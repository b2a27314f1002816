/- pawnshopref15.Size, Point and Stmt, by their contracts. -/
import Derived.Test.YthdcahkedlijpaaGreatLoanB
namespace Go.Proofs.YthdcahkedlijpaaGreat.loan
open Go.RowKit Go.Proofs.YthdcahkedlijpaaGreat Go.Proofs.YthdcahkedlijpaaGreat.Am
set_option linter.unusedVariables false
theorem wpList_read {P : Program} {ops : Array Oper} {rest : List Oper} {o : Oper} {a : Act} {w : World} {Q : Exit → Act → World → Prop} {v : Value} (hg : o.guard = none) (hrun : (execOp a.eval o).run P w = .ok (.value v) w)
    (h : wpList P ops Q rest (a.put o.dst v) w) : wpList P ops Q (o :: rest) a w :=
  wpList_plain hg fun K hK => by
    unfold Oper.wp
    rw [hrun]
    simp only [Oper.upon]
    exact hK _ _ h
theorem wpList_store_to {P : Program} {ops : Array Oper} {rest : List Oper} {o : Oper} {a : Act} {w : World} {Q : Exit → Act → World → Prop} (hgd : o.guard = none) (ty : TypeId) (x y : Operand) (ho : o.op = .store ty x y) (hd : o.dst = none)
    (g : Nat) (cells : Array Value) (hx : a.eval x = .pointer (some ⟨g, 0, none⟩)) (hy : a.eval y = .agg cells) (t : TypeId) (old : Array Value) (hg : w.heap[g]? = some (.cells old t (0, 0))) (hi : (P.info? ty).map (·.size) = some cells.size)
    (hold : old.size = cells.size) (h1 : cells.all (·.oneCell') = true) (h : wpList P ops Q rest a (w.setRow g cells)) : wpList P ops Q (o :: rest) a w :=
  wpList_store_row hgd ty x y ho g cells hx hy t old hg hi hold h1 (by rw [hd]; exact h)
theorem below_setRow {B g : Nat} {a w : World} (h : Below B a w) (hg : B ≤ g) (cs : Array Value) : Below B a (w.setRow g cs) :=
  h.trans ⟨rfl, rfl, rfl, by simp [World.setRow], fun k hk => setRow_other w g k cs (by omega)⟩
def Ans1 (W : World) (v : Value) (e : Ending) (W' : World) : Prop := e = .returned v ∧ Below W.heap.size W W'
theorem starts_read {w : World} {v : Value} {D : FnD} (h : FnOk' w v D) (hs : Small D) : Calls Tryz.prog 39 #[v] w fun e w' => ∃ g c, e = .returned (.slice (some ⟨g, 0, none⟩) (D.bs.length + 1) c) ∧ (∀ j, j ≤ D.bs.length → w'.cell? ⟨g, j, none⟩ = some (.int .i64 (startOf D.bs j : Nat))) ∧ Below w.heap.size w w' := by
  refine (starts_c h hs).mono ?_
  rintro e w' ⟨s, rfl, ho, hb⟩
  rw [stL_len] at ho
  obtain ⟨g, c, rfl, hg, _⟩ := ho.form (by omega)
  refine ⟨g, c, rfl, fun j hj => ?_, hb⟩
  have := ho.cells (g := g) rfl j (.int .i64 (startOf D.bs j : Nat)) (by have := flat_get stL_1 (stL_at (bs := D.bs) hj) (f := 0) rfl; rw [Nat.mul_one] at this; exact this)
  rw [addr_add, Nat.zero_add] at this
  exact this
set_option maxRecDepth 100000 in
set_option maxHeartbeats 4000000 in
theorem size_c {w : World} {v : Value} {D : FnD} (h : FnOk' w v D) (hs : Small D) : Calls Tryz.prog 24 #[v] w (Ans1 w (.int .i64 (sizeN D : Nat))) := by
  have hT := fun w1 (hb : Below w.heap.size w w1) => starts_read (h.frz hb.block) hs
  obtain ⟨A, c, e, hm, hr⟩ := FnOk'.blks h
  rw [h.eq, e] at hT ⊢
  have HT := Lib.hid hT
  clear hT h hr e
  have B0 : Box (w.alloc (.cells #[.int .i64 D.p, .bool D.u, D.lv, .slice A D.bs.length c] tF)).drew w.heap.size tF (.int .i64 D.p) (.bool D.u) D.lv (.slice A D.bs.length c) := Box.mk rfl
  have b0 : Below w.heap.size w (w.alloc (.cells #[.int .i64 D.p, .bool D.u, D.lv, .slice A D.bs.length c] tF)).drew := ((Below.refl _ _).alloc (Nat.le_refl _) _).drew
  obtain ⟨y0, y1, y2, y3⟩ := B0.cells
  have hlt := B0.lt
  go_enter Tryz.func24, Tryz.ntmps24
  go_upto_region 1 with fail
  refine region_cells [⟨w.heap.size, 0, none⟩, ⟨w.heap.size, 1, none⟩, ⟨w.heap.size, 2, none⟩, ⟨w.heap.size, 3, none⟩] [(0, true), (2, true), (3, true), (4, true), (1, false), (5, true), (6, false), (7, true)] (by kernel_rfl) (by kernel_rfl) (by decide) (by kernel_rfl) (fun _ _ _ _ _ h => h) ?_
  generalize (w.alloc (.cells #[.int .i64 D.p, .bool D.u, D.lv, .slice A D.bs.length c] tF)).drew = wa at *
  refine SeqC.take (v := ?_) rfl (by rfl) (fun W hW => ?_) ?_; rotate_left; (focus (have z0 := hW.get (by simp) y0; have z1 := hW.get (by simp) y1; have z2 := hW.get (by simp) y2; have z3 := hW.get (by simp) y3; go_simp; with_reducible rfl)); simp only [Act.put, List.setIfInBounds_toArray, List.set_cons_zero, List.set_cons_succ]
  refine SeqC.take (v := ?_) rfl (by rfl) (fun W hW => ?_) ?_; rotate_left; (focus (have z0 := hW.get (by simp) y0; have z1 := hW.get (by simp) y1; have z2 := hW.get (by simp) y2; have z3 := hW.get (by simp) y3; go_simp; with_reducible rfl)); simp only [Act.put, List.setIfInBounds_toArray, List.set_cons_zero, List.set_cons_succ]
  refine SeqC.take (v := ?_) rfl (by rfl) (fun W hW => ?_) ?_; rotate_left; (focus (have z0 := hW.get (by simp) y0; have z1 := hW.get (by simp) y1; have z2 := hW.get (by simp) y2; have z3 := hW.get (by simp) y3; go_simp; with_reducible rfl)); simp only [Act.put, List.setIfInBounds_toArray, List.set_cons_zero, List.set_cons_succ]
  refine SeqC.take (v := ?_) rfl (by rfl) (fun W hW => ?_) ?_; rotate_left; (focus (have z0 := hW.get (by simp) y0; have z1 := hW.get (by simp) y1; have z2 := hW.get (by simp) y2; have z3 := hW.get (by simp) y3; go_simp; with_reducible rfl)); simp only [Act.put, List.setIfInBounds_toArray, List.set_cons_zero, List.set_cons_succ]
  refine SeqC.call (f := ?_) (args := ?_) rfl (by rfl) ?_ ?_
  rotate_left 2
  · (go_simp; first | with_reducible rfl | (refine ⟨?_, ?_⟩ <;> with_reducible rfl))
  refine (HT.out _ b0).mono ?_
  rintro e w2 ⟨g, cg, rfl, hcell, b2⟩
  refine ⟨_, rfl, Cells.of_ext b2 (by intro p hp; simp only [List.mem_cons, List.not_mem_nil, or_false] at hp; rcases hp with rfl | rfl | rfl | rfl <;> exact hlt), ?_⟩
  simp only [Act.put, List.setIfInBounds_toArray, List.set_cons_zero, List.set_cons_succ]
  have hN := hcell D.bs.length (Nat.le_refl _)
  have hlI : (D.bs.length : Int) < (D.bs.length : Int) + 1 := by omega
  have h0I : (0 : Int) ≤ (D.bs.length : Int) := Int.natCast_nonneg _
  clear hcell
  refine SeqC.take (v := ?_) rfl (by rfl) (fun W hW => ?_) ?_; rotate_left; (focus (go_simp; with_reducible rfl)); simp only [Act.put, List.setIfInBounds_toArray, List.set_cons_zero, List.set_cons_succ]
  refine SeqC.val (v := ?_) rfl (by rfl) ?_ (Cells.refl _ _) ?_; rotate_left; (focus (go_simp; with_reducible rfl)); simp only [Act.put, List.setIfInBounds_toArray, List.set_cons_zero, List.set_cons_succ]
  refine SeqC.take (v := ?_) rfl (by rfl) (fun W hW => ?_) ?_; rotate_left; (focus (go_simp; with_reducible rfl)); simp only [Act.put, List.setIfInBounds_toArray, List.set_cons_zero, List.set_cons_succ]
  refine SeqC.done ?_
  go_wp2
  go_ret
  exact ⟨rfl, b0.trans (b2.mono b0.size)⟩
structure IsPt (D : FnD) (n i k : Nat) : Prop where
  lt : i < D.bs.length
  le : k ≤ lenB D.bs i
  eq : n = startOf D.bs i + k
theorem IsPt.of {D : FnD} {n : Nat} (h : n < sizeN D) : ∃ i k, IsPt D n i k := by
  obtain ⟨i, k, h1, h2, h3⟩ := pt_ex h
  exact ⟨i, k, h1, h2, h3⟩
theorem IsPt.st {D : FnD} {n i k : Nat} (h : IsPt D n i k) : stN D.bs n = (D.bs.getD i b0).st[k]? := by rw [h.eq]; exact st_at h.lt h.le
set_option maxRecDepth 100000 in
set_option maxHeartbeats 4000000 in
theorem point_c {w : World} {v : Value} {D : FnD} (h : FnOk' w v D) (hs : Small D) {n i k : Nat} (hp : IsPt D n i k) : Calls Tryz.prog 40 #[v, .int .i64 (n : Nat)] w (Ans1 w (.agg #[.int .i64 (i : Nat), .int .i64 (k : Nat)])) := by
  have hT := fun w1 (hb : Below w.heap.size w w1) => starts_read (h.frz hb.block) hs
  have HS := Lib.hid hs
  have hn24 := hs.n
  rw [h.eq] at hT ⊢
  have HT := Lib.hid hT
  clear hT h hs
  have hb0 : Below w.heap.size w ((w.alloc (.cells #[.int .i64 D.p, .bool D.u, D.lv, D.bv] tF)).alloc (.cells #[.int .i64 0, .int .i64 0] tP)) := ((Below.refl _ _).alloc (Nat.le_refl _) _).alloc (by simp) _
  have hpt : ((w.alloc (.cells #[.int .i64 D.p, .bool D.u, D.lv, D.bv] tF)).alloc (.cells #[.int .i64 0, .int .i64 0] tP)).heap[w.heap.size + 1]? = some (.cells #[.int .i64 0, .int .i64 0] tP (0, 0)) := at_alloc (by simp)
  go_enter Tryz.func40, Tryz.ntmps40
  go_wp2_with (go_at_call 39; refine (HT.out _ hb0).mono ?_; rintro e w2 ⟨g, cg, rfl, hcell, b2⟩)
  have hb2 := hb0.trans (b2.mono hb0.size)
  have hpt2 := (b2.block _ (Array.getElem?_eq_some_iff.1 hpt).1).trans hpt
  have HC := Lib.hid hcell
  clear hcell hpt b2 hb0
  have hi := hp.lt
  have hiI : (i : Int) < (D.bs.length : Int) := by omega
  have hHP := Lib.hid hp
  have hst := HS.out.start (Nat.le_of_lt hi)
  have hst1 : startOf D.bs (i + 1) ≤ 600 := HS.out.start (Nat.succ_le_of_lt hi)
  have hk := hp.le
  have hn := hp.eq
  have hnx : startOf D.bs (i + 1) = startOf D.bs i + (lenB D.bs i + 1) := rfl
  have HN := Lib.hid hn
  have HNX := Lib.hid hnx
  have HK := Lib.hid hk
  clear hp hn hnx hk
  go_loopg [6] i (fun g s6 wr => ∃ j : Nat, s6 = .int .i64 j ∧ j ≤ i ∧ g = i - j ∧ wr = w2)
  case atStart => exact ⟨0, rfl, Nat.zero_le _, rfl, rfl⟩
  case round =>
    obtain ⟨j, rfl, hj, rfl, rfl⟩ := hrel
    have c1 := HC.out (j + 1) (by omega)
    have h0J : (0 : Int) ≤ (j : Int) := Int.natCast_nonneg _
    have hjI : (j : Int) + 1 < (D.bs.length : Int) + 1 := by omega
    rcases Nat.lt_or_ge j i with hlt | hge
    · have hmono := start_mono (bs := D.bs) (i := j + 1) (j := i) (by omega)
      have hd : (startOf D.bs (j + 1) : Int) ≤ (n : Int) := by have := HN.out; omega
      clear hmono
      go_wp2
      go_roundg (i - (j + 1))
      case measure => omega
      case rel => exact ⟨j + 1, by simp, by omega, rfl, rfl⟩
    · obtain rfl : j = i := by omega
      have hd : (n : Int) < (startOf D.bs (j + 1) : Int) := by have := HN.out; have := HNX.out; have := HK.out; omega
      have hd2 : ¬ (startOf D.bs (j + 1) : Int) ≤ (n : Int) := by omega
      have c0 := HC.out j (by omega)
      have hws : IntKind.i64.wrap ((n : Int) - (startOf D.bs j : Int)) = (k : Int) := by rw [IntWalk.i64_in _ (by have := HN.out; have := HNX.out; have := HK.out; omega)]; have := HN.out; omega
      have hjN : (j : Int) < (D.bs.length : Int) + 1 := by omega
      go_upto_region 5 with fail
      refine wp_region_lit ?_
      refine wpList_read (v := ?_) rfl ?_ ?_; rotate_left; (focus (go_simp; with_reducible rfl)); simp only [Act.put, List.setIfInBounds_toArray, List.set_cons_zero, List.set_cons_succ]
      refine wpList_read (v := ?_) rfl ?_ ?_; rotate_left; (focus (go_simp; with_reducible rfl)); simp only [Act.put, List.setIfInBounds_toArray, List.set_cons_zero, List.set_cons_succ]
      refine wpList_read (v := ?_) rfl ?_ ?_; rotate_left; (focus (go_simp; with_reducible rfl)); simp only [Act.put, List.setIfInBounds_toArray, List.set_cons_zero, List.set_cons_succ]
      refine wpList_read (v := ?_) rfl ?_ ?_; rotate_left; (focus (go_simp; with_reducible rfl)); simp only [Act.put, List.setIfInBounds_toArray, List.set_cons_zero, List.set_cons_succ]
      refine wpList_read (v := ?_) rfl ?_ ?_; rotate_left; (focus (go_simp; with_reducible rfl)); simp only [Act.put, List.setIfInBounds_toArray, List.set_cons_zero, List.set_cons_succ]
      refine wpList_read (v := ?_) rfl ?_ ?_; rotate_left; (focus (go_simp; with_reducible rfl)); simp only [Act.put, List.setIfInBounds_toArray, List.set_cons_zero, List.set_cons_succ]
      refine wpList_read (v := ?_) rfl ?_ ?_; rotate_left; (focus (go_simp; with_reducible rfl)); simp only [Act.put, List.setIfInBounds_toArray, List.set_cons_zero, List.set_cons_succ]
      refine wpList_read (v := ?_) rfl ?_ ?_; rotate_left; (focus (go_simp; with_reducible rfl)); simp only [Act.put, List.setIfInBounds_toArray, List.set_cons_zero, List.set_cons_succ]
      refine wpList_store_to rfl tP _ _ rfl rfl (w.heap.size + 1) #[.int .i64 (j : Nat), .int .i64 (k : Nat)] rfl rfl tP _ hpt2 (by kernel_rfl) rfl (by simp [Value.oneCell']) ?_
      refine wpList_nil ?_
      have hbE := below_setRow hb2 (g := w.heap.size + 1) (by omega) #[.int .i64 (j : Nat), .int .i64 (k : Nat)]
      have hgE := setRow_heap wr (w.heap.size + 1) _ #[.int .i64 (j : Nat), .int .i64 (k : Nat)] tP _ hpt2
      clear hpt2 c1 c0
      generalize wr.setRow (w.heap.size + 1) #[.int .i64 (j : Nat), .int .i64 (k : Nat)] = wE at *
      go_wp2
      refine bodyPost_ret (results_cell_row rfl _ _ (w.heap.size + 1) _ _ (0, 0) _ rfl hgE Tryz.underlying83 rfl (by kernel_rfl)) rfl ?_
      exact ⟨rfl, hbE⟩
def zeroS : List Value := (#[.int .u8 0, .int .i64 0, .bool false, .int .u8 0, .int .u8 0, .int .u8 0, .int .u8 0, .int .u8 0, .int .i64 0, .int .i64 0, .bool false, .int .u8 0, .int .u8 0, .int .i64 0, .int .i64 0, .bool false, .int .u8 0, .int .i64 0, .bool false, .int .u8 0, .int .u8 0, .int .i64 0, .int .i64 0, .bool false, .int .u8 0, .int .i64 0] : Array Value).toList
def stV (bs : List BlkD) (n : Nat) : Value := match stN bs n with | some el => .tuple #[.agg el.toArray, .bool true] | none => .tuple #[.agg zeroS.toArray, .bool false]
set_option maxRecDepth 100000 in
set_option maxHeartbeats 8000000 in
theorem stmt_c {w : World} {v : Value} {D : FnD} (h : FnOk' w v D) (hs : Small D) {n : Nat} (hn : n < sizeN D) : Calls Tryz.prog 25 #[v, .int .i64 (n : Nat)] w (Ans1 w (stV D.bs n)) := by
  obtain ⟨i, k, hp⟩ := IsPt.of hn
  have hT := fun w1 (hb : Below w.heap.size w w1) => point_c (h.frz hb.block) hs hp
  have HF := Lib.hid h
  obtain ⟨A, c, e, hm, hr⟩ := FnOk'.blks h
  rw [h.eq, e] at hT ⊢
  have HT := Lib.hid hT
  obtain ⟨b, hb⟩ : ∃ b, D.bs[i]? = some b := ⟨_, List.getElem?_eq_getElem hp.lt⟩
  have hbk := h.blk b (List.mem_of_getElem? hb)
  obtain ⟨As, cs, es, hms, hrs⟩ := BlkOk.stms hbk
  obtain ⟨gb, ob, eA, hgb, hcb⟩ := hr i b.cells (by rw [List.getElem?_map, hb]; rfl)
  subst eA
  have cg := hcb 0 b.s rfl
  rw [es] at cg
  simp only [Nat.add_zero] at cg
  have hst : stN D.bs n = b.st[k]? := by rw [hp.st, getD_mem hb]
  have hk : k ≤ b.st.length := by have := hp.le; rwa [lenB_of hb] at this
  have hiI : (i : Int) < (D.bs.length : Int) := by have := hp.lt; omega
  have h0I : (0 : Int) ≤ (i : Int) := Int.natCast_nonneg _
  have h0K : (0 : Int) ≤ (k : Int) := Int.natCast_nonneg _
  have hH : w.heap.size + 1 ≠ w.heap.size := by omega
  have hskd := hbk.skd
  clear hT h hr e hcb hb hp hbk HF
  obtain ⟨w1, hw1⟩ : ∃ w1, w1 = (w.alloc (.cells #[.int .i64 D.p, .bool D.u, D.lv, .slice (some ⟨gb, ob, none⟩) D.bs.length c] tF)).alloc (.cells #[.int .u8 0, .int .i64 0, .bool false, .int .u8 0, .int .u8 0, .int .u8 0, .int .u8 0, .int .u8 0, .int .i64 0, .int .i64 0, .bool false, .int .u8 0, .int .u8 0, .int .i64 0, .int .i64 0, .bool false, .int .u8 0, .int .i64 0, .bool false, .int .u8 0, .int .u8 0, .int .i64 0, .int .i64 0, .bool false, .int .u8 0, .int .i64 0] tS) := ⟨_, rfl⟩
  have B0 : Box w1 w.heap.size tF (.int .i64 D.p) (.bool D.u) D.lv (.slice (some ⟨gb, ob, none⟩) D.bs.length c) := by rw [hw1]; exact (Box.mk rfl).more
  have hb0 : Below w.heap.size w w1 := by rw [hw1]; exact ((Below.refl _ _).alloc (Nat.le_refl _) _).alloc (by simp) _
  have hz1 : w1.heap[w.heap.size + 1]? = some (.cells #[.int .u8 0, .int .i64 0, .bool false, .int .u8 0, .int .u8 0, .int .u8 0, .int .u8 0, .int .u8 0, .int .i64 0, .int .i64 0, .bool false, .int .u8 0, .int .u8 0, .int .i64 0, .int .i64 0, .bool false, .int .u8 0, .int .i64 0, .bool false, .int .u8 0, .int .u8 0, .int .i64 0, .int .i64 0, .bool false, .int .u8 0, .int .i64 0] tS (0, 0)) := by rw [hw1]; exact at_alloc (by simp)
  have s1 : w1.heap.size = w.heap.size + 2 := by rw [hw1]; simp
  have cg1 := (hb0.cell (p := ⟨gb, ob + i * 14, none⟩) hgb).trans cg
  obtain ⟨y0, y1, y2, y3⟩ := B0.cells
  have HSK := Lib.hid hskd
  clear hskd
  have HRS := Lib.hid hrs
  have HST := Lib.hid hst
  clear hrs hst cg
  go_enter Tryz.func25, Tryz.ntmps25
  go_upto_region 1 with fail
  rw [← hw1]
  clear hw1
  go_upto_region 2 with (go_at_call 40; refine (HT.out _ hb0).mono ?_; rintro e w2 ⟨rfl, b2⟩)
  have hb2 := hb0.trans (b2.mono hb0.size)
  have B2 := B0.below b2
  have hz2 := (b2.block _ (Array.getElem?_eq_some_iff.1 hz1).1).trans hz1
  have cg2 := (b2.cell (p := ⟨gb, ob + i * 14, none⟩) (by show gb < w1.heap.size; omega)).trans cg1
  have s2 := b2.size
  generalize hw3 : w2.alloc (.cells #[.int .i64 (i : Nat), .int .i64 (k : Nat)] tP) = w3
  have b3 : Below w2.heap.size w2 w3 := by rw [← hw3]; exact (Below.refl _ _).alloc (Nat.le_refl _) _
  have d0 : w3.drew.cell? ⟨w2.heap.size, 0, none⟩ = some (.int .i64 (i : Nat)) := by rw [← hw3]; exact cell_of_row _ w2.heap.size 0 _ tP (0, 0) (at_alloc (w := w2) rfl)
  have d1 : w3.drew.cell? ⟨w2.heap.size, 1, none⟩ = some (.int .i64 (k : Nat)) := by rw [← hw3]; exact cell_of_row _ w2.heap.size 1 _ tP (0, 0) (at_alloc (w := w2) rfl)
  have d3 : w3.drew.cell? ⟨w.heap.size, 3, none⟩ = _ := (B2.below b3).cells.2.2.2
  have d4 : w3.drew.cell? ⟨gb, ob + i * 14, none⟩ = _ := (b3.cell (p := ⟨gb, ob + i * 14, none⟩) (by show gb < w2.heap.size; omega)).trans cg2
  have hz3 : w3.drew.heap[w.heap.size + 1]? = _ := (b3.block _ (Array.getElem?_eq_some_iff.1 hz2).1).trans hz2
  have b3' : Below w.heap.size w w3.drew := (hb2.trans (b3.mono hb2.size)).drew
  have hsz3 : w2.heap.size < w3.heap.size := by rw [← hw3]; simp
  clear hw3 hz1 hz2 cg1 cg2 B0 B2 hb0 hb2 b2 b3
  refine region_cells [⟨w2.heap.size, 0, none⟩, ⟨w2.heap.size, 1, none⟩, ⟨w.heap.size, 3, none⟩, ⟨gb, ob + i * 14, none⟩] [(0, true), (1, true), (2, true), (3, true), (4, true), (5, true), (6, true), (7, true), (8, true), (9, true), (10, true)] (by kernel_rfl) (by kernel_rfl) (by decide) (by kernel_rfl) (fun _ _ _ _ _ h => h) ?_
  refine SeqC.take (v := ?_) rfl (by rfl) (fun W hW => ?_) ?_; rotate_left; (focus (have z0 := hW.get (by simp) d0; have z1 := hW.get (by simp) d1; have z3 := hW.get (by simp) d3; have z4 := hW.get (by simp) d4; go_simp; with_reducible rfl)); simp only [Act.put, List.setIfInBounds_toArray, List.set_cons_zero, List.set_cons_succ]
  refine SeqC.take (v := ?_) rfl (by rfl) (fun W hW => ?_) ?_; rotate_left; (focus (have z0 := hW.get (by simp) d0; have z1 := hW.get (by simp) d1; have z3 := hW.get (by simp) d3; have z4 := hW.get (by simp) d4; go_simp; with_reducible rfl)); simp only [Act.put, List.setIfInBounds_toArray, List.set_cons_zero, List.set_cons_succ]
  refine SeqC.take (v := ?_) rfl (by rfl) (fun W hW => ?_) ?_; rotate_left; (focus (have z0 := hW.get (by simp) d0; have z1 := hW.get (by simp) d1; have z3 := hW.get (by simp) d3; have z4 := hW.get (by simp) d4; go_simp; with_reducible rfl)); simp only [Act.put, List.setIfInBounds_toArray, List.set_cons_zero, List.set_cons_succ]
  refine SeqC.take (v := ?_) rfl (by rfl) (fun W hW => ?_) ?_; rotate_left; (focus (have z0 := hW.get (by simp) d0; have z1 := hW.get (by simp) d1; have z3 := hW.get (by simp) d3; have z4 := hW.get (by simp) d4; go_simp; with_reducible rfl)); simp only [Act.put, List.setIfInBounds_toArray, List.set_cons_zero, List.set_cons_succ]
  refine SeqC.take (v := ?_) rfl (by rfl) (fun W hW => ?_) ?_; rotate_left; (focus (have z0 := hW.get (by simp) d0; have z1 := hW.get (by simp) d1; have z3 := hW.get (by simp) d3; have z4 := hW.get (by simp) d4; go_simp; with_reducible rfl)); simp only [Act.put, List.setIfInBounds_toArray, List.set_cons_zero, List.set_cons_succ]
  refine SeqC.take (v := ?_) rfl (by rfl) (fun W hW => ?_) ?_; rotate_left; (focus (have z0 := hW.get (by simp) d0; have z1 := hW.get (by simp) d1; have z3 := hW.get (by simp) d3; have z4 := hW.get (by simp) d4; go_simp; with_reducible rfl)); simp only [Act.put, List.setIfInBounds_toArray, List.set_cons_zero, List.set_cons_succ]
  refine SeqC.take (v := ?_) rfl (by rfl) (fun W hW => ?_) ?_; rotate_left; (focus (have z0 := hW.get (by simp) d0; have z1 := hW.get (by simp) d1; have z3 := hW.get (by simp) d3; have z4 := hW.get (by simp) d4; go_simp; with_reducible rfl)); simp only [Act.put, List.setIfInBounds_toArray, List.set_cons_zero, List.set_cons_succ]
  refine SeqC.take (v := ?_) rfl (by rfl) (fun W hW => ?_) ?_; rotate_left; (focus (have z0 := hW.get (by simp) d0; have z1 := hW.get (by simp) d1; have z3 := hW.get (by simp) d3; have z4 := hW.get (by simp) d4; go_simp; with_reducible rfl)); simp only [Act.put, List.setIfInBounds_toArray, List.set_cons_zero, List.set_cons_succ]
  refine SeqC.take (v := ?_) rfl (by rfl) (fun W hW => ?_) ?_; rotate_left; (focus (have z0 := hW.get (by simp) d0; have z1 := hW.get (by simp) d1; have z3 := hW.get (by simp) d3; have z4 := hW.get (by simp) d4; go_simp; with_reducible rfl)); simp only [Act.put, List.setIfInBounds_toArray, List.set_cons_zero, List.set_cons_succ]
  refine SeqC.take (v := ?_) rfl (by rfl) (fun W hW => ?_) ?_; rotate_left; (focus (have z0 := hW.get (by simp) d0; have z1 := hW.get (by simp) d1; have z3 := hW.get (by simp) d3; have z4 := hW.get (by simp) d4; go_simp; with_reducible rfl)); simp only [Act.put, List.setIfInBounds_toArray, List.set_cons_zero, List.set_cons_succ]
  refine SeqC.take (v := ?_) rfl (by rfl) (fun W hW => ?_) ?_; rotate_left; (focus (have z0 := hW.get (by simp) d0; have z1 := hW.get (by simp) d1; have z3 := hW.get (by simp) d3; have z4 := hW.get (by simp) d4; go_simp; with_reducible rfl)); simp only [Act.put, List.setIfInBounds_toArray, List.set_cons_zero, List.set_cons_succ]
  refine SeqC.done ?_
  generalize w2.heap.size = g2 at *
  have hrow := fun el (hel : b.st[k]? = some el) => RowsAt.get HRS.out b3' hel
  generalize w3.drew = w4 at *
  rcases Nat.lt_or_ge k b.st.length with hkl | hkg
  · have hklI : (k : Int) < (b.st.length : Int) := by omega
    obtain ⟨el, hel⟩ : ∃ el, b.st[k]? = some el := ⟨_, List.getElem?_eq_getElem hkl⟩
    have hkk := HSK.out el (List.mem_of_getElem? hel)
    have h26 : el.length = 26 := hkk.len.symm
    have h1s := stm_ones hkk
    obtain ⟨gs, os, eS, hgs, hrng⟩ := hrow el hel
    subst eS
    have hst := HST.out
    rw [hel] at hst
    have HS2 := Lib.hid hst
    have d0 : w4.drew.cell? ⟨g2, 0, none⟩ = _ := d0
    have d1 : w4.drew.cell? ⟨g2, 1, none⟩ = _ := d1
    have d3 : w4.drew.cell? ⟨w.heap.size, 3, none⟩ = _ := d3
    have d4 : w4.drew.cell? ⟨gb, ob + i * 14, none⟩ = _ := d4
    have hrng : w4.drew.rangeAt gs (os + k * 26) el := hrng
    have hz4 : w4.drew.heap[w.heap.size + 1]? = _ := hz3
    clear hst hrow hel hkk
    go_upto_region 3 with fail
    refine region_cells [⟨g2, 0, none⟩, ⟨g2, 1, none⟩, ⟨w.heap.size, 3, none⟩, ⟨gb, ob + i * 14, none⟩] [(0, true), (1, true), (2, true), (3, true), (4, true), (5, true), (6, true), (7, true), (8, true), (9, true), (10, false), (11, false), (12, true)] (by kernel_rfl) (by kernel_rfl) (by decide) (by kernel_rfl) (fun _ _ _ _ _ h => h) ?_
    refine SeqC.take (v := ?_) rfl (by rfl) (fun W hW => ?_) ?_; rotate_left; (focus (have z0 := hW.get (by simp) d0; have z1 := hW.get (by simp) d1; have z3 := hW.get (by simp) d3; have z4 := hW.get (by simp) d4; go_simp; with_reducible rfl)); simp only [Act.put, List.setIfInBounds_toArray, List.set_cons_zero, List.set_cons_succ]
    refine SeqC.take (v := ?_) rfl (by rfl) (fun W hW => ?_) ?_; rotate_left; (focus (have z0 := hW.get (by simp) d0; have z1 := hW.get (by simp) d1; have z3 := hW.get (by simp) d3; have z4 := hW.get (by simp) d4; go_simp; with_reducible rfl)); simp only [Act.put, List.setIfInBounds_toArray, List.set_cons_zero, List.set_cons_succ]
    refine SeqC.take (v := ?_) rfl (by rfl) (fun W hW => ?_) ?_; rotate_left; (focus (have z0 := hW.get (by simp) d0; have z1 := hW.get (by simp) d1; have z3 := hW.get (by simp) d3; have z4 := hW.get (by simp) d4; go_simp; with_reducible rfl)); simp only [Act.put, List.setIfInBounds_toArray, List.set_cons_zero, List.set_cons_succ]
    refine SeqC.take (v := ?_) rfl (by rfl) (fun W hW => ?_) ?_; rotate_left; (focus (have z0 := hW.get (by simp) d0; have z1 := hW.get (by simp) d1; have z3 := hW.get (by simp) d3; have z4 := hW.get (by simp) d4; go_simp; with_reducible rfl)); simp only [Act.put, List.setIfInBounds_toArray, List.set_cons_zero, List.set_cons_succ]
    refine SeqC.take (v := ?_) rfl (by rfl) (fun W hW => ?_) ?_; rotate_left; (focus (have z0 := hW.get (by simp) d0; have z1 := hW.get (by simp) d1; have z3 := hW.get (by simp) d3; have z4 := hW.get (by simp) d4; go_simp; with_reducible rfl)); simp only [Act.put, List.setIfInBounds_toArray, List.set_cons_zero, List.set_cons_succ]
    refine SeqC.take (v := ?_) rfl (by rfl) (fun W hW => ?_) ?_; rotate_left; (focus (have z0 := hW.get (by simp) d0; have z1 := hW.get (by simp) d1; have z3 := hW.get (by simp) d3; have z4 := hW.get (by simp) d4; go_simp; with_reducible rfl)); simp only [Act.put, List.setIfInBounds_toArray, List.set_cons_zero, List.set_cons_succ]
    refine SeqC.take (v := ?_) rfl (by rfl) (fun W hW => ?_) ?_; rotate_left; (focus (have z0 := hW.get (by simp) d0; have z1 := hW.get (by simp) d1; have z3 := hW.get (by simp) d3; have z4 := hW.get (by simp) d4; go_simp; with_reducible rfl)); simp only [Act.put, List.setIfInBounds_toArray, List.set_cons_zero, List.set_cons_succ]
    refine SeqC.take (v := ?_) rfl (by rfl) (fun W hW => ?_) ?_; rotate_left; (focus (have z0 := hW.get (by simp) d0; have z1 := hW.get (by simp) d1; have z3 := hW.get (by simp) d3; have z4 := hW.get (by simp) d4; go_simp; with_reducible rfl)); simp only [Act.put, List.setIfInBounds_toArray, List.set_cons_zero, List.set_cons_succ]
    refine SeqC.take (v := ?_) rfl (by rfl) (fun W hW => ?_) ?_; rotate_left; (focus (have z0 := hW.get (by simp) d0; have z1 := hW.get (by simp) d1; have z3 := hW.get (by simp) d3; have z4 := hW.get (by simp) d4; go_simp; with_reducible rfl)); simp only [Act.put, List.setIfInBounds_toArray, List.set_cons_zero, List.set_cons_succ]
    refine SeqC.take (v := ?_) rfl (by rfl) (fun W hW => ?_) ?_; rotate_left; (focus (have z0 := hW.get (by simp) d0; have z1 := hW.get (by simp) d1; have z3 := hW.get (by simp) d3; have z4 := hW.get (by simp) d4; go_simp; with_reducible rfl)); simp only [Act.put, List.setIfInBounds_toArray, List.set_cons_zero, List.set_cons_succ]
    refine SeqC.step rfl (by rfl) (fun K' hK => wp_load_mid tS _ rfl gs (os + k * 26) rfl el _ hrng Tryz.underlying51 rfl (by rw [h26]; exact sR) (hK _ _ (Cells.refl _ _) ?_))
    simp only [Act.put, List.setIfInBounds_toArray, List.set_cons_zero, List.set_cons_succ]
    refine SeqC.step rfl (by rfl) (fun K' hK => wp_store_row tS _ _ rfl (w.heap.size + 1) el.toArray rfl rfl tS _ hz4 (by rw [List.size_toArray, h26]; exact sR) (by simp [h26]) (by simpa using h1s) (hK _ _ (fun p hp => cell_setRow_other w4.drew (w.heap.size + 1) _ p ?_) ?_))
    · simp only [List.mem_cons, List.not_mem_nil, or_false] at hp
      rcases hp with rfl | rfl | rfl | rfl
      · show g2 ≠ w.heap.size + 1; omega
      · show g2 ≠ w.heap.size + 1; omega
      · show w.heap.size ≠ w.heap.size + 1; omega
      · show gb ≠ w.heap.size + 1; omega
    simp only [Act.put]
    refine SeqC.take (v := ?_) rfl (by rfl) (fun W hW => ?_) ?_; rotate_left; (focus (go_simp; with_reducible rfl)); simp only [Act.put, List.setIfInBounds_toArray, List.set_cons_zero, List.set_cons_succ]
    refine SeqC.done ?_
    have hbE := below_setRow b3'.drew (g := w.heap.size + 1) (by omega) el.toArray
    have hgE := setRow_heap w4.drew (w.heap.size + 1) _ el.toArray tS _ hz4
    clear d0 d1 d3 d4 hz4 hz3 hrng
    generalize w4.drew.setRow (w.heap.size + 1) el.toArray = wE at *
    go_wp2
    refine bodyPost_ret (results_row_tmp rfl _ _ (w.heap.size + 1) _ el.toArray (0, 0) _ rfl hgE Tryz.underlying51 rfl (by rw [List.size_toArray, h26]; exact sR)) rfl ?_
    exact ⟨by unfold stV; rw [HS2.out]; rfl, hbE⟩
  · obtain rfl : k = b.st.length := by omega
    have hst := HST.out
    rw [List.getElem?_eq_none (Nat.le_refl _)] at hst
    have HS2 := Lib.hid hst
    clear hst hrow
    go_upto_region 4 with fail
    refine wp_region_lit ?_
    refine wpList_read (v := ?_) rfl ?_ ?_; rotate_left; (focus (go_simp; with_reducible rfl)); simp only [Act.put, List.setIfInBounds_toArray, List.set_cons_zero, List.set_cons_succ]
    refine wpList_store_to rfl tS _ _ rfl rfl (w.heap.size + 1) #[.int .u8 0, .int .i64 0, .bool false, .int .u8 0, .int .u8 0, .int .u8 0, .int .u8 0, .int .u8 0, .int .i64 0, .int .i64 0, .bool false, .int .u8 0, .int .u8 0, .int .i64 0, .int .i64 0, .bool false, .int .u8 0, .int .i64 0, .bool false, .int .u8 0, .int .u8 0, .int .i64 0, .int .i64 0, .bool false, .int .u8 0, .int .i64 0] rfl rfl tS _ hz3 (by kernel_rfl) rfl (by simp [Value.oneCell']) ?_
    refine wpList_read (v := ?_) rfl ?_ ?_; rotate_left; (focus (go_simp; with_reducible rfl)); simp only [Act.put, List.setIfInBounds_toArray, List.set_cons_zero, List.set_cons_succ]
    refine wpList_nil ?_
    have hbE := below_setRow b3' (g := w.heap.size + 1) (by omega) #[.int .u8 0, .int .i64 0, .bool false, .int .u8 0, .int .u8 0, .int .u8 0, .int .u8 0, .int .u8 0, .int .i64 0, .int .i64 0, .bool false, .int .u8 0, .int .u8 0, .int .i64 0, .int .i64 0, .bool false, .int .u8 0, .int .i64 0, .bool false, .int .u8 0, .int .u8 0, .int .i64 0, .int .i64 0, .bool false, .int .u8 0, .int .i64 0]
    have hgE := setRow_heap w4 (w.heap.size + 1) _ #[.int .u8 0, .int .i64 0, .bool false, .int .u8 0, .int .u8 0, .int .u8 0, .int .u8 0, .int .u8 0, .int .i64 0, .int .i64 0, .bool false, .int .u8 0, .int .u8 0, .int .i64 0, .int .i64 0, .bool false, .int .u8 0, .int .i64 0, .bool false, .int .u8 0, .int .u8 0, .int .i64 0, .int .i64 0, .bool false, .int .u8 0, .int .i64 0] tS _ hz3
    clear d0 d1 d3 d4 hz3
    generalize w4.setRow (w.heap.size + 1) #[.int .u8 0, .int .i64 0, .bool false, .int .u8 0, .int .u8 0, .int .u8 0, .int .u8 0, .int .u8 0, .int .i64 0, .int .i64 0, .bool false, .int .u8 0, .int .u8 0, .int .i64 0, .int .i64 0, .bool false, .int .u8 0, .int .i64 0, .bool false, .int .u8 0, .int .u8 0, .int .i64 0, .int .i64 0, .bool false, .int .u8 0, .int .i64 0] = wE at *
    go_wp2
    refine bodyPost_ret (results_row_tmp rfl _ _ (w.heap.size + 1) _ #[.int .u8 0, .int .i64 0, .bool false, .int .u8 0, .int .u8 0, .int .u8 0, .int .u8 0, .int .u8 0, .int .i64 0, .int .i64 0, .bool false, .int .u8 0, .int .u8 0, .int .i64 0, .int .i64 0, .bool false, .int .u8 0, .int .i64 0, .bool false, .int .u8 0, .int .u8 0, .int .i64 0, .int .i64 0, .bool false, .int .u8 0, .int .i64 0] (0, 0) _ rfl hgE Tryz.underlying51 rfl (by kernel_rfl)) rfl ?_
    exact ⟨by unfold stV; rw [HS2.out]; rfl, hbE⟩
end Go.Proofs.YthdcahkedlijpaaGreat.loan
