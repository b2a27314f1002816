/- TextNames: the law answers true. -/
import Derived.Test.YtglmonlofejcgaaDoorTextAl
import Derived.Test.YtglmonlofejcgaaDoorPgK
namespace Go.Proofs.YtglmonlofejcgaaDoor.txt
open Go.RowKit Go.Proofs.YtglmonlofejcgaaDoor Go.Proofs.YtglmonlofejcgaaDoor.Am Go.Proofs.YtglmonlofejcgaaDoor.loan Go.Proofs.YtglmonlofejcgaaDoor.bld
set_option linter.unusedVariables false
abbrev tTy : TypeId := 63
structure Ex0 (w W : World) : Prop where
 b : Below w.heap.size w W
 n : w.heap.size + 3 < W.heap.size
 t : W.heap[w.heap.size + 1]? = some (.cells #[.int .u8 1, .int .u8 0] tTy (0, 0))
 s : W.heap[w.heap.size + 2]? = some (.cells exS.toArray tSt (0, 0))
 k : W.heap[w.heap.size + 3]? = some (.cells (exB (.slice (some ⟨w.heap.size + 2, 0, none⟩) 1 1)).cells.toArray tBk (0, 0))
def ex0V (H : Nat) : Value := .agg #[.int .i64 0, .bool false, .slice (some ⟨H + 1, 0, none⟩) 1 1, .slice (some ⟨H + 3, 0, none⟩) 1 1]
set_option maxHeartbeats 4000000 in
set_option maxRecDepth 100000 in
theorem ex_raw (w : World) : Calls Tryd.prog 16 #[] w fun e W => e = .returned (ex0V w.heap.size) ∧ Ex0 w W := by
 go_enter Tryd.func16, Tryd.ntmps16
 go_wp2_with fail
 refine bodyPost_ret (results_cell_row rfl _ _ w.heap.size tFn #[.int .i64 0, .bool false, .slice (some ⟨w.heap.size + 1, 0, none⟩) 1 1, .slice (some ⟨w.heap.size + 1 + 1 + 1, 0, none⟩) 1 1] (0, 0) _ rfl (at_more (at_more (at_more (at_alloc rfl)))) Tryd.underlying25 rfl (by kernel_rfl)) rfl ?_
 refine ⟨rfl, ((((Below.refl _ _).alloc (Nat.le_refl _) _).alloc (by simp) _).alloc (by simp; omega) _).alloc (by simp; omega) _, by simp, ?_, ?_, ?_⟩
 ·exact at_more (at_more (at_alloc (by simp)))
 ·exact at_more (at_alloc (by simp))
 ·exact at_alloc (by simp)
def goB : BlkD := ⟨.slice none 0 0, [.int .u8 1, .int .u8 0, .int .i64 0, .int .i64 0, .bool false, .int .u8 0, .int .i64 0, .int .i64 1, .int .i64 0], .slice none 0 0, [.int .i64 0, .bool false, .int .u8 0], [], []⟩
def nmD (lv bv s : Value) : FnD := ⟨1, true, lv, bv, [[.int .u8 1, .int .u8 0], [.int .u8 1, .int .u8 0]], [exB s, goB], ⟨.slice none 0 0, []⟩⟩
def nmC : FnD := (nmD nilV nilV nilV).core
theorem nm_core (lv bv s : Value) : (nmD lv bv s).core = nmC := rfl
set_option maxRecDepth 100000 in
theorem nmC_chk : check.chkF nmC = 0 := by kernel_rfl
theorem nm_chk (lv bv s : Value) : check.chkF (nmD lv bv s) = 0 := by rw [← chk_core, nm_core]; exact nmC_chk
def nmT (c : UInt8) : List UInt8 := [102, 110, 32, c, 32, 40, 49, 41, 32, 117, 110, 115, 97, 102, 101, 10, 120, 48, 58, 32, 105, 110, 116, 10, 120, 49, 58, 32, 105, 110, 116, 10, 98, 48, 58, 10, 32, 32, 112, 114, 105, 110, 116, 32, 49, 10, 32, 32, 114, 101, 116, 117, 114, 110, 10, 98, 49, 58, 10, 32, 32, 103, 111, 116, 111, 32, 98, 49, 10]
set_option maxRecDepth 100000 in
theorem nmC_text7 : textF nmC 7 = nmT 55 := by kernel_rfl
set_option maxRecDepth 100000 in
theorem nmC_text0 : textF nmC 0 = nmT 48 := by kernel_rfl
set_option maxRecDepth 100000 in
theorem exC_text1 : textF exC 1 = [102, 110, 32, 49, 32, 40, 48, 41, 10, 120, 48, 58, 32, 105, 110, 116, 10, 98, 48, 58, 10, 32, 32, 112, 114, 105, 110, 116, 32, 49, 10, 32, 32, 114, 101, 116, 117, 114, 110, 10] := by kernel_rfl
theorem nm_text (lv bv s : Value) (n : Int) : textF (nmD lv bv s) n = textF nmC n := text_core (D := nmC) (D' := nmD lv bv s) (by rw [nm_core]; rfl) n
theorem ex_textn (lv bv s : Value) (n : Int) : textF (exD lv bv s) n = textF exC n := text_core (D := exC) (D' := exD lv bv s) (by rw [ex_core]; rfl) n
theorem nm_prog (lv bv s lv' bv' s' : Value) : prg.chkP [nmD lv bv s, exD lv' bv' s'] = 0 := by
 have h1 := nm_chk lv bv s
 have h2 := ex_chk lv' bv' s'
 unfold prg.chkP prg.badF prg.badF prg.badF
 rw [if_pos h1, if_pos h2]
 rfl
theorem nm_textP (lv bv s lv' bv' s' : Value) : prg.textP 0 [nmD lv bv s, exD lv' bv' s'] = nmT 48 ++ [102, 110, 32, 49, 32, 40, 48, 41, 10, 120, 48, 58, 32, 105, 110, 116, 10, 98, 48, 58, 10, 32, 32, 112, 114, 105, 110, 116, 32, 49, 10, 32, 32, 114, 101, 116, 117, 114, 110, 10] := by
 unfold prg.textP prg.textP prg.textP
 rw [nm_text, ex_textn]
 have h1 := nmC_text0
 have h2 := exC_text1
 rw [show ((0 : Nat) : Int) = 0 from rfl, show ((0 + 1 : Nat) : Int) = 1 from rfl, h1, h2, List.append_nil]
theorem nm_ok {w : World} {B S : Nat} {v1 v2 : Value} (h1 : w.ownsRow B tTy 2 v1 2 [.int .u8 1, .int .u8 0, .int .u8 1, .int .u8 0]) (hS : w.heap[S]? = some (.cells exS.toArray tSt (0, 0))) (h2 : w.ownsRow B tBk 14 v2 2 ((exB (.slice (some ⟨S, 0, none⟩) 1 1)).cells ++ goB.cells)) :
  FnOk' w (.agg #[.int .i64 1, .bool true, v1, v2]) (nmD v1 v2 (.slice (some ⟨S, 0, none⟩) 1 1)) := by
 refine ⟨rfl, ⟨1, rfl, by decide, by decide⟩, ListAt.of_own (base := B) (e := tTy) (els := [[.int .u8 1, .int .u8 0], [.int .u8 1, .int .u8 0]]) h1 (by decide), fun t ht => ?_, ListAt.of_own (base := B) (e := tBk) (els := [(exB (.slice (some ⟨S, 0, none⟩) 1 1)).cells, goB.cells]) (by rw [List.flatten_cons, List.flatten_cons, List.flatten_nil, List.append_nil]; exact h2) (by intro x hx; simp only [List.mem_cons, List.not_mem_nil, or_false] at hx; rcases hx with rfl | rfl <;> rfl), fun b hb => ?_⟩
 ·simp only [nmD, List.mem_cons, List.not_mem_nil, or_false, or_self] at ht
  rw [ht]
  exact ⟨⟨_, rfl, by decide, by decide⟩, ⟨_, rfl, by decide, by decide⟩, trivial⟩
 ·simp only [nmD, List.mem_cons, List.not_mem_nil, or_false] at hb
  rcases hb with rfl | rfl
  ·refine ⟨ListAt.of_block hS rfl (by decide), fun s hs => ?_, ?_, nil_list w 5, fun o ho => (by cases ho), ?_⟩
   ·rw [List.mem_singleton.1 hs]; exact exS_kinds
   ·exact ⟨⟨_, rfl, by decide, by decide⟩, ⟨_, rfl, by decide, by decide⟩, ⟨_, rfl, by decide, by decide⟩, ⟨_, rfl, by decide, by decide⟩, ⟨_, rfl⟩, ⟨_, rfl, by decide, by decide⟩, ⟨_, rfl, by decide, by decide⟩, ⟨_, rfl, by decide, by decide⟩, ⟨_, rfl, by decide, by decide⟩, trivial⟩
   ·exact ⟨⟨_, rfl, by decide, by decide⟩, ⟨_, rfl⟩, ⟨_, rfl, by decide, by decide⟩, trivial⟩
  ·refine ⟨nil_list w 26, fun s hs => (by cases hs), ?_, nil_list w 5, fun o ho => (by cases ho), ?_⟩
   ·exact ⟨⟨_, rfl, by decide, by decide⟩, ⟨_, rfl, by decide, by decide⟩, ⟨_, rfl, by decide, by decide⟩, ⟨_, rfl, by decide, by decide⟩, ⟨_, rfl⟩, ⟨_, rfl, by decide, by decide⟩, ⟨_, rfl, by decide, by decide⟩, ⟨_, rfl, by decide, by decide⟩, ⟨_, rfl, by decide, by decide⟩, trivial⟩
   ·exact ⟨⟨_, rfl, by decide, by decide⟩, ⟨_, rfl⟩, ⟨_, rfl, by decide, by decide⟩, trivial⟩
theorem wpList_appendG {P : Program} {ops : Array Oper} {rest : List Oper} {o : Oper} {a : Act} {Q : Exit → Act → World → Prop} {W : World} (hgd : o.guard = none) (s x : Operand) (t : TypeId)
  (ho : o.op = .call { callee := .builtin .append, args := #[s, x], argTypes := #[t, t] })
  (B : Nat) (e : TypeId) (z : Value) (size bytes : Nat) (ht : P.underlying t = some (.slice e)) (hrow : (P.info? e).map (fun i => (i.zero, i.size, i.bytes)) = some (some z, size, bytes)) (hzs : z.cells.size = size) (hsz : 0 < size)
  (v : Value) (n : Nat) (xs : List Value) (hs : a.eval s = v) (hown : W.ownsRow B e size v n xs)
  (us : List Value) (g c : Nat) (hx : a.eval x = .slice (some ⟨g, 0, none⟩) 1 c) (hg : W.heap[g]? = some (.cells us.toArray e (0, 0))) (hl : us.length = size) (h1 : ∀ u ∈ us, u.oneCell' = true)
  (hn : n < 1000000) (hby : bytes ≤ 1024) (hB : B ≤ W.heap.size)
  (h : ∀ v' w', w'.ownsRow B e size v' (n + 1) (xs ++ us) → W.grownBy w' v.ownBlock → wpList P ops Q rest (a.put o.dst v') w') : wpList P ops Q (o :: rest) a W := by
 obtain ⟨i0, hi, hz0, hz1, hz2⟩ := info_parts hrow
 have hmul : (n + 1) * bytes ≤ 1000000 * 1024 := Nat.mul_le_mul (by omega) hby
 refine wpList_append_own _ hgd s x t ho B e i0 z size bytes ht hi hz0 hz1 hz2 hzs hsz v n xs hs hown ⟨g, 0, none⟩ 1 c us hx (by omega) (fun j u hu => ?_) h1 (by simp only [maxLen]; omega) (by omega) hB ?_
 ·rw [addr_add, Nat.zero_add, cell_of_row W g j us.toArray e (0, 0) hg]
  simpa using hu
 ·intro v' w' hown' hg' _
  exact h v' w' hown' hg'
theorem tyRow : (Tryd.prog.info? 63).map (fun i => (i.zero, i.size, i.bytes)) = some (some (.agg #[.int .u8 0, .int .u8 0]), 2, 2) := by kernel_rfl
def bk0 : List Value := [.slice none 0 0, .int .u8 0, .int .u8 0, .int .i64 0, .int .i64 0, .bool false, .int .u8 0, .int .i64 0, .int .i64 0, .int .i64 0, .slice none 0 0, .int .i64 0, .bool false, .int .u8 0]
theorem bkRow : (Tryd.prog.info? 52).map (fun i => (i.zero, i.size, i.bytes)) = some (some (.agg bk0.toArray), 14, 128) := by kernel_rfl
theorem own_form {w : World} {B : Nat} {e : TypeId} {s n : Nat} {v : Value} {xs : List Value} (h : w.ownsRow B e s v (n + 1) xs) : ∃ g cap, v = .slice (some ⟨g, 0, none⟩) (n + 1) cap := by
 rcases h.2 with ⟨_, h0⟩ | ⟨g, cap, cur, hv, _⟩
 ·omega
 ·exact ⟨g, cap, hv⟩
structure Fm (w : World) (F S : Nat) (v1 v2 : Value) (n1 n2 : Nat) (x1 x2 : List Value) (W : World) : Prop where
 b : Below w.heap.size w W
 l : w.heap.size ≤ F
 x : Box W F tFn (.int .i64 1) (.bool true) v1 v2
 s : W.heap[S]? = some (.cells exS.toArray tSt (0, 0))
 o1 : W.ownsRow w.heap.size tTy 2 v1 n1 x1
 o2 : W.ownsRow w.heap.size tBk 14 v2 n2 x2
theorem own_blk {w : World} {B : Nat} {e : TypeId} {s n : Nat} {v : Value} {xs : List Value} (h : w.ownsRow B e s v n xs) : ∀ g, v.ownBlock = some g → ∃ cur, w.heap[g]? = some (.cells cur e (0, 0)) := fun g hg => by
 rcases h.2 with ⟨rfl, _⟩ | ⟨g', cap, cur, rfl, _, hc, _⟩
 ·cases hg
 ·have e : g' = g := by simpa [Value.ownBlock] using hg
  exact ⟨cur, e ▸ hc⟩
theorem kind_ne {w : World} {k g : Nat} {c d : Array Value} {t e : TypeId} {f f' : Nat × Nat} (hk : w.heap[k]? = some (.cells c t f)) (hg : w.heap[g]? = some (.cells d e f')) (ht : t ≠ e) : k ≠ g := fun x => by
 subst x
 rw [hk] at hg
 injection hg with hg
 injection hg with _ h2
 exact ht h2
theorem Fm.loc {w W w3 : World} {F S n1 n2 m1 : Nat} {v1 v2 u1 : Value} {x1 x2 y1 : List Value} {o : Obj} (h : Fm w F S v1 v2 n1 n2 x1 x2 W) (hg : (W.alloc o).grownBy w3 v1.ownBlock) (ho : w3.ownsRow w.heap.size tTy 2 u1 m1 y1) : Fm w F S u1 v2 m1 n2 y1 x2 (w3.setCell ⟨F, 2, none⟩ u1) := by
 have hkeep : ∀ (k : Nat) (c : Array Value) (t : TypeId), W.heap[k]? = some (Obj.cells c t (0, 0)) → t ≠ tTy → w3.heap[k]? = some (Obj.cells c t (0, 0)) := fun k c t hk ht => at_grown hg (at_more hk) fun e => by
  obtain ⟨cur, hc⟩ := own_blk h.o1 k e.symm
  exact kind_ne hk hc ht rfl
 have hF3 := hkeep F _ _ h.x (by decide)
 have hset : ∀ (k : Nat) (c : Array Value) (t : TypeId), w3.heap[k]? = some (Obj.cells c t (0, 0)) → t ≠ tFn → (w3.setCell ⟨F, 2, none⟩ u1).heap[k]? = some (Obj.cells c t (0, 0)) := fun k c t hk ht => (heap_setCell_other _ _ _ _ (kind_ne hk hF3 ht)).trans hk
 refine ⟨((h.b.alloc h.b.size o).grown hg (by have := h.b.size; simp; omega) (fun k hk => (h.o1.lt k hk).1)).setCell (p := ⟨F, 2, none⟩) h.l _, h.l, ?_, hset S _ _ (hkeep S _ _ h.s (by decide)) (by decide), owns_keep ho fun k hk => ?_, owns_keep h.o2 fun k hk => ?_⟩
 ·exact heap_setCell_same _ _ _ _ _ _ hF3
 ·obtain ⟨cur, hc⟩ := own_blk ho k (mem_blkOf.1 hk)
  exact (hset k _ _ hc (by decide)).trans hc.symm
 ·obtain ⟨cur, hc⟩ := own_blk h.o2 k (mem_blkOf.1 hk)
  exact (hset k _ _ (hkeep k _ _ hc (by decide)) (by decide)).trans hc.symm
theorem Fm.blk {w W w3 : World} {F S n1 n2 m1 : Nat} {v1 v2 u1 : Value} {x1 x2 y1 : List Value} {o : Obj} (h : Fm w F S v1 v2 n1 n2 x1 x2 W) (hg : (W.alloc o).grownBy w3 v2.ownBlock) (ho : w3.ownsRow w.heap.size tBk 14 u1 m1 y1) : Fm w F S v1 u1 n1 m1 x1 y1 (w3.setCell ⟨F, 3, none⟩ u1) := by
 have hkeep : ∀ (k : Nat) (c : Array Value) (t : TypeId), W.heap[k]? = some (Obj.cells c t (0, 0)) → t ≠ tBk → w3.heap[k]? = some (Obj.cells c t (0, 0)) := fun k c t hk ht => at_grown hg (at_more hk) fun e => by
  obtain ⟨cur, hc⟩ := own_blk h.o2 k e.symm
  exact kind_ne hk hc ht rfl
 have hF3 := hkeep F _ _ h.x (by decide)
 have hset : ∀ (k : Nat) (c : Array Value) (t : TypeId), w3.heap[k]? = some (Obj.cells c t (0, 0)) → t ≠ tFn → (w3.setCell ⟨F, 3, none⟩ u1).heap[k]? = some (Obj.cells c t (0, 0)) := fun k c t hk ht => (heap_setCell_other _ _ _ _ (kind_ne hk hF3 ht)).trans hk
 refine ⟨((h.b.alloc h.b.size o).grown hg (by have := h.b.size; simp; omega) (fun k hk => (h.o2.lt k hk).1)).setCell (p := ⟨F, 3, none⟩) h.l _, h.l, ?_, hset S _ _ (hkeep S _ _ h.s (by decide)) (by decide), owns_keep h.o1 fun k hk => ?_, owns_keep ho fun k hk => ?_⟩
 ·exact heap_setCell_same _ _ _ _ _ _ hF3
 ·obtain ⟨cur, hc⟩ := own_blk h.o1 k (mem_blkOf.1 hk)
  exact (hset k _ _ (hkeep k _ _ hc (by decide)) (by decide)).trans hc.symm
 ·obtain ⟨cur, hc⟩ := own_blk ho k (mem_blkOf.1 hk)
  exact (hset k _ _ hc (by decide)).trans hc.symm
def zD : FnD := ⟨0, false, .slice none 0 0, .slice none 0 0, [], [], ⟨.slice none 0 0, []⟩⟩
set_option maxRecDepth 100000 in
theorem zD_chk : check.chkF zD = 8 := by kernel_rfl
theorem zD_ok (w : World) : FnOk' w (.agg #[.int .i64 0, .bool false, .slice none 0 0, .slice none 0 0]) zD :=
 ⟨rfl, ⟨0, rfl, by decide, by decide⟩, nil_list w 2, fun t ht => (by cases ht), nil_list w 14, fun b hb => (by cases hb)⟩
theorem zP_ok (w : World) : ProgOk w (.agg #[.slice none 0 0]) (.slice none 0 0) [] := ⟨rfl, nil_list w 4, fun D hD => by cases hD⟩
def badP (v : Value) (W : World) (x y : Int) : Prop := Calls Tryd.prog 13 #[v, .agg #[.int .i64 x, .int .i64 y]] W (Ans2 0 2 W)
theorem bad_pts {W : World} {v1 v2 : Value} {S : Nat} (hf : FnOk' W (.agg #[.int .i64 1, .bool true, v1, v2]) (nmD v1 v2 (.slice (some ⟨S, 0, none⟩) 1 1))) : badP (.agg #[.int .i64 1, .bool true, v1, v2]) W (-1) 0 ∧ badP (.agg #[.int .i64 1, .bool true, v1, v2]) W 2 0 ∧ badP (.agg #[.int .i64 1, .bool true, v1, v2]) W 0 2 ∧ badP (.agg #[.int .i64 1, .bool true, v1, v2]) W 0 (-1) ∧ badP (.agg #[.int .i64 1, .bool true, v1, v2]) W 1 1 := by
 have hL := lim_of hf (nm_chk _ _ _)
 have hC : ChkT 23 W (.agg #[.int .i64 1, .bool true, v1, v2]) 0 := by have := chk_a hf; rwa [nm_chk] at this
 exact ⟨line_o1 hf hL hC (by decide), line_o2 hf hL hC (by decide) (show ((2 : Nat) : Int) ≤ 2 by decide), line_o4 hf hL hC (pb := 0) (show 0 < 2 by decide) (show ((1 : Nat) : Int) < 2 by decide), line_o3 hf hL hC (pb := 0) (show 0 < 2 by decide) (by decide), line_o4 hf hL hC (pb := 1) (show 1 < 2 by decide) (show ((0 : Nat) : Int) < 1 by decide)⟩
def YesN (w : World) (e : Ending) (w' : World) : Prop := e = .returned (.bool true) ∧ Below w.heap.size w w'
set_option maxHeartbeats 16000000 in
set_option maxRecDepth 100000 in
theorem names_walk {w : World} (kt : TabOk w) : Calls Tryd.prog 5 #[] w (YesN w) := by
 have HX := Lib.hid (fun W => ex_raw W)
 have HK := Lib.hid kt
 have HA := Lib.hid (fun (w1 : World) (hb : Below w.heap.size w w1) => alive_c (tab_more kt hb))
 clear kt
 unfold ex0V at HX
 go_enter Tryd.func5, Tryd.ntmps5
 go_upto_region 3 with (go_at_call 16; refine (HX.out _).mono ?_; rintro e w1 ⟨rfl, h1⟩)
 have b1 := h1.b
 have hF : w.heap.size + 3 < w1.heap.size := h1.n
 have X0 := Lib.hid (show Fm w w1.heap.size (w.heap.size + 2) (.slice (some ⟨w.heap.size + 1, 0, none⟩) 1 1) (.slice (some ⟨w.heap.size + 3, 0, none⟩) 1 1) 1 1 [.int .u8 1, .int .u8 0] (exB (.slice (some ⟨w.heap.size + 2, 0, none⟩) 1 1)).cells (w1.alloc (.cells #[.int .i64 1, .bool true, .slice (some ⟨w.heap.size + 1, 0, none⟩) 1 1, .slice (some ⟨w.heap.size + 3, 0, none⟩) 1 1] tFn)) from
  ⟨b1.alloc b1.size _, b1.size, Box.mk rfl, at_more h1.s, ⟨rfl, .inr ⟨_, 1, _, rfl, by omega, at_more h1.t, Nat.le_refl _, by decide, rfl, rfl⟩⟩, ⟨rfl, .inr ⟨_, 1, _, rfl, by omega, at_more h1.k, Nat.le_refl _, by decide, rfl, rfl⟩⟩⟩)
 clear h1 b1
 generalize w1.heap.size = F at *
 generalize w1.alloc (.cells #[.int .i64 1, .bool true, .slice (some ⟨w.heap.size + 1, 0, none⟩) 1 1, .slice (some ⟨w.heap.size + 3, 0, none⟩) 1 1] tFn) = w2 at *
 obtain ⟨y0, y1, y2, y3⟩ := X0.out.x.cells
 have hsz := X0.out.b.size
 go_upto_region 4 with (at_builtin; refine wpList_appendG rfl _ _ 22 rfl w.heap.size tTy (.agg #[.int .u8 0, .int .u8 0]) 2 2 Tryd.underlying22 tyRow rfl (by decide) _ _ _ rfl (X0.out.o1.alloc _) [.int .u8 1, .int .u8 0] _ 1 rfl (at_alloc rfl) rfl (by simp [Value.oneCell']) (by omega) (by omega) (by simp; omega) ?_; intro av w3 hown1 hg0; obtain ⟨ag, ae, rfl⟩ := own_form hown1; have hg1 : (w2.alloc (.cells #[.int .u8 1, .int .u8 0] tTy)).grownBy w3 (some (w.heap.size + 1)) := hg0; have hb3 := at_grown hg1 (at_more X0.out.x) (show some F ≠ some (w.heap.size + 1) from (fun e => (by (injection e; omega)))); have d2 : w3.cell? ⟨F, 2, none⟩ = some (.slice (some ⟨w.heap.size + 1, 0, none⟩) 1 1) := (by (rw [Lib.cell_of_heap hb3]; rfl)); have f2 : w3.frozen? ⟨F, 2, none⟩ = false := Lib.frozen_of_heap hb3 2)
 have X1 := Lib.hid (X0.out.loc (u1 := .slice (some ⟨ag, 0, none⟩) 2 ae) hg1 hown1)
 have hb4 : F < w3.heap.size := (Array.getElem?_eq_some_iff.1 hb3).1
 clear y0 y1 y2 y3 hsz hown1 hg0 hg1 hb3 d2 f2 X0
 generalize w3.setCell ⟨F, 2, none⟩ (.slice (some ⟨ag, 0, none⟩) 2 ae) = w4 at *
 clear hb4 w3
 obtain ⟨y0, y1, y2, y3⟩ := X1.out.x.cells
 have hsz := X1.out.b.size
 go_upto_region 5 with (at_builtin; refine wpList_appendG rfl _ _ 23 rfl w.heap.size tBk (.agg bk0.toArray) 14 128 Tryd.underlying23 bkRow rfl (by decide) _ _ _ rfl (X1.out.o2.alloc _) [.slice none 0 0, .int .u8 1, .int .u8 0, .int .i64 0, .int .i64 0, .bool false, .int .u8 0, .int .i64 0, .int .i64 1, .int .i64 0, .slice none 0 0, .int .i64 0, .bool false, .int .u8 0] _ 1 rfl (at_alloc rfl) rfl (by simp [Value.oneCell']) (by omega) (by omega) (by simp; omega) ?_; intro cv w5 hown1 hg0; obtain ⟨cg, ce, rfl⟩ := own_form hown1; have hg1 : (w4.alloc (.cells #[.slice none 0 0, .int .u8 1, .int .u8 0, .int .i64 0, .int .i64 0, .bool false, .int .u8 0, .int .i64 0, .int .i64 1, .int .i64 0, .slice none 0 0, .int .i64 0, .bool false, .int .u8 0] tBk)).grownBy w5 (some (w.heap.size + 3)) := hg0; have hb3 := at_grown hg1 (at_more X1.out.x) (show some F ≠ some (w.heap.size + 3) from (fun e => (by (injection e; omega)))); have d2 : w5.cell? ⟨F, 3, none⟩ = some (.slice (some ⟨w.heap.size + 3, 0, none⟩) 1 1) := (by (rw [Lib.cell_of_heap hb3]; rfl)); have f2 : w5.frozen? ⟨F, 3, none⟩ = false := Lib.frozen_of_heap hb3 3)
 have X2 := Lib.hid (X1.out.blk (u1 := .slice (some ⟨cg, 0, none⟩) 2 ce) hg1 hown1)
 have hb4 : F < w5.heap.size := (Array.getElem?_eq_some_iff.1 hb3).1
 clear y0 y1 y2 y3 hsz hown1 hg0 hg1 hb3 d2 f2 X1
 generalize w5.setCell ⟨F, 3, none⟩ (.slice (some ⟨cg, 0, none⟩) 2 ce) = w6 at *
 clear hb4 w5
 have HF := Lib.hid (fun (W : World) (hW : Below w6.heap.size w6 W) => nm_ok (S := w.heap.size + 2) (B := w.heap.size) (w := W) (v1 := .slice (some ⟨ag, 0, none⟩) 2 ae) (v2 := .slice (some ⟨cg, 0, none⟩) 2 ce) (owns_below X2.out.o1 hW) ((hW.block _ (Array.getElem?_eq_some_iff.1 X2.out.s).1).trans X2.out.s) (owns_below X2.out.o2 hW))
 have HB := Lib.hid X2.out.b
 have HBX := Lib.hid X2.out.x
 clear X2
 have HFU := Lib.hid (fun (W : World) (hW : Below w6.heap.size w6 W) (n : Int) (h0 : 0 ≤ n) (h8 : n < 8) => func_c (HF.out W hW) (lim_of (HF.out W hW) (nm_chk _ _ _)) (cons_of (HF.out W hW) (tab_more HK.out (HB.out.trans (hW.mono HB.out.size))) (nm_chk _ _ _)) h0 h8 (by have := chk_a (HF.out W hW); rwa [nm_chk] at this))
 have HFO := Lib.hid (fun (W : World) (hW : Below w6.heap.size w6 W) (n : Int) (hn : n < 0 ∨ 8 ≤ n) => func_out (HF.out W hW) hn (by have := chk_a (HF.out W hW); rwa [nm_chk] at this))
 obtain ⟨y0, y1, y2, y3⟩ := HBX.out.cells
 go_upto_region 6 with (go_at_call 9; refine (HFU.out _ (Below.refl _ _) 7 (by decide) (by decide)).mono ?_; rw [nm_text, nmC_text7]; rintro e w7 ⟨rfl, b7⟩)
 have HX7 := Lib.hid (HBX.out.below b7)
 have B7 := Lib.hid b7
 clear y0 y1 y2 y3 b7
 refine region_cells [⟨F, 0, none⟩, ⟨F, 1, none⟩, ⟨F, 2, none⟩, ⟨F, 3, none⟩] [(0, true), (1, false), (2, false), (3, true), (4, false), (5, true), (6, true), (7, true), (8, true), (9, true)] (by kernel_rfl) (by kernel_rfl) (by decide) (by kernel_rfl) (fun _ _ _ _ _ h => h) ?_
 have HXD := Lib.hid (show Box w7.drew F tFn (.int .i64 1) (.bool true) (.slice (some ⟨ag, 0, none⟩) 2 ae) (.slice (some ⟨cg, 0, none⟩) 2 ce) from HX7.out)
 have BD := Lib.hid B7.out.drew
 clear HX7 B7
 generalize w7.drew = wd at *
 obtain ⟨y0, y1, y2, y3⟩ := HXD.out.cells
 have hFd : F < wd.heap.size := HXD.out.lt
 refine SeqC.take (v := ?_) rfl (by rfl) (fun W hW => ?_) ?_; rotate_left; (focus (have zy0 := hW.get (by simp) y0; have zy1 := hW.get (by simp) y1; have zy2 := hW.get (by simp) y2; have zy3 := hW.get (by simp) y3; go_simp; with_reducible rfl)); simp only [Act.put, List.setIfInBounds_toArray, List.set_cons_zero, List.set_cons_succ]
 refine SeqC.call (f := ?_) (args := ?_) rfl (by rfl) ?_ ?_
 rotate_left 2
 ·(go_simp; first | with_reducible rfl | (refine ⟨?_, ?_⟩ <;> with_reducible rfl))
 refine (HX.out _).mono ?_
 rintro e w8 ⟨rfl, h8⟩
 have HX8 := Lib.hid (HXD.out.below h8.b)
 have hF8 : F < w8.heap.size := HX8.out.lt
 have B8 := Lib.hid (BD.out.trans (h8.b.mono BD.out.size))
 refine ⟨_, rfl, Cells.of_ext h8.b (by intro p hp; simp only [List.mem_cons, List.not_mem_nil, or_false] at hp; rcases hp with rfl | rfl | rfl | rfl <;> assumption), ?_⟩
 simp only [Act.put, List.setIfInBounds_toArray, List.set_cons_zero, List.set_cons_succ]
 refine SeqC.val (v := .slice (some ⟨w8.heap.size, 0, none⟩) 2 2) (w' := w8.alloc (.cells #[.int .i64 1, .bool true, .slice (some ⟨ag, 0, none⟩) 2 ae, .slice (some ⟨cg, 0, none⟩) 2 ce, .int .i64 0, .bool false, .slice (some ⟨wd.heap.size + 1, 0, none⟩) 1 1, .slice (some ⟨wd.heap.size + 3, 0, none⟩) 1 1] tFn)) rfl (by rfl) (by go_simp; try with_reducible rfl) (Cells.of_ext ((Below.refl _ _).alloc (Nat.le_refl _) _) (by intro p hp; simp only [List.mem_cons, List.not_mem_nil, or_false] at hp; rcases hp with rfl | rfl | rfl | rfl <;> assumption)) ?_
 simp only [Act.put, List.setIfInBounds_toArray, List.set_cons_zero, List.set_cons_succ]
 have HX9 := Lib.hid (show Box (w8.alloc (.cells #[.int .i64 1, .bool true, .slice (some ⟨ag, 0, none⟩) 2 ae, .slice (some ⟨cg, 0, none⟩) 2 ce, .int .i64 0, .bool false, .slice (some ⟨wd.heap.size + 1, 0, none⟩) 1 1, .slice (some ⟨wd.heap.size + 3, 0, none⟩) 1 1] tFn)) F tFn (.int .i64 1) (.bool true) (.slice (some ⟨ag, 0, none⟩) 2 ae) (.slice (some ⟨cg, 0, none⟩) 2 ce) from HX8.out.more)
 have B9 := Lib.hid (B8.out.alloc B8.out.size (.cells #[.int .i64 1, .bool true, .slice (some ⟨ag, 0, none⟩) 2 ae, .slice (some ⟨cg, 0, none⟩) 2 ce, .int .i64 0, .bool false, .slice (some ⟨wd.heap.size + 1, 0, none⟩) 1 1, .slice (some ⟨wd.heap.size + 3, 0, none⟩) 1 1] tFn))
 have P9 := Lib.hid (show ProgOk (w8.alloc (.cells #[.int .i64 1, .bool true, .slice (some ⟨ag, 0, none⟩) 2 ae, .slice (some ⟨cg, 0, none⟩) 2 ce, .int .i64 0, .bool false, .slice (some ⟨wd.heap.size + 1, 0, none⟩) 1 1, .slice (some ⟨wd.heap.size + 3, 0, none⟩) 1 1] tFn)) (.agg #[.slice (some ⟨w8.heap.size, 0, none⟩) 2 2]) (.slice (some ⟨w8.heap.size, 0, none⟩) 2 2) [nmD (.slice (some ⟨ag, 0, none⟩) 2 ae) (.slice (some ⟨cg, 0, none⟩) 2 ce) (.slice (some ⟨w.heap.size + 2, 0, none⟩) 1 1), exD (.slice (some ⟨wd.heap.size + 1, 0, none⟩) 1 1) (.slice (some ⟨wd.heap.size + 3, 0, none⟩) 1 1) (.slice (some ⟨wd.heap.size + 2, 0, none⟩) 1 1)] from
  ⟨rfl, ListAt.of_own (base := w8.heap.size) (e := tFn) (els := [[.int .i64 1, .bool true, .slice (some ⟨ag, 0, none⟩) 2 ae, .slice (some ⟨cg, 0, none⟩) 2 ce], [.int .i64 0, .bool false, .slice (some ⟨wd.heap.size + 1, 0, none⟩) 1 1, .slice (some ⟨wd.heap.size + 3, 0, none⟩) 1 1]]) ⟨rfl, .inr ⟨_, 2, _, rfl, Nat.le_refl _, at_alloc rfl, Nat.le_refl _, by decide, rfl, rfl⟩⟩ (by intro x hx; simp only [List.mem_cons, List.not_mem_nil, or_false] at hx; rcases hx with rfl | rfl <;> rfl), fun D hD => by
   simp only [List.mem_cons, List.not_mem_nil, or_false] at hD
   rcases hD with rfl | rfl
   ·exact HF.out _ B9.out
   ·exact ex_ok (at_more h8.t) (at_more h8.s) (at_more h8.k)⟩)
 have K9 := Lib.hid (tab_more HK.out (HB.out.trans (B9.out.mono HB.out.size)))
 clear y0 y1 y2 y3 h8 hF8 hFd HX8 B8 BD HXD
 generalize w8.alloc (.cells #[.int .i64 1, .bool true, .slice (some ⟨ag, 0, none⟩) 2 ae, .slice (some ⟨cg, 0, none⟩) 2 ce, .int .i64 0, .bool false, .slice (some ⟨wd.heap.size + 1, 0, none⟩) 1 1, .slice (some ⟨wd.heap.size + 3, 0, none⟩) 1 1] tFn) = w9 at *
 refine SeqC.take (v := ?_) rfl (by rfl) (fun W hW => ?_) ?_; rotate_left; (focus (go_simp; with_reducible rfl)); simp only [Act.put, List.setIfInBounds_toArray, List.set_cons_zero, List.set_cons_succ]
 refine SeqC.call (f := ?_) (args := ?_) rfl (by rfl) ?_ ?_
 rotate_left 2
 ·(go_simp; first | with_reducible rfl | (refine ⟨?_, ?_⟩ <;> with_reducible rfl))
 refine (prg.pgm_ok P9.out K9.out (nm_prog _ _ _ _ _ _)).mono ?_
 rw [nm_textP]
 rintro e wa ⟨rfl, ba⟩
 have HXA := Lib.hid (HX9.out.below ba)
 have BA := Lib.hid (B9.out.trans (ba.mono B9.out.size))
 have hF9 : F < w9.heap.size := HX9.out.lt
 refine ⟨_, rfl, Cells.of_ext ba (by intro p hp; simp only [List.mem_cons, List.not_mem_nil, or_false] at hp; rcases hp with rfl | rfl | rfl | rfl <;> assumption), ?_⟩
 simp only [Act.put, List.setIfInBounds_toArray, List.set_cons_zero, List.set_cons_succ]
 iterate 5 (refine SeqC.take (v := ?_) rfl (by rfl) (fun W hW => ?_) ?_; rotate_left; (focus (go_simp; with_reducible rfl)); simp only [Act.put, List.setIfInBounds_toArray, List.set_cons_zero, List.set_cons_succ])
 refine SeqC.done ?_
 clear ba hF9 HX9 B9 P9 K9
 obtain ⟨y0, y1, y2, y3⟩ := HXA.out.cells
 go_upto_region 8 with (go_at_call 9; refine (HFO.out _ BA.out 8 (.inr (by decide))).mono ?_; rintro e wb ⟨rfl, bb⟩)
 have HXB := Lib.hid (HXA.out.below bb)
 have BB := Lib.hid (BA.out.trans (bb.mono BA.out.size))
 clear y0 y1 y2 y3 bb HXA BA
 obtain ⟨y0, y1, y2, y3⟩ := HXB.out.cells
 go_upto_region 9 with (go_at_call 9; refine (HFO.out _ BB.out (-1) (.inl (by decide))).mono ?_; rintro e wc ⟨rfl, bc⟩)
 have HXC := Lib.hid (HXB.out.below bc)
 have BC := Lib.hid (BB.out.trans (bc.mono BB.out.size))
 clear y0 y1 y2 y3 bc HXB BB
 go_upto_region 10 with (go_at_call 9; refine (func_bad (zD_ok _) (x := 8) (by decide) (by have := chk_a (zD_ok wc); rwa [zD_chk] at this)).mono ?_; rintro e we ⟨rfl, be⟩)
 have HXE := Lib.hid (HXC.out.below be)
 have BE := Lib.hid (BC.out.trans (be.mono BC.out.size))
 clear be HXC BC
 go_upto_region 11 with (go_at_call 17; refine (prg.pgm_bad (zP_ok _) (x := 8) (by decide) (prg.chk8_a (zP_ok we))).mono ?_; rintro e wf ⟨rfl, bf⟩)
 have HXF := Lib.hid (HXE.out.below bf)
 have BF := Lib.hid (BE.out.trans (bf.mono BE.out.size))
 clear bf HXE BE
 go_upto_region 12 with (go_at_call 13; refine (line_bad (zD_ok _) (x := 8) (by decide) (by have := chk_a (zD_ok wf); rwa [zD_chk] at this)).mono ?_; rintro e wg ⟨rfl, bg⟩)
 have HXG := Lib.hid (HXF.out.below bg)
 have BG := Lib.hid (BF.out.trans (bg.mono BF.out.size))
 clear bg HXF BF
 go_upto_region 13 with fail
 have PG := Lib.hid (show (wg.alloc (.cells #[.int .i64 (-1), .int .i64 0, .int .i64 2, .int .i64 0, .int .i64 0, .int .i64 2, .int .i64 0, .int .i64 (-1), .int .i64 1, .int .i64 1] tPt)).heap[wg.heap.size]? = some (.cells #[.int .i64 (-1), .int .i64 0, .int .i64 2, .int .i64 0, .int .i64 0, .int .i64 2, .int .i64 0, .int .i64 (-1), .int .i64 1, .int .i64 1] tPt (0, 0)) from at_alloc rfl)
 have HXH := Lib.hid (show Box (wg.alloc (.cells #[.int .i64 (-1), .int .i64 0, .int .i64 2, .int .i64 0, .int .i64 0, .int .i64 2, .int .i64 0, .int .i64 (-1), .int .i64 1, .int .i64 1] tPt)) F tFn (.int .i64 1) (.bool true) (.slice (some ⟨ag, 0, none⟩) 2 ae) (.slice (some ⟨cg, 0, none⟩) 2 ce) from HXG.out.more)
 have BH := Lib.hid (BG.out.alloc BG.out.size (.cells #[.int .i64 (-1), .int .i64 0, .int .i64 2, .int .i64 0, .int .i64 0, .int .i64 2, .int .i64 0, .int .i64 (-1), .int .i64 1, .int .i64 1] tPt))
 clear HXG BG
 generalize wg.heap.size = G at *
 generalize wg.alloc (.cells #[.int .i64 (-1), .int .i64 0, .int .i64 2, .int .i64 0, .int .i64 0, .int .i64 2, .int .i64 0, .int .i64 (-1), .int .i64 1, .int .i64 1] tPt) = wh at *
 go_wp2_with fail
 go_loopg [17] 5 (fun g s17 w8 => ∃ i : Nat, s17 = .int .i64 i ∧ i ≤ 5 ∧ g = 5 - i ∧ Below wh.heap.size wh w8)
 case atStart => exact ⟨0, rfl, by decide, rfl, Below.refl _ _⟩
 case round =>
  obtain ⟨i, rfl, hi, rfl, hbel⟩ := hrel
  have h0I : (0 : Int) ≤ (i : Int) := Int.natCast_nonneg _
  have HXI := Lib.hid (HXH.out.below hbel)
  have BI := Lib.hid (BH.out.trans (hbel.mono BH.out.size))
  have PI := Lib.hid ((hbel.block _ (Array.getElem?_eq_some_iff.1 PG.out).1).trans PG.out)
  have HBL := Lib.hid hbel
  clear hbel
  rcases Nat.lt_or_ge i 5 with hlt | hge
  ·have hltI : (i : Int) < 5 := by omega
   have hp : ∃ x y : Int, wr.cell? ⟨G, i * 2, none⟩ = some (.int .i64 x) ∧ wr.cell? ⟨G, i * 2 + 1, none⟩ = some (.int .i64 y) ∧ ∀ W, Below w6.heap.size w6 W → badP (.agg #[.int .i64 1, .bool true, .slice (some ⟨ag, 0, none⟩) 2 ae, .slice (some ⟨cg, 0, none⟩) 2 ce]) W x y := by
    match i, hlt with
    | 0, _ => exact ⟨-1, 0, by rw [cell_of_row wr G _ _ tPt (0, 0) PI.out]; rfl, by rw [cell_of_row wr G _ _ tPt (0, 0) PI.out]; rfl, fun W hW => (bad_pts (HF.out W hW)).1⟩
    | 1, _ => exact ⟨2, 0, by rw [cell_of_row wr G _ _ tPt (0, 0) PI.out]; rfl, by rw [cell_of_row wr G _ _ tPt (0, 0) PI.out]; rfl, fun W hW => (bad_pts (HF.out W hW)).2.1⟩
    | 2, _ => exact ⟨0, 2, by rw [cell_of_row wr G _ _ tPt (0, 0) PI.out]; rfl, by rw [cell_of_row wr G _ _ tPt (0, 0) PI.out]; rfl, fun W hW => (bad_pts (HF.out W hW)).2.2.1⟩
    | 3, _ => exact ⟨0, -1, by rw [cell_of_row wr G _ _ tPt (0, 0) PI.out]; rfl, by rw [cell_of_row wr G _ _ tPt (0, 0) PI.out]; rfl, fun W hW => (bad_pts (HF.out W hW)).2.2.2.1⟩
    | 4, _ => exact ⟨1, 1, by rw [cell_of_row wr G _ _ tPt (0, 0) PI.out]; rfl, by rw [cell_of_row wr G _ _ tPt (0, 0) PI.out]; rfl, fun W hW => (bad_pts (HF.out W hW)).2.2.2.2⟩
   obtain ⟨x, y, c0, c1, hL⟩ := hp
   have HLL := Lib.hid hL
   clear hL
   go_upto_region 16 with fail
   have HXJ := Lib.hid (show Box wr.drew F tFn (.int .i64 1) (.bool true) (.slice (some ⟨ag, 0, none⟩) 2 ae) (.slice (some ⟨cg, 0, none⟩) 2 ce) from HXI.out)
   have BJ := Lib.hid BI.out.drew
   have BL2 := Lib.hid HBL.out.drew
   have hG : G < wr.drew.heap.size := (Array.getElem?_eq_some_iff.1 PI.out).1
   have hF2 : F < wr.drew.heap.size := HXJ.out.lt
   refine region_cells [⟨F, 0, none⟩, ⟨F, 1, none⟩, ⟨F, 2, none⟩, ⟨F, 3, none⟩, ⟨G, i * 2, none⟩, ⟨G, i * 2 + 1, none⟩] [(0, true), (1, true), (2, true), (3, true), (4, true), (5, false), (6, true), (7, true), (8, true), (9, true), (10, true)] (by kernel_rfl) (by kernel_rfl) (by decide) (by kernel_rfl) (fun _ _ _ _ _ h => h) ?_
   have c0 : wr.drew.cell? ⟨G, i * 2, none⟩ = _ := c0
   have c1 : wr.drew.cell? ⟨G, i * 2 + 1, none⟩ = _ := c1
   obtain ⟨y0, y1, y2, y3⟩ := HXJ.out.cells
   iterate 5 (refine SeqC.take (v := ?_) rfl (by rfl) (fun W hW => ?_) ?_; rotate_left; (focus (have zy0 := hW.get (by simp) y0; have zy1 := hW.get (by simp) y1; have zy2 := hW.get (by simp) y2; have zy3 := hW.get (by simp) y3; have zc0 := hW.get (by simp) c0; have zc1 := hW.get (by simp) c1; go_simp; with_reducible rfl)); simp only [Act.put, List.setIfInBounds_toArray, List.set_cons_zero, List.set_cons_succ])
   refine SeqC.call (f := ?_) (args := ?_) rfl (by rfl) ?_ ?_
   rotate_left 2
   ·(go_simp; first | with_reducible rfl | (refine ⟨?_, ?_⟩ <;> with_reducible rfl))
   refine (show Calls _ _ _ _ _ from HLL.out _ BJ.out).mono ?_
   rintro e wj ⟨rfl, bj⟩
   have BK := Lib.hid (BL2.out.trans (bj.mono BL2.out.size))
   refine ⟨_, rfl, Cells.of_ext bj (by intro p hp; simp only [List.mem_cons, List.not_mem_nil, or_false] at hp; rcases hp with rfl | rfl | rfl | rfl | rfl | rfl <;> assumption), ?_⟩
   simp only [Act.put, List.setIfInBounds_toArray, List.set_cons_zero, List.set_cons_succ]
   iterate 5 (refine SeqC.take (v := ?_) rfl (by rfl) (fun W hW => ?_) ?_; rotate_left; (focus (go_simp; with_reducible rfl)); simp only [Act.put, List.setIfInBounds_toArray, List.set_cons_zero, List.set_cons_succ])
   refine SeqC.done ?_
   clear c0 c1 y0 y1 y2 y3 hG hF2 bj HXJ BJ BL2
   go_wp2_with fail
   go_roundg (5 - (i + 1))
   case measure => omega
   case rel => exact ⟨i + 1, by simp, by omega, rfl, BK.out⟩
  ·obtain rfl : i = 5 := by omega
   obtain ⟨y0, y1, y2, y3⟩ := HXI.out.cells
   have HLN := Lib.hid (show Calls Tryd.prog 13 #[(.agg #[.int .i64 1, .bool true, .slice (some ⟨ag, 0, none⟩) 2 ae, .slice (some ⟨cg, 0, none⟩) 2 ce]), .agg #[.int .i64 1, .int .i64 0]] wr (Ans2 7 0 wr) from tline_c (HF.out _ BI.out) (lim_of (HF.out _ BI.out) (nm_chk _ _ _)) (by have := chk_a (HF.out _ BI.out); rwa [nm_chk] at this) (pb := 1) (pi := 0) (show 1 < 2 by decide) (Nat.zero_le _))
   go_upto_region 20 with (go_at_call 13; refine HLN.out.mono ?_; rintro e wk ⟨rfl, bk⟩)
   have BK := Lib.hid (HB.out.trans ((BI.out.trans (bk.mono BI.out.size)).mono HB.out.size))
   clear y0 y1 y2 y3 bk
   unfold nmT
   go_wp2_with (go_at_call 8; refine (HA.out _ BK.out).mono ?_; rintro e w9 ⟨rfl, b9⟩)
   go_ret
   exact ⟨rfl, BK.out.trans (b9.mono BK.out.size)⟩
end Go.Proofs.YtglmonlofejcgaaDoor.txt
