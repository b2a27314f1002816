/- The points of a function and its loans, plain. -/
import Derived.Test.YtglmonlofejcgaaGreatDoorFn1
set_option maxRecDepth 100000
open List renaming mem_cons → apu, length_map → apw
open Array renaming getElem_push_lt → apv
set_option linter.unusedVariables false
set_option linter.unusedSectionVars false
namespace Go.Proofs.YtglmonlofejcgaaGreatDoor
namespace loan
open Go.RowKit Am
def Qm (bs : List bK) (i : Nat) : Nat := (bs.getD i b0).st.length
def oD (bs : List bK) : Nat -> Nat
 | 0 => 0
 | i + 1 => oD bs i + (Qm bs i + 1)
section
variable {bs : List bK} {i j k n N : Nat}
theorem Xt (hs : ∀ i, Qm bs i <= 24) : ∀ i, oD bs i <= 25 * i
 | 0 => Nat.le_refl _
 | i + 1 => by
  have h1 := Xt hs i
  have h2 : oD bs (i + 1) = oD bs i + (Qm bs i + 1) := rfl
  have := hs i
  omega
theorem getD_mem {b : bK} (h : bs[i]? = some b) : bs.getD i b0 = b := by rw [List.getD_eq_getElem?_getD, h]; rfl
theorem a3m {b : bK} (h : bs[i]? = some b) : Qm bs i = b.st.length := by unfold Qm; rw [getD_mem h]
theorem aiv (h : ∀ b ∈ bs, b.st.length <= 24) (i : Nat) : Qm bs i <= 24 := by
 unfold Qm
 rcases O3 (l := bs) (i := i) (d := b0) with k | k
 ·exact h _ k
 ·rw [k]; decide
end
section
variable {bs : List bK} {i j k n N : Nat} {el x : List Value}
end
def gY (w : World) (A : Option Addr) (sz : Nat) (els : List (List Value)) : Prop :=
 ∀ i el, els[i]? = some el -> ∃ g o, A = some ⟨g, o, none⟩ /\ g < w.heap.size /\ w.rangeAt g (o + i * sz) el
theorem gY.below {w w' : World} {A : Option Addr} {sz : Nat} {els : List (List Value)} (h : gY w A sz els) (hb : Below w.heap.size w w') : gY w' A sz els := fun i el hi => by
 obtain ⟨g, o, e, hg, hr⟩ := h i el hi
 exact ⟨g, o, e, Nat.lt_of_lt_of_le hg hb.size, fun j v hj => (hb.cell (p := ⟨g, o + i * sz + j, none⟩) hg).trans (hr j v hj)⟩
theorem cZ.rows {w : World} {v : Value} {sz : Nat} {els : List (List Value)} (h : cZ w v sz els) (hz : 0 < sz) : ∃ A c, v = .slice A els.length c /\ (els.length : Int) <= 9223372036854775807 /\ gY w A sz els := by
 obtain ⟨A, c, e⟩ := h.sl
 refine ⟨A, c, e, h.most, fun i el hi => ?_⟩
 obtain ⟨b, off, c', e', hc⟩ := h.at_ i el hi
 rw [e] at e'
 cases e'
 have hl := h.len i el hi
 obtain ⟨u, hu⟩ : ∃ u, el[0]? = some u := ⟨_, List.getElem?_eq_getElem (by omega)⟩
 exact ⟨b, off, rfl, World.block_lt_of_cell? w ⟨b, off + i * sz + 0, none⟩ (hc 0 u hu), hc⟩
theorem gY.own {w : World} {base : Nat} {e : TypeId} {sz n : Nat} {v : Value} {els : List (List Value)} (h : w.ownsRow base e sz v n els.flatten) (hn : els.length = n) (hz : 0 < sz) (hl : ∀ x ∈ els, x.length = sz) : ∃ A c, v = .slice A els.length c /\ gY w A sz els := by
 subst hn
 obtain ⟨A, c, e, _, r⟩ := cZ.rows (cZ.an4 h hl) hz
 exact ⟨A, c, e, r⟩
theorem aV.blks {w : World} {v : Value} {D : FnD} (h : aV w v D) : ∃ A c, D.bv = .slice A D.bs.length c /\ (D.bs.length : Int) <= 9223372036854775807 /\ gY w A 14 (D.bs.map bK.cells) := by
 obtain ⟨A, c, e, hm, r⟩ := cZ.rows h.blocks (by decide)
 rw [apw] at e hm
 exact ⟨A, c, e, hm, r⟩
theorem jY.X6 {w : World} {b : bK} (h : jY w b) : ∃ A c, b.s = .slice A b.st.length c /\ (b.st.length : Int) <= 9223372036854775807 /\ gY w A 26 b.st := cZ.rows h.sts (by decide)
theorem mG {w : World} {b : bK} (h : jY w b) : b.cells.length = 14 := by
 have l1 := h.EU.len
 have l2 := h.yu.len
 have e1 : oK.length = 9 := rfl
 have e2 : kW.length = 3 := rfl
 show (b.s :: (b.pre ++ b.a :: b.post)).length = 14
 simp
 omega
theorem amX {k : Kd} {v : Value} (h : k.ok v) : v.oneCell' = true := by
 cases k with
 | i x => obtain ⟨n, rfl, _⟩ := h; rfl
 | b => obtain ⟨b, rfl⟩ := h; rfl
 | s => obtain ⟨s, rfl, _⟩ := h; rfl
theorem xR : ∀ {ks : List Kd} {us : List Value}, ak Kd.ok ks us -> ∀ u ∈ us, u.oneCell' = true
 | [], [], _, _, hu => by cases hu
 | k :: ks, v :: us, h, u, hu => by
  rcases apu.1 hu with rfl | hu
  ·exact amX h.1
  ·exact xR h.2 u hu
 | [], _ :: _, h, _, _ => h.elim
 | _ :: _, [], h, _, _ => h.elim
theorem xw {w : World} {b : bK} (h : jY w b) : ∀ u ∈ b.cells, u.oneCell' = true := fun u hu => by
 obtain ⟨A, c, e, _⟩ := jY.X6 h
 obtain ⟨A2, c2, e2, _⟩ := cZ.rows h.opl (by decide)
 rcases apu.1 hu with rfl | hu
 ·rw [e]; rfl
 ·rcases List.mem_append.1 hu with hu | hu
  ·exact xR h.EU u hu
  ·rcases apu.1 hu with rfl | hu
   ·rw [e2]; rfl
   ·exact xR h.yu u hu
theorem FK (w : World) (old new : Array Value) (t : TypeId) : (w.alloc (.cells old t)).setRow w.heap.size new = w.alloc (.cells new t) := by
 have h : (w.heap.push (Obj.cells old t)).modify w.heap.size (fun x => match x with | .cells c elem frozen => .cells new elem frozen | o => o) = w.heap.push (Obj.cells new t) := by
  apply Array.ext
  ·simp
  ·intro i h1 h2
   rw [Array.getElem_modify]
   by_cases hi : w.heap.size = i
   ·subst hi
    simp
   ·rw [if_neg hi]
    have : i < w.heap.size := by simp at h2; omega
    rw [apv this, apv this]
 exact congrArg (fun x => ({ heap := x, tape := w.tape, drawn := w.drawn, os := w.os, output := w.output } : World)) h
theorem ZP {w : World} {x : Obj} {b o : Nat} {cs : List Value} (h : w.rangeAt b o cs) : (w.alloc x).rangeAt b o cs := fun j v hj => Gx (h j v hj)
theorem Di {P : Program} {ops : Array Oper} {rest : List Oper} {o : Oper} {a : Act} {Q : Exit -> Act -> World -> Prop} (hgd : o.guard = none) (ty : TypeId) (x y : Operand) (ho : o.op = .store ty x y) (hd : o.dst = none)
  (W : World) (H : Nat) (hH : W.heap.size = H) (cells : Array Value) (hx : a.eval x = .pointer (some ⟨H, 0, none⟩)) (hy : a.eval y = .agg cells)
  (t : TypeId) (old : Array Value) (hi : (P.info? ty).map (·.size) = some cells.size) (hold : old.size = cells.size) (h1 : cells.all (·.oneCell') = true)
  (h : wpList P ops Q rest a (W.alloc (.cells cells t))) : wpList P ops Q (o :: rest) a (W.alloc (.cells old t)) := by
 subst hH
 refine wpList_store_row hgd ty x y ho W.heap.size cells hx hy t old (aX rfl) hi hold h1 ?_
 rw [FK, hd]
 exact h
theorem pJ {P : Program} {W : World} {H : Nat} {cells : List Value} {old : Array Value} {t : TypeId} (hH : W.heap.size = H) (hold : old.size = cells.length) (h1 : ∀ u, u ∈ cells -> u.oneCell' = true) :
  (storeCells ⟨H, 0, none⟩ cells).run P (W.alloc (.cells old t)) = .ok () (W.alloc (.cells cells.toArray t)) := by
 subst hH
 have := run_storeCells_from (P := P) W.heap.size t cells 0 old (W.alloc (.cells old t)) (aX rfl) (by omega) h1
 simp only [List.take_zero, List.nil_append] at this
 rw [this, FK]
theorem Oe {w w' : World} {base : Nat} {e : TypeId} {size : Nat} {v : Value} {n : Nat} {xs : List Value} (h : w.ownsRow base e size v n xs) (hb : Below w.heap.size w w') : w'.ownsRow base e size v n xs := zG h fun k hk => hb.block k (zJ h k hk).2
end loan
namespace Am
open Go.RowKit Go.ChangeShapes Go.WideShapes Go.Deep loan
def FnD.cells (D : FnD) : List Value := [.int .i64 D.p, .bool D.u, D.lv, D.bv]
structure cu (w : World) (v fv : Value) (Ds : List FnD) : Prop where
 eq : v = .agg #[fv]
 fns : cZ w fv 4 (Ds.map FnD.cells)
 fn : ∀ D ∈ Ds, aV w (.agg #[.int .i64 D.p, .bool D.u, D.lv, D.bv]) D
theorem cu.frz {w w' : World} {v fv : Value} {Ds : List FnD} (h : cu w v fv Ds) (hw : ∀ k, k < w.heap.size -> w'.heap[k]? = w.heap[k]?) : cu w' v fv Ds :=
 ⟨h.eq, h.fns.frz hw, fun D hD => (h.fn D hD).frz hw⟩
theorem cu.below {w w' : World} {v fv : Value} {Ds : List FnD} (h : cu w v fv Ds) (hb : Below w.heap.size w w') : cu w' v fv Ds := h.frz hb.block
theorem cu.rows {w : World} {v fv : Value} {Ds : List FnD} (h : cu w v fv Ds) : ∃ A c, v = .agg #[.slice A Ds.length c] /\ fv = .slice A Ds.length c /\ (Ds.length : Int) <= 9223372036854775807 /\ gY w A 4 (Ds.map FnD.cells) := by
 obtain ⟨A, c, e, hm, hr⟩ := cZ.rows h.fns (by decide)
 rw [apw] at e hm
 exact ⟨A, c, by rw [h.eq, e], e, hm, hr⟩
theorem a9r {w : World} : ∀ {ls : List (List Value)}, (∀ cs ∈ ls, ∃ D, cs = FnD.cells D /\ aV w (.agg #[.int .i64 D.p, .bool D.u, D.lv, D.bv]) D) -> ∃ Ds : List FnD, ls = Ds.map FnD.cells /\ ∀ D ∈ Ds, aV w (.agg #[.int .i64 D.p, .bool D.u, D.lv, D.bv]) D
 | [], _ => ⟨[], rfl, fun _ h => by cases h⟩
 | cs :: ls, h => by
  obtain ⟨D, e, hD⟩ := h cs List.mem_cons_self
  obtain ⟨Ds, e2, h2⟩ := a9r (ls := ls) fun x hx => h x (List.mem_cons_of_mem _ hx)
  refine ⟨D :: Ds, by rw [e, e2, List.map_cons], fun x hx => ?_⟩
  rcases apu.1 hx with rfl | hx
  ·exact hD
  ·exact h2 x hx
theorem zo {H : Type} {enc : TypeId × Value -> H} {w : World} {b0 : Nat} {spare : Nat -> Bool} {held : Bool} {v : Value} {fuel : Nat} {x : DataW H × List MemPlace} (hv : Value.okWide Tryz.prog w .any b0 43 v)
  (h : DataW.trod enc Tryz.prog w 0 spare held fuel 43 v.cells.toList = some x) : ∃ fv Ds, cu w v fv Ds := by
 obtain ⟨fs, hu⟩ : ∃ fs, Tryz.prog.underlying 43 = some (.struct fs) := ⟨_, Tryz.underlying43⟩
 simp only [Value.okWide, hu] at hv
 obtain ⟨cs, rfl, hsz, _⟩ := hv
 have hsz : cs.size = 1 := hsz.trans (by kernel_rfl)
 have h : DataW.trod enc Tryz.prog w 0 spare held fuel 43 cs.toList = some x := h
 have hc := nZ h (tY (ks := [.inr 41]) (by kernel_rfl : AX Tryz.prog 6 43 [.inr 41] = true)) (by simpa using hsz)
 obtain ⟨fv, t, e, ⟨m, y, hs⟩, ht⟩ := aI hc
 have et := mD ht
 obtain ⟨els, hL, n, hel⟩ := uo (sz := 4) Tryz.underlying41 (by kernel_rfl) (by decide) hs
 obtain ⟨Ds, hDs, hfn⟩ := a9r (w := w) (ls := els) fun c hcm => by
  obtain ⟨z, hz⟩ := hel c hcm
  obtain ⟨i, hi⟩ := List.getElem?_of_mem hcm
  have hl4 := hL.len i c hi
  obtain ⟨p, u, lv, bv, ls, bs, hf⟩ := a6J (kS := vW) (tLs := 22) (tT := 73) (tBs := 23) (tB := 60) (tSs := 51) (tS := 78) (tOs := 56) (tO := 55) hz hl4 (by kernel_rfl)
   Tryz.underlying22 (by kernel_rfl) (by kernel_rfl) Tryz.underlying23 (by kernel_rfl) (by kernel_rfl) Tryz.underlying51 (by kernel_rfl) (by decide) (by kernel_rfl) Tryz.underlying56 (by kernel_rfl) (by kernel_rfl)
  obtain ⟨D, hD⟩ := aV.of hf
  have q := hD.eq
  refine ⟨D, ?_, by rw [<- q]; exact hD⟩
  injection q with q
  exact congrArg Array.toList q
 subst hDs
 refine ⟨fv, Ds, ?_, hL, hfn⟩
 subst et
 have : cs = #[fv] := by
  have := congrArg List.toArray e
  simpa using this
 rw [this]
end Am
open Go.RowKit Am loan
section
variable {P : Program} {ops : Array Oper} {Q : Exit -> Act -> World -> Prop}
def Cells (L : List Addr) (w w' : World) : Prop := ∀ p ∈ L, w'.cell? p = w.cell? p
theorem Cells.get {L : List Addr} {w w' : World} {p : Addr} {u : Value} (h : Cells L w w') (hp : p ∈ L) (hc : w.cell? p = some u) : w'.cell? p = some u := (h p hp).trans hc
theorem Cells.refl (L : List Addr) (w : World) : Cells L w w := fun _ _ => rfl
theorem Cells.lX {L : List Addr} {w w' : World} (h : Below w.heap.size w w') (hL : ∀ p ∈ L, p.block < w.heap.size) : Cells L w w' := fun p hp => h.cell (p := p) (hL p hp)
theorem bZ (L : List Addr) {id : Nat} {a : Act} {w : World} (r : List (Nat × Bool)) (hm : P.follows .mixedOrders = true) (hs : Region.noSelect ops = true) (hlen : r.length <= ops.size) (hok : vI .any ops r (Array.replicate ops.size false) = true)
  (hQ : ∀ (d : Tmp) (v : Value) c a w, Q (.panic c) (a.put (some d) v) w -> Q (.panic c) a w) (h : wM P ops Q (Cells L) r a w.drew) : (Code.region id ops true).wp P Q a w :=
 wp_region_any hm (Cm _ _ _ _ (MJ (fun w => Cells.refl L w) (fun _ _ _ h k p hp => (k p hp).trans (h p hp)) hs (fun d v c a w h => match d, h with | none, h => h | some d, h => hQ d v c a w h) r _ _ _ _ hlen hok h))
theorem SeqC.take {L : List Addr} {i : Nat} {o : Oper} {r : List (Nat × Bool)} {a : Act} {w : World} {v : Value} (ho : ops.toList[i]? = some o) (hw : Region.wanted o (yielded ops a.tmps) = true) (hrun : ∀ W, Cells L w W -> (execOp a.eval o).run P W = .ok (.value v) W)
  (h : wM P ops Q (Cells L) r (a.put o.dst v) w) : wM P ops Q (Cells L) ((i, true) :: r) a w := ⟨o, v, IX ho, .inl ⟨hw, hrun⟩, h⟩
theorem SeqC.skip {L : List Addr} {i : Nat} {o : Oper} {r : List (Nat × Bool)} {a : Act} {w : World} (ho : ops.toList[i]? = some o) (hw : Region.wanted o (yielded ops a.tmps) = false)
  (h : wM P ops Q (Cells L) r (a.put o.dst undef) w) : wM P ops Q (Cells L) ((i, true) :: r) a w := ⟨o, undef, IX ho, .inr ⟨hw, rfl⟩, h⟩
theorem SeqC.pass {L : List Addr} {i : Nat} {o : Oper} {r : List (Nat × Bool)} {a : Act} {w : World} (ho : ops.toList[i]? = some o) (hw : Region.wanted o (yielded ops a.tmps) = false)
  (h : wM P ops Q (Cells L) r (a.put o.dst undef) w) : wM P ops Q (Cells L) ((i, false) :: r) a w :=
 wpOp_step (IX ho) fun K' hK => by rw [hw]; exact hK _ _ ⟨Cells.refl _ _, h⟩
theorem SeqC.step {L : List Addr} {i : Nat} {o : Oper} {r : List (Nat × Bool)} {a : Act} {w : World} (ho : ops.toList[i]? = some o) (hw : Region.wanted o (yielded ops a.tmps) = true)
  (h : ∀ K' : Act -> World -> Prop, (∀ a w', Cells L w w' -> wM P ops Q (Cells L) r a w' -> K' a w') -> Oper.wp P o a w K' Q) : wM P ops Q (Cells L) ((i, false) :: r) a w :=
 wpOp_step (IX ho) fun K' hK => by rw [hw]; exact h K' fun a w' he hs => hK a w' ⟨he, hs⟩
theorem SeqC.val {L : List Addr} {i : Nat} {o : Oper} {r : List (Nat × Bool)} {a : Act} {w w' : World} {v : Value} (ho : ops.toList[i]? = some o) (hw : Region.wanted o (yielded ops a.tmps) = true)
  (hrun : (execOp a.eval o).run P w = .ok (.value v) w') (he : Cells L w w') (h : wM P ops Q (Cells L) r (a.put o.dst v) w') : wM P ops Q (Cells L) ((i, false) :: r) a w :=
 SeqC.step ho hw fun K' hK => by
  unfold Oper.wp
  rw [hrun]
  simp only [Oper.upon]
  exact hK _ _ he h
theorem SeqC.call {L : List Addr} {i : Nat} {o : Oper} {r : List (Nat × Bool)} {a : Act} {w : World} {f : FuncId} {args : Array Value} (ho : ops.toList[i]? = some o) (hw : Region.wanted o (yielded ops a.tmps) = true)
  (hrun : (execOp a.eval o).run P w = .ok (.enter f args) w) (h : Calls P f args w fun e w' => ∃ v, e = .returned v /\ Cells L w w' /\ wM P ops Q (Cells L) r (a.put o.dst v) w') : wM P ops Q (Cells L) ((i, false) :: r) a w :=
 SeqC.step ho hw fun K' hK => by
  unfold Oper.wp
  rw [hrun]
  simp only [Oper.upon]
  refine h.mono ?_
  rintro e w' ⟨v, rfl, he, hs⟩
  exact hK _ _ he hs
theorem SeqC.done {L : List Addr} {a : Act} {w : World} (h : Q .normal a w) : wM P ops Q (Cells L) [] a w := h
end
theorem Jr {P : Program} {w : World} (t ty : TypeId) (base : Nat) (e : TypeId) (z : Value) (size bytes : Nat) (ht : P.underlying t = some (.slice e)) (hrow : (P.info? e).map (fun i => (i.zero, i.size, i.bytes)) = some (some z, size, bytes)) (hzs : z.cells.size = size) (hsz : 0 < size)
  (v : Value) (n : Nat) (xs : List Value) (hown : w.ownsRow base e size v n xs) (us : List Value) (g0 c : Nat) (hg : w.heap[g0]? = some (.cells us.toArray e (0, 0))) (hl : us.length = size) (h1 : ∀ u ∈ us, u.oneCell' = true)
  (hn : n < 1000000) (hby : bytes <= 1024) (hbase : base <= w.heap.size) :
  ∃ v' w', (Builtin.append_ #[t, t] ty #[v, .slice (some ⟨g0, 0, none⟩) 1 c]).run P w = .ok v' w' /\ w'.ownsRow base e size v' (n + 1) (xs ++ us) /\ w.grownBy w' v.ownBlock /\
   (∀ (p : Addr) (u : Value), w.cell? p = some u -> (v.ownBlock = some p.block -> p.off < xs.length) -> w'.cell? p = some u) := by
 obtain ⟨i0, hi, hz0, hz1, hz2⟩ := info_parts hrow
 have hmul : (n + 1) * bytes <= 1000000 * 1024 := Nat.mul_le_mul (by omega) hby
 have hnews : ∀ j u, us[j]? = some u -> w.cell? ((⟨g0, 0, none⟩ : Addr).add j) = some u := fun j u hu => by
  rw [addr_add, Nat.zero_add, cell_of_row w g0 j us.toArray e (0, 0) hg]
  simpa using hu
 obtain ⟨v', w', hr, h2, h3, h4⟩ := run_append_own (P := P) w base t ty e i0 z size bytes ht hi hz0 hz1 hz2 hzs hsz v n xs hown ⟨g0, 0, none⟩ 1 c us (by omega) hnews h1 (by simp only [maxLen]; omega) (by omega) hbase
 refine ⟨v', w', hr, h2, h3, fun p u hc hp => ?_⟩
 by_cases hb : v.ownBlock = some p.block
 ·have hq := hp hb
  clear hp
  rcases hown.2 with ⟨rfl, _⟩ | ⟨g, cap, cur, rfl, hbg, hgc, hnc, hcm, hcs, htake⟩
  ·cases hb
  ·have hgp : g = p.block := by simpa [Value.ownBlock] using hb
   have hsp : p.spot = none := World.cell?_spot hc
   obtain ⟨pb, po, ps⟩ := p
   subst hgp
   have hsp : ps = none := hsp
   subst hsp
   have hq : po < xs.length := hq
   have hx := hown.1
   by_cases hroom : n + 1 <= cap
   ·have hfit : n * i0.size + us.length <= cur.size := by rw [hl, hcs, hz1]; have := Nat.mul_le_mul_right size hroom; rw [Nat.succ_mul] at this; exact this
    have hr2 := run_append_room (P := P) w t ty e i0 ht hi g n cap cur hgc ⟨g0, 0, none⟩ 1 c us (by omega) hnews h1 hroom hfit
    rw [hr] at hr2
    cases hr2
    rw [cell_of_row _ g po _ e (0, 0) (setRow_heap w g cur _ e _ hgc)]
    rw [cell_of_row w g po cur e (0, 0) hgc] at hc
    have hpn : po < (cur.toList.take (n * i0.size)).length := by rw [hz1, htake]; exact hq
    rw [List.getElem?_toArray, List.append_assoc, List.getElem?_append_left hpn, List.getElem?_take, if_pos (by rw [List.length_take] at hpn; omega)]
    simpa using hc
   ·have holds : ∀ j u, xs[j]? = some u -> w.cell? ((⟨g, 0, none⟩ : Addr).add j) = some u := hown.cells (g := g) rfl
    have hr2 := run_append_grow (P := P) w t ty e i0 z ht hi hz0 ⟨g, 0, none⟩ n cap xs (by rw [hz1]; exact hown.1) holds ⟨g0, 0, none⟩ 1 c us (by omega) hnews (by omega) (by omega) (growslice_fits (by omega) (by rw [hz2]; omega))
    rw [hr] at hr2
    cases hr2
    exact Gx (w := w.drew) hc
 ·rw [h3.cell_far p (World.block_lt_of_cell? w p hc) (fun e => hb e.symm)]
  exact hc
theorem LX {P : Program} {w : World} {o : Oper} {a : Act} {K : Act -> World -> Prop} {Q : Exit -> Act -> World -> Prop} (s x : Operand) (t : TypeId)
  (ho : o.op = .call { callee := .builtin .append, args := #[s, x], argTypes := #[t, t] }) (base : Nat) (e : TypeId) (z : Value) (size bytes : Nat) (ht : P.underlying t = some (.slice e)) (hrow : (P.info? e).map (fun i => (i.zero, i.size, i.bytes)) = some (some z, size, bytes)) (hzs : z.cells.size = size) (hsz : 0 < size)
  (v : Value) (n : Nat) (xs : List Value) (hs : a.eval s = v) (hown : w.ownsRow base e size v n xs) (us : List Value) (g0 c : Nat) (hx : a.eval x = .slice (some ⟨g0, 0, none⟩) 1 c) (hg : w.heap[g0]? = some (.cells us.toArray e (0, 0))) (hl : us.length = size) (h1 : ∀ u ∈ us, u.oneCell' = true)
  (hn : n < 1000000) (hby : bytes <= 1024) (w0 : World) (hbel : Below base w0 w) (hbase : base <= w.heap.size)
  (h : ∀ v' w', w'.ownsRow base e size v' (n + 1) (xs ++ us) -> Below base w0 w' -> (∀ (p : Addr) (u : Value), w.cell? p = some u -> (v.ownBlock = some p.block -> p.off < xs.length) -> w'.cell? p = some u) -> K (a.put o.dst v') w') : o.wp P a w K Q := by
 obtain ⟨v', w', hr, h2, h3, h4⟩ := Jr (P := P) (w := w) t o.type base e z size bytes ht hrow hzs hsz v n xs hown us g0 c hg hl h1 hn hby hbase
 unfold Oper.wp execOp
 simp only [ho, resolve, invoke, builtin, Sem.run_bind, Sem.run_pure, Result.andThen_ok, List.map_toArray, List.map_cons, List.map_nil, hs, hx, hr]
 exact h v' w' h2 (hbel.grown h3 hbase (fun k hk => (hown.lt k hk).1)) h4
end Go.Proofs.YtglmonlofejcgaaGreatDoor
