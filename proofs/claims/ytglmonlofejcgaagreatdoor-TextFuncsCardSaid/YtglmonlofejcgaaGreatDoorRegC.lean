/- The points of a function and its loans, plain. (No program in sight.) Words for walks over functions: lists of the arguments as rows of ranges; append of an element of several cells. (No program in sight.) A region that draws its order, walked in ONE order, what it reads being some cells that no operation of the region changes. Append onto a row of one's own, which keeps the cells that were there. (No program in sight.) -/
import Derived.Test.YtglmonlofejcgaaGreatDoorFn1
import Derived.Test.YtglmonlofejcgaaGreatDoorTwinA
import Derived.Deep.AppendLies
set_option linter.unusedVariables false
namespace Go.Proofs.YtglmonlofejcgaaGreatDoor.loan
open Go.RowKit Am
def lY (bs : List bH) (i : Nat) : Nat := (bs.getD i b0).st.length
def dF (bs : List bH) : Nat -> Nat
 | 0 => 0
 | i + 1 => dF bs i + (lY bs i + 1)
def kY (i n : Nat) : List (Nat × Nat) := (List.range n).map fun k => (i, k)
def lg (bs : List bH) : Nat -> List (Nat × Nat)
 | 0 => []
 | i + 1 => lg bs i ++ kY i (lY bs i + 1)
def Dh (bs : List bH) (i k : Nat) : List (Nat × Nat) := lg bs i ++ kY i k
section
variable {bs : List bH} {i j k n N : Nat}
theorem ZY (i n : Nat) : (kY i n).length = n := by simp [kY]
theorem BL (bs : List bH) : ∀ i, (lg bs i).length = dF bs i
 | 0 => rfl
 | i + 1 => by
  show (lg bs i ++ kY i (lY bs i + 1)).length = _
  rw [List.length_append, BL bs i, ZY]
  rfl
theorem a8L : kY i (k + 1) = kY i k ++ [(i, k)] := by simp [kY, List.range_succ]
theorem at_next : Dh bs i (k + 1) = Dh bs i k ++ [(i, k)] := by
 unfold Dh
 rw [a8L, List.append_assoc]
theorem agf : Dh bs i (lY bs i + 1) = Dh bs (i + 1) 0 := by
 show _ = (lg bs i ++ kY i (lY bs i + 1)) ++ kY (i + 1) 0
 simp [Dh, kY]
theorem a0R : Dh bs i 0 = lg bs i := by simp [Dh, kY]
theorem ajN (h : i <= j) : ∃ t, lg bs j = lg bs i ++ t := by
 induction j with
 | zero => exact ⟨[], by rw [show i = 0 by omega]; simp⟩
 | succ j ih =>
  by_cases hij : i = j + 1
  ·exact ⟨[], by rw [hij]; simp⟩
  ·obtain ⟨t, e⟩ := ih (by omega)
   exact ⟨t ++ kY j (lY bs j + 1), by show lg bs j ++ _ = _; rw [e, List.append_assoc]⟩
theorem YF (hi : i < N) (hk : k <= lY bs i) : (lg bs N)[dF bs i + k]? = some (i, k) := by
 obtain ⟨t, e⟩ := ajN (bs := bs) (i := i + 1) (j := N) (by omega)
 have h2 : lg bs (i + 1) = lg bs i ++ kY i (lY bs i + 1) := rfl
 rw [e, h2, List.append_assoc, List.getElem?_append_right (by rw [BL]; omega), BL, show dF bs i + k - dF bs i = k by omega, List.getElem?_append_left (by rw [ZY]; omega)]
 simp [kY, show k < lY bs i + 1 by omega]
theorem aiq (h : n < dF bs N) : ∃ i k, i < N /\ k <= lY bs i /\ n = dF bs i + k := by
 induction N with
 | zero => exact absurd h (by show ¬ n < 0; omega)
 | succ N ih =>
  by_cases hn : n < dF bs N
  ·obtain ⟨i, k, h1, h2, h3⟩ := ih hn
   exact ⟨i, k, by omega, h2, h3⟩
  ·have h2 : dF bs (N + 1) = dF bs N + (lY bs N + 1) := rfl
   exact ⟨N, n - dF bs N, by omega, by omega, by omega⟩
theorem vH (hs : ∀ i, lY bs i <= 24) : ∀ i, dF bs i <= 25 * i
 | 0 => Nat.le_refl _
 | i + 1 => by
  have h1 := vH hs i
  have h2 : dF bs (i + 1) = dF bs i + (lY bs i + 1) := rfl
  have := hs i
  omega
theorem getD_mem {b : bH} (h : bs[i]? = some b) : bs.getD i b0 = b := by rw [List.getD_eq_getElem?_getD, h]; rfl
theorem Io {b : bH} (h : bs[i]? = some b) : lY bs i = b.st.length := by unfold lY; rw [getD_mem h]
theorem DZ (h : ∀ b ∈ bs, b.st.length <= 24) (i : Nat) : lY bs i <= 24 := by
 unfold lY
 rcases JK (l := bs) (i := i) (d := b0) with k | k
 ·exact h _ k
 ·rw [k]; decide
end
section
variable {bs : List bH} {i j k n N : Nat} {el x : List Value}
end
end Go.Proofs.YtglmonlofejcgaaGreatDoor.loan
namespace Go.Proofs.YtglmonlofejcgaaGreatDoor.loan
open Go.RowKit Am
def pU (w : World) (A : Option Addr) (sz : Nat) (els : List (List Value)) : Prop :=
 ∀ i el, els[i]? = some el -> ∃ g o, A = some ⟨g, o, none⟩ /\ g < w.heap.size /\ w.rangeAt g (o + i * sz) el
theorem pU.below {w w' : World} {A : Option Addr} {sz : Nat} {els : List (List Value)} (h : pU w A sz els) (hb : Below w.heap.size w w') : pU w' A sz els := fun i el hi => by
 obtain ⟨g, o, e, hg, hr⟩ := h i el hi
 exact ⟨g, o, e, Nat.lt_of_lt_of_le hg hb.size, fun j v hj => (hb.cell (p := ⟨g, o + i * sz + j, none⟩) hg).trans (hr j v hj)⟩
theorem bV.rows {w : World} {v : Value} {sz : Nat} {els : List (List Value)} (h : bV w v sz els) (hz : 0 < sz) : ∃ A c, v = .slice A els.length c /\ (els.length : Int) <= 9223372036854775807 /\ pU w A sz els := by
 obtain ⟨A, c, e⟩ := h.sl
 refine ⟨A, c, e, h.most, fun i el hi => ?_⟩
 obtain ⟨b, off, c', e', hc⟩ := h.at_ i el hi
 rw [e] at e'
 cases e'
 have hl := h.len i el hi
 obtain ⟨u, hu⟩ : ∃ u, el[0]? = some u := ⟨_, List.getElem?_eq_getElem (by omega)⟩
 exact ⟨b, off, rfl, World.block_lt_of_cell? w ⟨b, off + i * sz + 0, none⟩ (hc 0 u hu), hc⟩
theorem pU.own {w : World} {base : Nat} {e : TypeId} {sz n : Nat} {v : Value} {els : List (List Value)} (h : w.ownsRow base e sz v n els.flatten) (hn : els.length = n) (hz : 0 < sz) (hl : ∀ x ∈ els, x.length = sz) : ∃ A c, v = .slice A els.length c /\ pU w A sz els := by
 subst hn
 obtain ⟨A, c, e, _, r⟩ := bV.rows (bV.MH h hl) hz
 exact ⟨A, c, e, r⟩
theorem JY {P : Program} {ops : Array Oper} {rest : List Oper} {o : Oper} {a : Act} {Q : Exit -> Act -> World -> Prop} {w0 W : World} (hgd : o.guard = none) (s x : Operand) (t : TypeId)
  (ho : o.op = .call { callee := .builtin .append, args := #[s, x], argTypes := #[t, t] })
  (B : Nat) (e : TypeId) (z : Value) (size bytes : Nat) (ht : P.underlying t = some (.slice e)) (hrow : (P.info? e).map (fun i => (i.zero, i.size, i.bytes)) = some (some z, size, bytes)) (hzs : z.cells.size = size) (hsz : 0 < size)
  (v : Value) (n : Nat) (xs : List Value) (hs : a.eval s = v) (hown : W.ownsRow B e size v n xs)
  (us : List Value) (g c : Nat) (hx : a.eval x = .slice (some ⟨g, 0, none⟩) 1 c) (hg : W.heap[g]? = some (.cells us.toArray e (0, 0))) (hl : us.length = size) (h1 : ∀ u ∈ us, u.oneCell' = true)
  (hn : n < 1000000) (hby : bytes <= 1024) (hbel : Below B w0 W) (hB : B <= W.heap.size)
  (h : ∀ v' w', w'.ownsRow B e size v' (n + 1) (xs ++ us) -> Below B w0 w' -> wpList P ops Q rest (a.put o.dst v') w') : wpList P ops Q (o :: rest) a W := by
 obtain ⟨i0, hi, hz0, hz1, hz2⟩ := info_parts hrow
 have hmul : (n + 1) * bytes <= 1000000 * 1024 := Nat.mul_le_mul (by omega) hby
 refine wpList_append_own _ hgd s x t ho B e i0 z size bytes ht hi hz0 hz1 hz2 hzs hsz v n xs hs hown ⟨g, 0, none⟩ 1 c us hx (by omega) (fun j u hu => ?_) h1 (by simp only [maxLen]; omega) (by omega) hB ?_
 ·rw [addr_add, Nat.zero_add, cell_of_row W g j us.toArray e (0, 0) hg]
  simpa using hu
 ·intro v' w' hown' hg' _
  exact h v' w' hown' (hbel.grown hg' hB (fun k hk => (hown.lt k hk).1))
theorem aT.blks {w : World} {v : Value} {D : FnD} (h : aT w v D) : ∃ A c, D.bv = .slice A D.bs.length c /\ (D.bs.length : Int) <= 9223372036854775807 /\ pU w A 14 (D.bs.map bH.cells) := by
 obtain ⟨A, c, e, hm, r⟩ := bV.rows h.blocks (by decide)
 rw [List.length_map] at e hm
 exact ⟨A, c, e, hm, r⟩
theorem lq.TR {w : World} {b : bH} (h : lq w b) : ∃ A c, b.s = .slice A b.st.length c /\ (b.st.length : Int) <= 9223372036854775807 /\ pU w A 26 b.st := bV.rows h.sts (by decide)
def ptV (p : Nat × Nat) : List Value := [.int .i64 p.1, .int .i64 p.2]
theorem lu {w : World} {b : bH} (h : lq w b) : b.cells.length = 14 := by
 have l1 := h.BO.len
 have l2 := h.uX.len
 have e1 : oM.length = 9 := rfl
 have e2 : kT.length = 3 := rfl
 show (b.s :: (b.pre ++ b.a :: b.post)).length = 14
 simp
 omega
theorem ajw {k : Kd} {v : Value} (h : k.ok v) : v.oneCell' = true := by
 cases k with
 | i x => obtain ⟨n, rfl, _⟩ := h; rfl
 | b => obtain ⟨b, rfl⟩ := h; rfl
 | s => obtain ⟨s, rfl, _⟩ := h; rfl
theorem oU : ∀ {ks : List Kd} {us : List Value}, ak Kd.ok ks us -> ∀ u ∈ us, u.oneCell' = true
 | [], [], _, _, hu => by cases hu
 | k :: ks, v :: us, h, u, hu => by
  rcases List.mem_cons.1 hu with rfl | hu
  ·exact ajw h.1
  ·exact oU h.2 u hu
 | [], _ :: _, h, _, _ => h.elim
 | _ :: _, [], h, _, _ => h.elim
theorem Di {w : World} {b : bH} (h : lq w b) : ∀ u ∈ b.cells, u.oneCell' = true := fun u hu => by
 obtain ⟨A, c, e, _⟩ := lq.TR h
 obtain ⟨A2, c2, e2, _⟩ := bV.rows h.opl (by decide)
 rcases List.mem_cons.1 hu with rfl | hu
 ·rw [e]; rfl
 ·rcases List.mem_append.1 hu with hu | hu
  ·exact oU h.BO u hu
  ·rcases List.mem_cons.1 hu with rfl | hu
   ·rw [e2]; rfl
   ·exact oU h.uX u hu
theorem Ea (w : World) (old new : Array Value) (t : TypeId) : (w.alloc (.cells old t)).setRow w.heap.size new = w.alloc (.cells new t) := by
 have h : (w.heap.push (Obj.cells old t)).modify w.heap.size (fun x => match x with | .cells c elem frozen => .cells new elem frozen | o => o) = w.heap.push (Obj.cells new t) := by
  apply Array.ext
  ·simp
  ·intro i h1 h2
   rw [Array.getElem_modify]
   by_cases hi : w.heap.size = i
   ·subst hi
    simp
   ·rw [if_neg hi]
    have : i < w.heap.size := by simp at h2; omega
    rw [Array.getElem_push_lt this, Array.getElem_push_lt this]
 exact congrArg (fun x => ({ heap := x, tape := w.tape, drawn := w.drawn, os := w.os, output := w.output } : World)) h
theorem BR {P : Program} {ops : Array Oper} {rest : List Oper} {o : Oper} {a : Act} {Q : Exit -> Act -> World -> Prop} (hgd : o.guard = none) (ty : TypeId) (x y : Operand) (ho : o.op = .store ty x y) (hd : o.dst = none)
  (W : World) (H : Nat) (hH : W.heap.size = H) (cells : Array Value) (hx : a.eval x = .pointer (some ⟨H, 0, none⟩)) (hy : a.eval y = .agg cells)
  (t : TypeId) (old : Array Value) (hi : (P.info? ty).map (·.size) = some cells.size) (hold : old.size = cells.size) (h1 : cells.all (·.oneCell') = true)
  (h : wpList P ops Q rest a (W.alloc (.cells cells t))) : wpList P ops Q (o :: rest) a (W.alloc (.cells old t)) := by
 subst hH
 refine wpList_store_row hgd ty x y ho W.heap.size cells hx hy t old (cu rfl) hi hold h1 ?_
 rw [Ea, hd]
 exact h
theorem nV {P : Program} {W : World} {H : Nat} {cells : List Value} {old : Array Value} {t : TypeId} (hH : W.heap.size = H) (hold : old.size = cells.length) (h1 : ∀ u, u ∈ cells -> u.oneCell' = true) :
  (storeCells ⟨H, 0, none⟩ cells).run P (W.alloc (.cells old t)) = .ok () (W.alloc (.cells cells.toArray t)) := by
 subst hH
 have := run_storeCells_from (P := P) W.heap.size t cells 0 old (W.alloc (.cells old t)) (cu rfl) (by omega) h1
 simp only [List.take_zero, List.nil_append] at this
 rw [this, Ea]
theorem Ls {w w' : World} {base : Nat} {e : TypeId} {size : Nat} {v : Value} {n : Nat} {xs : List Value} (h : w.ownsRow base e size v n xs) (hb : Below w.heap.size w w') : w'.ownsRow base e size v n xs := jk h fun k hk => hb.block k (jZ h k hk).2
end Go.Proofs.YtglmonlofejcgaaGreatDoor.loan
namespace Go.Proofs.YtglmonlofejcgaaGreatDoor
open Go.RowKit Am loan
section
variable {P : Program} {ops : Array Oper} {Q : Exit -> Act -> World -> Prop}
def Cells (L : List Addr) (w w' : World) : Prop := ∀ p ∈ L, w'.cell? p = w.cell? p
theorem Cells.get {L : List Addr} {w w' : World} {p : Addr} {u : Value} (h : Cells L w w') (hp : p ∈ L) (hc : w.cell? p = some u) : w'.cell? p = some u := (h p hp).trans hc
theorem Cells.refl (L : List Addr) (w : World) : Cells L w w := fun _ _ => rfl
theorem Cells.yw {L : List Addr} {w w' : World} (h : Below w.heap.size w w') (hL : ∀ p ∈ L, p.block < w.heap.size) : Cells L w w' := fun p hp => h.cell (p := p) (hL p hp)
theorem dI (L : List Addr) {id : Nat} {a : Act} {w : World} (r : List (Nat × Bool)) (hm : P.follows .mixedOrders = true) (hs : Region.noSelect ops = true) (hlen : r.length <= ops.size) (hok : uf .any ops r (Array.replicate ops.size false) = true)
  (hQ : ∀ (d : Tmp) (v : Value) c a w, Q (.panic c) (a.put (some d) v) w -> Q (.panic c) a w) (h : sV P ops Q (Cells L) r a w.drew) : (Code.region id ops true).wp P Q a w :=
 wp_region_any hm (Cj _ _ _ _ (MN (fun w => Cells.refl L w) (fun _ _ _ h k p hp => (k p hp).trans (h p hp)) hs (fun d v c a w h => match d, h with | none, h => h | some d, h => hQ d v c a w h) r _ _ _ _ hlen hok h))
theorem SeqC.take {L : List Addr} {i : Nat} {o : Oper} {r : List (Nat × Bool)} {a : Act} {w : World} {v : Value} (ho : ops.toList[i]? = some o) (hw : Region.wanted o (yielded ops a.tmps) = true) (hrun : ∀ W, Cells L w W -> (execOp a.eval o).run P W = .ok (.value v) W)
  (h : sV P ops Q (Cells L) r (a.put o.dst v) w) : sV P ops Q (Cells L) ((i, true) :: r) a w := ⟨o, v, Du ho, .inl ⟨hw, hrun⟩, h⟩
theorem SeqC.skip {L : List Addr} {i : Nat} {o : Oper} {r : List (Nat × Bool)} {a : Act} {w : World} (ho : ops.toList[i]? = some o) (hw : Region.wanted o (yielded ops a.tmps) = false)
  (h : sV P ops Q (Cells L) r (a.put o.dst undef) w) : sV P ops Q (Cells L) ((i, true) :: r) a w := ⟨o, undef, Du ho, .inr ⟨hw, rfl⟩, h⟩
theorem SeqC.pass {L : List Addr} {i : Nat} {o : Oper} {r : List (Nat × Bool)} {a : Act} {w : World} (ho : ops.toList[i]? = some o) (hw : Region.wanted o (yielded ops a.tmps) = false)
  (h : sV P ops Q (Cells L) r (a.put o.dst undef) w) : sV P ops Q (Cells L) ((i, false) :: r) a w :=
 wpOp_step (Du ho) fun K' hK => by rw [hw]; exact hK _ _ ⟨Cells.refl _ _, h⟩
theorem SeqC.step {L : List Addr} {i : Nat} {o : Oper} {r : List (Nat × Bool)} {a : Act} {w : World} (ho : ops.toList[i]? = some o) (hw : Region.wanted o (yielded ops a.tmps) = true)
  (h : ∀ K' : Act -> World -> Prop, (∀ a w', Cells L w w' -> sV P ops Q (Cells L) r a w' -> K' a w') -> Oper.wp P o a w K' Q) : sV P ops Q (Cells L) ((i, false) :: r) a w :=
 wpOp_step (Du ho) fun K' hK => by rw [hw]; exact h K' fun a w' he hs => hK a w' ⟨he, hs⟩
theorem SeqC.val {L : List Addr} {i : Nat} {o : Oper} {r : List (Nat × Bool)} {a : Act} {w w' : World} {v : Value} (ho : ops.toList[i]? = some o) (hw : Region.wanted o (yielded ops a.tmps) = true)
  (hrun : (execOp a.eval o).run P w = .ok (.value v) w') (he : Cells L w w') (h : sV P ops Q (Cells L) r (a.put o.dst v) w') : sV P ops Q (Cells L) ((i, false) :: r) a w :=
 SeqC.step ho hw fun K' hK => by
  unfold Oper.wp
  rw [hrun]
  simp only [Oper.upon]
  exact hK _ _ he h
theorem SeqC.call {L : List Addr} {i : Nat} {o : Oper} {r : List (Nat × Bool)} {a : Act} {w : World} {f : FuncId} {args : Array Value} (ho : ops.toList[i]? = some o) (hw : Region.wanted o (yielded ops a.tmps) = true)
  (hrun : (execOp a.eval o).run P w = .ok (.enter f args) w) (h : Calls P f args w fun e w' => ∃ v, e = .returned v /\ Cells L w w' /\ sV P ops Q (Cells L) r (a.put o.dst v) w') : sV P ops Q (Cells L) ((i, false) :: r) a w :=
 SeqC.step ho hw fun K' hK => by
  unfold Oper.wp
  rw [hrun]
  simp only [Oper.upon]
  refine h.mono ?_
  rintro e w' ⟨v, rfl, he, hs⟩
  exact hK _ _ he hs
theorem SeqC.done {L : List Addr} {a : Act} {w : World} (h : Q .normal a w) : sV P ops Q (Cells L) [] a w := h
end
theorem Hw {P : Program} {w : World} (t ty : TypeId) (base : Nat) (e : TypeId) (z : Value) (size bytes : Nat) (ht : P.underlying t = some (.slice e)) (hrow : (P.info? e).map (fun i => (i.zero, i.size, i.bytes)) = some (some z, size, bytes)) (hzs : z.cells.size = size) (hsz : 0 < size)
  (v : Value) (n : Nat) (xs : List Value) (hown : w.ownsRow base e size v n xs) (us : List Value) (g0 c : Nat) (hg : w.heap[g0]? = some (.cells us.toArray e (0, 0))) (hl : us.length = size) (h1 : ∀ u ∈ us, u.oneCell' = true)
  (hn : n < 1000000) (hby : bytes <= 1024) (hbase : base <= w.heap.size) :
  ∃ v' w', (Builtin.append_ #[t, t] ty #[v, .slice (some ⟨g0, 0, none⟩) 1 c]).run P w = .ok v' w' /\ w'.ownsRow base e size v' (n + 1) (xs ++ us) /\ w.grownBy w' v.ownBlock /\
   (∀ (p : Addr) (u : Value), w.cell? p = some u -> (v.ownBlock = some p.block -> p.off < xs.length) -> w'.cell? p = some u) := by
 obtain ⟨i0, hi, hz0, hz1, hz2⟩ := info_parts hrow
 have hmul : (n + 1) * bytes <= 1000000 * 1024 := Nat.mul_le_mul (by omega) hby
 have hnews : ∀ j u, us[j]? = some u -> w.cell? ((⟨g0, 0, none⟩ : Addr).add j) = some u := fun j u hu => by
  rw [addr_add, Nat.zero_add, cell_of_row w g0 j us.toArray e (0, 0) hg]
  simpa using hu
 obtain ⟨v', w', hr, h2, h3, h4⟩ := run_append_own (P := P) w base t ty e i0 z size bytes ht hi hz0 hz1 hz2 hzs hsz v n xs hown ⟨g0, 0, none⟩ 1 c us (by omega) hnews h1 (by simp only [maxLen]; omega) (by omega) hbase
 refine ⟨v', w', hr, h2, h3, fun p u hc hp => ?_⟩
 by_cases hb : v.ownBlock = some p.block
 ·have hq := hp hb
  clear hp
  rcases hown.2 with ⟨rfl, _⟩ | ⟨g, cap, cur, rfl, hbg, hgc, hnc, hcm, hcs, htake⟩
  ·cases hb
  ·have hgp : g = p.block := by simpa [Value.ownBlock] using hb
   have hsp : p.spot = none := World.cell?_spot hc
   obtain ⟨pb, po, ps⟩ := p
   subst hgp
   have hsp : ps = none := hsp
   subst hsp
   have hq : po < xs.length := hq
   have hx := hown.1
   by_cases hroom : n + 1 <= cap
   ·have hfit : n * i0.size + us.length <= cur.size := by rw [hl, hcs, hz1]; have := Nat.mul_le_mul_right size hroom; rw [Nat.succ_mul] at this; exact this
    have hr2 := run_append_room (P := P) w t ty e i0 ht hi g n cap cur hgc ⟨g0, 0, none⟩ 1 c us (by omega) hnews h1 hroom hfit
    rw [hr] at hr2
    cases hr2
    rw [cell_of_row _ g po _ e (0, 0) (setRow_heap w g cur _ e _ hgc)]
    rw [cell_of_row w g po cur e (0, 0) hgc] at hc
    have hpn : po < (cur.toList.take (n * i0.size)).length := by rw [hz1, htake]; exact hq
    rw [List.getElem?_toArray, List.append_assoc, List.getElem?_append_left hpn, List.getElem?_take, if_pos (by rw [List.length_take] at hpn; omega)]
    simpa using hc
   ·have holds : ∀ j u, xs[j]? = some u -> w.cell? ((⟨g, 0, none⟩ : Addr).add j) = some u := hown.cells (g := g) rfl
    have hr2 := run_append_grow (P := P) w t ty e i0 z ht hi hz0 ⟨g, 0, none⟩ n cap xs (by rw [hz1]; exact hown.1) holds ⟨g0, 0, none⟩ 1 c us (by omega) hnews (by omega) (by omega) (growslice_fits (by omega) (by rw [hz2]; omega))
    rw [hr] at hr2
    cases hr2
    exact Ot (w := w.drew) hc
 ·rw [h3.cell_far p (World.block_lt_of_cell? w p hc) (fun e => hb e.symm)]
  exact hc
theorem Jd {P : Program} {w : World} {o : Oper} {a : Act} {K : Act -> World -> Prop} {Q : Exit -> Act -> World -> Prop} (s x : Operand) (t : TypeId)
  (ho : o.op = .call { callee := .builtin .append, args := #[s, x], argTypes := #[t, t] }) (base : Nat) (e : TypeId) (z : Value) (size bytes : Nat) (ht : P.underlying t = some (.slice e)) (hrow : (P.info? e).map (fun i => (i.zero, i.size, i.bytes)) = some (some z, size, bytes)) (hzs : z.cells.size = size) (hsz : 0 < size)
  (v : Value) (n : Nat) (xs : List Value) (hs : a.eval s = v) (hown : w.ownsRow base e size v n xs) (us : List Value) (g0 c : Nat) (hx : a.eval x = .slice (some ⟨g0, 0, none⟩) 1 c) (hg : w.heap[g0]? = some (.cells us.toArray e (0, 0))) (hl : us.length = size) (h1 : ∀ u ∈ us, u.oneCell' = true)
  (hn : n < 1000000) (hby : bytes <= 1024) (w0 : World) (hbel : Below base w0 w) (hbase : base <= w.heap.size)
  (h : ∀ v' w', w'.ownsRow base e size v' (n + 1) (xs ++ us) -> Below base w0 w' -> (∀ (p : Addr) (u : Value), w.cell? p = some u -> (v.ownBlock = some p.block -> p.off < xs.length) -> w'.cell? p = some u) -> K (a.put o.dst v') w') : o.wp P a w K Q := by
 obtain ⟨v', w', hr, h2, h3, h4⟩ := Hw (P := P) (w := w) t o.type base e z size bytes ht hrow hzs hsz v n xs hown us g0 c hg hl h1 hn hby hbase
 unfold Oper.wp execOp
 simp only [ho, resolve, invoke, builtin, Sem.run_bind, Sem.run_pure, Result.andThen_ok, List.map_toArray, List.map_cons, List.map_nil, hs, hx, hr]
 exact h v' w' h2 (hbel.grown h3 hbase (fun k hk => (hown.lt k hk).1)) h4
end Go.Proofs.YtglmonlofejcgaaGreatDoor
