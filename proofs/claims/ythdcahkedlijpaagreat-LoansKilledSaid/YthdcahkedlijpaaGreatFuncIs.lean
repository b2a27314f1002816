/- Lists among the arguments, and lists in their elements: where the elements lie, and what each of them is. (No program in sight.) The cells of an element that has lists among them. A function among the arguments: its locals, its blocks, their statements and the arguments of their jumps. (Type numbers are given when it is used.) -/
import Derived.Test.YthdcahkedlijpaaGreatAmC
import Derived.Deep.Slices
import Derived.Test.YthdcahkedlijpaaGreatJump1
namespace Go.Proofs.YthdcahkedlijpaaGreat.Am
open Go.RowKit Go.ChangeShapes Go.WideShapes Go.Deep
set_option linter.unusedVariables false
set_option linter.unusedSectionVars false
structure ListAt (w : World) (v : Value) (sz : Nat) (els : List (List Value)) : Prop where
  sl : ∃ A c, v = .slice A els.length c
  most : (els.length : Int) ≤ 9223372036854775807
  at_ : ∀ (i : Nat) (el : List Value), els[i]? = some el → ∃ b off c, v = .slice (some ⟨b, off, none⟩) els.length c ∧ ∀ f u, el[f]? = some u → w.cell? ⟨b, off + i * sz + f, none⟩ = some u
  len : ∀ (i : Nat) (el : List Value), els[i]? = some el → el.length = sz
  cap : els ≠ [] → ∀ A n c, v = .slice A n c → n ≤ c ∧ c ≤ maxLen
theorem addr_add {b o i : Nat} : (⟨b, o, none⟩ : Addr).add i = ⟨b, o + i, none⟩ := by unfold Addr.add; split <;> simp_all
theorem list_open {P : Program} {H : Type} {enc : TypeId × Value → H} {w : World} {spare : Nat → Bool} {held : Bool} {t e : TypeId} {fuel sz : Nat} {v : Value} {x : DataW H × List MemPlace} (hu : P.underlying t = some (.slice e)) (hC : P.cellsOf e = sz) (hsz : 0 < sz)
    (h : DataW.trod enc P w 0 spare held fuel t [v] = some x) : ∃ els, ListAt w v sz els ∧ ∃ n, ∀ el ∈ els, ∃ y, DataW.trod enc P w 0 spare held n e el = some y := by
  rcases open_slice hu h with ⟨q, _⟩ | ⟨a, len, cap, mm, n, D, Pl, q, _, hlc, hcm, hmm, _, hel⟩
  · cases q
    exact ⟨[], ⟨⟨none, 0, rfl⟩, by simp, fun i el h => by simp at h, fun i el h => by simp at h, fun h => absurd rfl h⟩, 0, fun el h => by cases h⟩
  · cases q
    have hle : len ≤ mm := by rw [hmm]; split <;> omega
    rw [hC] at hel
    let els : List (List Value) := (List.range len).map fun i => (w.cells? 0 (a.add (i * sz)) sz).getD []
    have hlen : els.length = len := by simp [els]
    have hget : ∀ i el, els[i]? = some el → i < len ∧ w.cells? 0 (a.add (i * sz)) sz = some el ∧ ∃ y, DataW.trod enc P w 0 spare held n e el = some y := fun i el hi => by
      have hil : i < len := by have := (List.getElem?_eq_some_iff.1 hi).1; omega
      obtain ⟨cs', q1, q2⟩ := hel i (by omega)
      have : els[i]? = some cs' := by simp [els, hil, q1]
      rw [hi] at this
      cases this
      exact ⟨hil, q1, _, q2⟩
    refine ⟨els, ⟨⟨some a, cap, by rw [hlen]⟩, by rw [hlen]; simp only [maxLen] at hcm; omega, fun i el hi => ?_, fun i el hi => ?_, fun _ A' n' c' e' => by cases e'; exact ⟨hlc, hcm⟩⟩, n, fun el hm => ?_⟩
    · obtain ⟨hil, q1, _⟩ := hget i el hi
      obtain ⟨_, hn, hat⟩ := World.cells?_some q1
      obtain ⟨b, off, spot⟩ := a
      have hsp : spot = none := by
        obtain ⟨cs0, q0, _⟩ := hel 0 (by omega)
        obtain ⟨_, hn0, hat0⟩ := World.cells?_some q0
        have h0 := hat0 0 hsz
        cases cs0 with
        | nil => simp at hn0; omega
        | cons u cs0 =>
          have := World.cell?_spot h0
          simpa [Addr.add] using this
      subst hsp
      refine ⟨b, off, cap, by rw [hlen], fun f u hf => ?_⟩
      have hfl : f < sz := by have := (List.getElem?_eq_some_iff.1 hf).1; omega
      have := hat f hfl
      rw [addr_add, addr_add] at this
      rw [this, hf]
    · obtain ⟨hil, q1, _⟩ := hget i el hi
      obtain ⟨_, hn, _⟩ := World.cells?_some q1
      exact hn
    · obtain ⟨i, hi⟩ := List.getElem?_of_mem hm
      exact (hget i el hi).2.2
theorem ListAt.frz {w w' : World} {v : Value} {sz : Nat} {els : List (List Value)} (h : ListAt w v sz els) (hw : ∀ k, k < w.heap.size → w'.heap[k]? = w.heap[k]?) : ListAt w' v sz els :=
  ⟨h.sl, h.most, fun i el he => by
    obtain ⟨b, off, c, e1, e2⟩ := h.at_ i el he
    refine ⟨b, off, c, e1, fun f u hf => ?_⟩
    have hcell := e2 f u hf
    rw [← hcell]
    exact World.cell?_of_block (hw b (World.block_lt_of_cell? w ⟨b, off + i * sz + f, none⟩ hcell)), h.len, h.cap⟩
theorem ListAt.el {b : Base} {w : World} {v : Value} {sz : Nat} {els : List (List Value)} (h : ListAt w v sz els) (hb : b.nb = w.heap.size) (hg : b.g = fun k => w.heap[k]?) {k : Nat} (hl : b.lst k = ⟨v, els⟩) {i : N} {n : Nat} (hn : @NV b i = (n : Int)) {el : List Value} (he : els[n]? = some el) {cs : List S} (hs : cs.length = sz) (hcs : All2 (fun x v => ∀ r, @VS b r x v) cs el) :
    ∃ bb off m c el, (b.lst k).v = .slice (some ⟨bb, off, none⟩) m c ∧ 0 ≤ @NV b i ∧ @NV b i < m ∧ @ElAt b k i bb (off + (@NV b i).toNat * cs.length) el ∧ All2 (fun x v => ∀ r, @VS b r x v) cs el := by
  obtain ⟨bb, off, c, e, hc⟩ := h.at_ n el he
  have hlt := (List.getElem?_eq_some_iff.1 he).1
  refine ⟨bb, off, els.length, c, el, by rw [hl]; exact e, by rw [hn]; omega, by rw [hn]; omega, ⟨by rw [hn, hl]; exact he, fun f u hf w1 hw => ?_⟩, hcs⟩
  have hcell := hc f u hf
  have hlb := World.block_lt_of_cell? w ⟨bb, off + n * sz + f, none⟩ hcell
  have hblk : w1.heap[bb]? = w.heap[bb]? := (hw bb (by rw [hb]; exact hlb)).trans (by rw [hg])
  rw [hn, hs, Int.toNat_natCast, ← hcell]
  exact World.cell?_of_block hblk
end Go.Proofs.YthdcahkedlijpaaGreat.Am
namespace Go.Proofs.YthdcahkedlijpaaGreat.Am
open Go.RowKit Go.ChangeShapes Go.WideShapes Go.Deep
set_option linter.unusedVariables false
set_option linter.unusedSectionVars false
def CellIs {P : Program} {H : Type} (enc : TypeId × Value → H) (w : World) (spare : Nat → Bool) (held : Bool) (k : Kd ⊕ TypeId) (v : Value) : Prop := match k with
  | .inl kd => kd.ok v
  | .inr t => ∃ m y, DataW.trod enc P w 0 spare held m t [v] = some y
def leafIs (P : Program) (n : Nat) (t : TypeId) (ks : List (Kd ⊕ TypeId)) : Prop :=
  ∀ (i : Nat) (k : Kd ⊕ TypeId), ks[i]? = some k → ∃ p : Nat × TypeId, (leafT P n 0 t)[i]? = some p ∧ p.1 = i ∧ (match k with | .inl kd => kdOf P p.2 = some kd | .inr u => p.2 = u)
def sameK (p q : Kd) : Bool := match p, q with
  | .i x, .i y => decide (x = y)
  | .b, .b => true
  | .s, .s => true
  | _, _ => false
theorem sameK_ok {p q : Kd} (h : sameK p q = true) : p = q := by
  unfold sameK at h
  split at h
  · rw [of_decide_eq_true h]
  · rfl
  · rfl
  · cases h
def leafB (P : Program) (n : Nat) (t : TypeId) (ks : List (Kd ⊕ TypeId)) : Bool := (List.range ks.length).all fun i => match (leafT P n 0 t)[i]?, ks[i]? with
  | some p, some k => Nat.beq p.1 i && (match k with | .inl kd => (match kdOf P p.2 with | some kd' => sameK kd' kd | none => false) | .inr u => Nat.beq p.2 u)
  | _, _ => false
theorem leafB_ok {P : Program} {n : Nat} {t : TypeId} {ks : List (Kd ⊕ TypeId)} (h : leafB P n t ks = true) : leafIs P n t ks := by
  intro i k hk
  have hi := (List.getElem?_eq_some_iff.1 hk).1
  have hb := List.all_eq_true.1 h i (List.mem_range.2 hi)
  rw [hk] at hb
  cases hp : (leafT P n 0 t)[i]? with
  | none => rw [hp] at hb; cases hb
  | some p =>
    rw [hp] at hb
    simp only [Bool.and_eq_true] at hb
    refine ⟨p, rfl, Nat.eq_of_beq_eq_true hb.1, ?_⟩
    have hb2 := hb.2
    cases k with
    | inl kd =>
      cases hkd : kdOf P p.2 with
      | none => simp only [hkd] at hb2; cases hb2
      | some kd' =>
        simp only [hkd] at hb2
        show some kd' = some kd
        rw [sameK_ok hb2]
    | inr u => exact Nat.eq_of_beq_eq_true hb2
theorem cells_trod {P : Program} {H : Type} {enc : TypeId × Value → H} {w : World} {spare : Nat → Bool} {held : Bool} {n : Nat} {t : TypeId} {fuel : Nat} {cs : List Value} {x : DataW H × List MemPlace} (h : DataW.trod enc P w 0 spare held fuel t cs = some x) {ks : List (Kd ⊕ TypeId)}
    (hk : leafIs P n t ks) (hl : cs.length = ks.length) : All2 (CellIs (P := P) enc w spare held) ks cs := by
  refine all2_by_nth hl.symm fun i k v hki hv => ?_
  obtain ⟨p, hp, hpi, hm⟩ := hk i k hki
  obtain ⟨_, v', y, m, k2, _, k4⟩ := leaf_trod n 0 t fuel cs x h p (List.mem_of_getElem? hp)
  rw [hpi, Nat.sub_zero, hv] at k2
  cases k2
  cases k with
  | inl kd => exact kd_trod hm k4
  | inr u =>
    have hm : p.2 = u := hm
    subst hm
    exact ⟨m, y, k4⟩
end Go.Proofs.YthdcahkedlijpaaGreat.Am
namespace Go.Proofs.YthdcahkedlijpaaGreat.Am
open Go.RowKit Go.ChangeShapes Go.WideShapes Go.Deep
set_option linter.unusedVariables false
set_option linter.unusedSectionVars false
structure BlkIs (w : World) (kS : List Kd) (cells : List Value) (s : Value) (pre : List Value) (a : Value) (post : List Value) (stmts ops : List (List Value)) : Prop where
  eq : cells = s :: (pre ++ a :: post)
  sts : ListAt w s kS.length stmts
  skd : ∀ st ∈ stmts, All2 Kd.ok kS st
  prek : All2 Kd.ok kPre pre
  opl : ListAt w a 5 ops
  okd : ∀ o ∈ ops, All2 Kd.ok opK o
  postk : All2 Kd.ok kPost post
structure FuncIs (w : World) (kS : List Kd) (v : Value) (p : Int) (u : Bool) (lv bv : Value) (ls bs : List (List Value)) : Prop where
  eq : v = .agg #[.int .i64 p, .bool u, lv, bv]
  pk : Kd.ok (.i .i64) (.int .i64 p)
  locals : ListAt w lv 2 ls
  lkd : ∀ t ∈ ls, All2 Kd.ok [.i .u8, .i .u8] t
  blocks : ListAt w bv 14 bs
  blk : ∀ b ∈ bs, ∃ s pre a post stmts ops, BlkIs w kS b s pre a post stmts ops
theorem cells_inl {P : Program} {H : Type} {enc : TypeId × Value → H} {w : World} {spare : Nat → Bool} {held : Bool} : ∀ {ks : List Kd} {us : List Value}, All2 (CellIs (P := P) enc w spare held) (ks.map .inl) us → All2 Kd.ok ks us
  | [], [], _ => trivial
  | k :: ks, u :: us, h => ⟨h.1, cells_inl h.2⟩
  | [], _ :: _, h => h.elim
  | _ :: _, [], h => h.elim
theorem all2_app {α β : Type} {R : α → β → Prop} : ∀ {xs ys : List α} {us : List β}, All2 R (xs ++ ys) us → ∃ u1 u2, us = u1 ++ u2 ∧ All2 R xs u1 ∧ All2 R ys u2
  | [], ys, us, h => ⟨[], us, rfl, trivial, h⟩
  | x :: xs, ys, [], h => h.elim
  | x :: xs, ys, u :: us, h => by
    obtain ⟨u1, u2, e, h1, h2⟩ := all2_app (xs := xs) h.2
    exact ⟨u :: u1, u2, by rw [e]; rfl, ⟨h.1, h1⟩, h2⟩
section
variable {P : Program} {H : Type} {enc : TypeId × Value → H} {w : World} {spare : Nat → Bool} {held : Bool} {kS : List Kd} {tF tLs tT tBs tB tSs tS tOs tO : TypeId}
theorem blk_open {n : Nat} {cs : List Value} {x : DataW H × List MemPlace} (h : DataW.trod enc P w 0 spare held n tB cs = some x) (hl : cs.length = 14)
    (lB : leafB P 6 tB (.inr tSs :: (kPre.map .inl ++ .inr tOs :: kPost.map .inl)) = true) (uS : P.underlying tSs = some (.slice tS)) (cS : P.cellsOf tS = kS.length) (hS : 0 < kS.length) (lS : leafB P 6 tS (kS.map .inl) = true)
    (uO : P.underlying tOs = some (.slice tO)) (cO : P.cellsOf tO = 5) (lO : leafB P 6 tO (opK.map .inl) = true) : ∃ s pre a post stmts ops, BlkIs w kS cs s pre a post stmts ops := by
  have hc := cells_trod h (leafB_ok lB) (by rw [hl]; rfl)
  obtain ⟨s, t, e, ⟨m, y, hs⟩, ht⟩ := all2_cons' hc
  obtain ⟨pre, t2, e2, hpre, ht2⟩ := all2_app ht
  obtain ⟨a, post, e3, ⟨m2, y2, ha⟩, hpost⟩ := all2_cons' ht2
  obtain ⟨stmts, L1, n1, g1⟩ := list_open uS cS hS hs
  obtain ⟨ops, L2, n2, g2⟩ := list_open uO cO (by decide) ha
  refine ⟨s, pre, a, post, stmts, ops, ⟨by rw [e, e2, e3], L1, fun st hst => ?_, cells_inl hpre, L2, fun o ho => ?_, cells_inl hpost⟩⟩
  · obtain ⟨z, hz⟩ := g1 st hst
    obtain ⟨i, hi⟩ := List.getElem?_of_mem hst
    exact cells_inl (cells_trod hz (leafB_ok lS) (by rw [L1.len i st hi, List.length_map]))
  · obtain ⟨z, hz⟩ := g2 o ho
    obtain ⟨i, hi⟩ := List.getElem?_of_mem ho
    exact cells_inl (cells_trod hz (leafB_ok lO) (by rw [L2.len i o hi]; rfl))
theorem func_open {fuel : Nat} {cs : List Value} {x : DataW H × List MemPlace} (h : DataW.trod enc P w 0 spare held fuel tF cs = some x) (hl : cs.length = 4) (lF : leafB P 6 tF [.inl (.i .i64), .inl .b, .inr tLs, .inr tBs] = true)
    (uL : P.underlying tLs = some (.slice tT)) (cT : P.cellsOf tT = 2) (lT : leafB P 6 tT [.inl (.i .u8), .inl (.i .u8)] = true) (uB : P.underlying tBs = some (.slice tB)) (cB : P.cellsOf tB = 14)
    (lB : leafB P 6 tB (.inr tSs :: (kPre.map .inl ++ .inr tOs :: kPost.map .inl)) = true) (uS : P.underlying tSs = some (.slice tS)) (cS : P.cellsOf tS = kS.length) (hS : 0 < kS.length) (lS : leafB P 6 tS (kS.map .inl) = true)
    (uO : P.underlying tOs = some (.slice tO)) (cO : P.cellsOf tO = 5) (lO : leafB P 6 tO (opK.map .inl) = true) : ∃ p u lv bv ls bs, FuncIs w kS (.agg cs.toArray) p u lv bv ls bs := by
  have hc := cells_trod h (leafB_ok lF) (by rw [hl]; rfl)
  obtain ⟨v0, t0, e0, h0, ht0⟩ := all2_cons' hc
  obtain ⟨v1, t1, e1, h1, ht1⟩ := all2_cons' ht0
  obtain ⟨lv, t2, e2, ⟨m2, y2, h2⟩, ht2⟩ := all2_cons' ht1
  obtain ⟨bv, t3, e3, ⟨m3, y3, h3⟩, ht3⟩ := all2_cons' ht2
  have e4 := all2_nil' ht3
  have h0' : Kd.ok (.i .i64) v0 := h0
  obtain ⟨p, rfl, hp⟩ := h0
  obtain ⟨u, rfl⟩ : ∃ u : Bool, v1 = .bool u := h1
  obtain ⟨ls, L1, n1, g1⟩ := list_open uL cT (by decide) h2
  obtain ⟨bs, L2, n2, g2⟩ := list_open uB cB (by decide) h3
  refine ⟨p, u, lv, bv, ls, bs, ⟨by rw [e0, e1, e2, e3, e4], h0', L1, fun t ht => ?_, L2, fun b hb => ?_⟩⟩
  · obtain ⟨z, hz⟩ := g1 t ht
    obtain ⟨i, hi⟩ := List.getElem?_of_mem ht
    exact cells_inl (ks := [.i .u8, .i .u8]) (cells_trod hz (leafB_ok lT) (by rw [L1.len i t hi]; rfl))
  · obtain ⟨z, hz⟩ := g2 b hb
    obtain ⟨i, hi⟩ := List.getElem?_of_mem hb
    exact blk_open hz (L2.len i b hi) lB uS cS hS lS uO cO lO
end
end Go.Proofs.YthdcahkedlijpaaGreat.Am
