/- A function among the arguments: its locals, its blocks, their statements and the arguments of their jumps. (Type numbers are given when it is used.) -/
import Derived.Test.YtbebbbclhgjcbaaListAt2
namespace Go.Proofs.Ytbebbbclhgjcbaa.Am
open Go.RowKit Go.ChangeShapes Go.WideShapes Go.Deep
set_option linter.unusedVariables false
set_option linter.unusedSectionVars false
/-- a block: its statements, its jump's cells, and the jump's arguments -/
structure BlkIs (w : World) (kS : List Kd) (cells : List Value) (s : Value) (pre : List Value) (a : Value) (post : List Value) (stmts ops : List (List Value)) : Prop where
  eq : cells = s :: (pre ++ a :: post)
  sts : ListAt w s kS.length stmts
  skd : ∀ st ∈ stmts, All2 Kd.ok kS st
  prek : All2 Kd.ok kPre pre
  opl : ListAt w a 5 ops
  okd : ∀ o ∈ ops, All2 Kd.ok opK o
  postk : All2 Kd.ok kPost post
/-- a function: parameters, whether it is unsafe, locals, blocks -/
structure FuncIs (w : World) (kS : List Kd) (v : Value) (p : Int) (u : Bool) (lv bv : Value) (ls bs : List (List Value)) : Prop where
  eq : v = .agg #[.int .i64 p, .bool u, lv, bv]
  pk : Kd.ok (.i .i64) (.int .i64 p)
  locals : ListAt w lv 2 ls
  lkd : ∀ t ∈ ls, All2 Kd.ok [.i .u8, .i .u8] t
  blocks : ListAt w bv 14 bs
  blk : ∀ b ∈ bs, ∃ s pre a post stmts ops, BlkIs w kS b s pre a post stmts ops
theorem cells_inl {P : Program} {H : Type} {enc : TypeId × Value → H} {w : World} {spare : Nat → Bool} {held : Bool} : ∀ {ks : List Kd} {us : List Value}, All2 (CellIs (P := P) enc w spare held) (ks.map .inl) us → All2 Kd.ok ks us
  | [], [], _ => trivial
  | k :: ks, u :: us, h => ⟨h.1, cells_inl h.2⟩
  | [], _ :: _, h => h.elim
  | _ :: _, [], h => h.elim
theorem all2_app {α β : Type} {R : α → β → Prop} : ∀ {xs ys : List α} {us : List β}, All2 R (xs ++ ys) us → ∃ u1 u2, us = u1 ++ u2 ∧ All2 R xs u1 ∧ All2 R ys u2
  | [], ys, us, h => ⟨[], us, rfl, trivial, h⟩
  | x :: xs, ys, [], h => h.elim
  | x :: xs, ys, u :: us, h => by
    obtain ⟨u1, u2, e, h1, h2⟩ := all2_app (xs := xs) h.2
    exact ⟨u :: u1, u2, by rw [e]; rfl, ⟨h.1, h1⟩, h2⟩
section
variable {P : Program} {H : Type} {enc : TypeId × Value → H} {w : World} {spare : Nat → Bool} {held : Bool} {kS : List Kd} {tF tLs tT tBs tB tSs tS tOs tO : TypeId}
theorem blk_open {n : Nat} {cs : List Value} {x : DataW H × List MemPlace} (h : DataW.trod enc P w 0 spare held n tB cs = some x) (hl : cs.length = 14)
    (lB : leafB P 6 tB (.inr tSs :: (kPre.map .inl ++ .inr tOs :: kPost.map .inl)) = true) (uS : P.underlying tSs = some (.slice tS)) (cS : P.cellsOf tS = kS.length) (hS : 0 < kS.length) (lS : leafB P 6 tS (kS.map .inl) = true)
    (uO : P.underlying tOs = some (.slice tO)) (cO : P.cellsOf tO = 5) (lO : leafB P 6 tO (opK.map .inl) = true) : ∃ s pre a post stmts ops, BlkIs w kS cs s pre a post stmts ops := by
  have hc := cells_trod h (leafB_ok lB) (by rw [hl]; rfl)
  obtain ⟨s, t, e, ⟨m, y, hs⟩, ht⟩ := all2_cons' hc
  obtain ⟨pre, t2, e2, hpre, ht2⟩ := all2_app ht
  obtain ⟨a, post, e3, ⟨m2, y2, ha⟩, hpost⟩ := all2_cons' ht2
  obtain ⟨stmts, L1, n1, g1⟩ := list_open uS cS hS hs
  obtain ⟨ops, L2, n2, g2⟩ := list_open uO cO (by decide) ha
  refine ⟨s, pre, a, post, stmts, ops, ⟨by rw [e, e2, e3], L1, fun st hst => ?_, cells_inl hpre, L2, fun o ho => ?_, cells_inl hpost⟩⟩
  · obtain ⟨z, hz⟩ := g1 st hst
    obtain ⟨i, hi⟩ := List.getElem?_of_mem hst
    exact cells_inl (cells_trod hz (leafB_ok lS) (by rw [L1.len i st hi, List.length_map]))
  · obtain ⟨z, hz⟩ := g2 o ho
    obtain ⟨i, hi⟩ := List.getElem?_of_mem ho
    exact cells_inl (cells_trod hz (leafB_ok lO) (by rw [L2.len i o hi]; rfl))
theorem func_open {fuel : Nat} {cs : List Value} {x : DataW H × List MemPlace} (h : DataW.trod enc P w 0 spare held fuel tF cs = some x) (hl : cs.length = 4) (lF : leafB P 6 tF [.inl (.i .i64), .inl .b, .inr tLs, .inr tBs] = true)
    (uL : P.underlying tLs = some (.slice tT)) (cT : P.cellsOf tT = 2) (lT : leafB P 6 tT [.inl (.i .u8), .inl (.i .u8)] = true) (uB : P.underlying tBs = some (.slice tB)) (cB : P.cellsOf tB = 14)
    (lB : leafB P 6 tB (.inr tSs :: (kPre.map .inl ++ .inr tOs :: kPost.map .inl)) = true) (uS : P.underlying tSs = some (.slice tS)) (cS : P.cellsOf tS = kS.length) (hS : 0 < kS.length) (lS : leafB P 6 tS (kS.map .inl) = true)
    (uO : P.underlying tOs = some (.slice tO)) (cO : P.cellsOf tO = 5) (lO : leafB P 6 tO (opK.map .inl) = true) : ∃ p u lv bv ls bs, FuncIs w kS (.agg cs.toArray) p u lv bv ls bs := by
  have hc := cells_trod h (leafB_ok lF) (by rw [hl]; rfl)
  obtain ⟨v0, t0, e0, h0, ht0⟩ := all2_cons' hc
  obtain ⟨v1, t1, e1, h1, ht1⟩ := all2_cons' ht0
  obtain ⟨lv, t2, e2, ⟨m2, y2, h2⟩, ht2⟩ := all2_cons' ht1
  obtain ⟨bv, t3, e3, ⟨m3, y3, h3⟩, ht3⟩ := all2_cons' ht2
  have e4 := all2_nil' ht3
  have h0' : Kd.ok (.i .i64) v0 := h0
  obtain ⟨p, rfl, hp⟩ := h0
  obtain ⟨u, rfl⟩ : ∃ u : Bool, v1 = .bool u := h1
  obtain ⟨ls, L1, n1, g1⟩ := list_open uL cT (by decide) h2
  obtain ⟨bs, L2, n2, g2⟩ := list_open uB cB (by decide) h3
  refine ⟨p, u, lv, bv, ls, bs, ⟨by rw [e0, e1, e2, e3, e4], h0', L1, fun t ht => ?_, L2, fun b hb => ?_⟩⟩
  · obtain ⟨z, hz⟩ := g1 t ht
    obtain ⟨i, hi⟩ := List.getElem?_of_mem ht
    exact cells_inl (ks := [.i .u8, .i .u8]) (cells_trod hz (leafB_ok lT) (by rw [L1.len i t hi]; rfl))
  · obtain ⟨z, hz⟩ := g2 b hb
    obtain ⟨i, hi⟩ := List.getElem?_of_mem hb
    exact blk_open hz (L2.len i b hi) lB uS cS hS lS uO cO lO
end
end Go.Proofs.Ytbebbbclhgjcbaa.Am
