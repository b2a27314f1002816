/- Lists among the arguments, and lists in their elements. -/
import Derived.Test.YtglmonlofejcgaaGreatDoorJump1
import Derived.WalkSpells
import Derived.WalkLawsBesides
import Derived.Lib.Hide
import Derived.OpenShut
import Derived.Test.YtglmonlofejcgaaGreatDoorFn0
import Derived.Deep.MidRow
import Derived.Laws.AppendOwnNone
import Derived.Deep.AppendLies
open List renaming getElem?_eq_some_iff → apu, getElem?_of_mem → apv, getElem?_cons_zero → apw, mem_of_getElem? → apA, flatten_cons → apB
open Array renaming getElem?_eq_some_iff → apx
open Bool renaming and_eq_true → apy
open Nat renaming eq_of_beq_eq_true → apz
set_option linter.unusedVariables false
set_option linter.unusedSectionVars false
namespace Go.Proofs.YtglmonlofejcgaaGreatDoor
namespace Am
open Go.RowKit Go.ChangeShapes Go.WideShapes Go.Deep
structure cZ (w : World) (v : Value) (sz : Nat) (els : List (List Value)) : Prop where
 sl : ∃ A c, v = .slice A els.length c
 most : (els.length : Int) <= 9223372036854775807
 at_ : ∀ (i : Nat) (el : List Value), els[i]? = some el -> ∃ b off c, v = .slice (some ⟨b, off, none⟩) els.length c /\ ∀ f u, el[f]? = some u -> w.cell? ⟨b, off + i * sz + f, none⟩ = some u
 len : ∀ (i : Nat) (el : List Value), els[i]? = some el -> el.length = sz
 cap : els ≠ [] -> ∀ A n c, v = .slice A n c -> n <= c /\ c <= maxLen
theorem addr_add {b o i : Nat} : (⟨b, o, none⟩ : Addr).add i = ⟨b, o + i, none⟩ := by unfold Addr.add; split <;> simp_all
theorem uo {P : Program} {H : Type} {enc : TypeId × Value -> H} {w : World} {spare : Nat -> Bool} {held : Bool} {t e : TypeId} {fuel sz : Nat} {v : Value} {x : DataW H × List MemPlace} (hu : P.underlying t = some (.slice e)) (hC : P.cellsOf e = sz) (hsz : 0 < sz)
  (h : DataW.trod enc P w 0 spare held fuel t [v] = some x) : ∃ els, cZ w v sz els /\ ∃ n, ∀ el ∈ els, ∃ y, DataW.trod enc P w 0 spare held n e el = some y := by
 rcases open_slice hu h with ⟨q, _⟩ | ⟨a, len, cap, mm, n, D, Pl, q, _, hlc, hcm, hmm, _, hel⟩
 ·cases q
  exact ⟨[], ⟨⟨none, 0, rfl⟩, by simp, fun i el h => by simp at h, fun i el h => by simp at h, fun h => absurd rfl h⟩, 0, fun el h => by cases h⟩
 ·cases q
  have hle : len <= mm := by rw [hmm]; split <;> omega
  rw [hC] at hel
  let els : List (List Value) := (List.range len).map fun i => (w.cells? 0 (a.add (i * sz)) sz).getD []
  have hlen : els.length = len := by simp [els]
  have hget : ∀ i el, els[i]? = some el -> i < len /\ w.cells? 0 (a.add (i * sz)) sz = some el /\ ∃ y, DataW.trod enc P w 0 spare held n e el = some y := fun i el hi => by
   have hil : i < len := by have := (apu.1 hi).1; omega
   obtain ⟨cs', q1, q2⟩ := hel i (by omega)
   have : els[i]? = some cs' := by simp [els, hil, q1]
   rw [hi] at this
   cases this
   exact ⟨hil, q1, _, q2⟩
  refine ⟨els, ⟨⟨some a, cap, by rw [hlen]⟩, by rw [hlen]; simp only [maxLen] at hcm; omega, fun i el hi => ?_, fun i el hi => ?_, fun _ A' n' c' e' => by cases e'; exact ⟨hlc, hcm⟩⟩, n, fun el hm => ?_⟩
  ·obtain ⟨hil, q1, _⟩ := hget i el hi
   obtain ⟨_, hn, hat⟩ := World.cells?_some q1
   obtain ⟨b, off, spot⟩ := a
   have hsp : spot = none := by
    obtain ⟨cs0, q0, _⟩ := hel 0 (by omega)
    obtain ⟨_, hn0, hat0⟩ := World.cells?_some q0
    have h0 := hat0 0 hsz
    cases cs0 with
    | nil => simp at hn0; omega
    | cons u cs0 =>
     have := World.cell?_spot h0
     simpa [Addr.add] using this
   subst hsp
   refine ⟨b, off, cap, by rw [hlen], fun f u hf => ?_⟩
   have hfl : f < sz := by have := (apu.1 hf).1; omega
   have := hat f hfl
   rw [addr_add, addr_add] at this
   rw [this, hf]
  ·obtain ⟨hil, q1, _⟩ := hget i el hi
   obtain ⟨_, hn, _⟩ := World.cells?_some q1
   exact hn
  ·obtain ⟨i, hi⟩ := apv hm
   exact (hget i el hi).2.2
theorem cZ.frz {w w' : World} {v : Value} {sz : Nat} {els : List (List Value)} (h : cZ w v sz els) (hw : ∀ k, k < w.heap.size -> w'.heap[k]? = w.heap[k]?) : cZ w' v sz els :=
 ⟨h.sl, h.most, fun i el he => by
  obtain ⟨b, off, c, e1, e2⟩ := h.at_ i el he
  refine ⟨b, off, c, e1, fun f u hf => ?_⟩
  have hcell := e2 f u hf
  rw [<- hcell]
  exact World.cell?_of_block (hw b (World.block_lt_of_cell? w ⟨b, off + i * sz + f, none⟩ hcell)), h.len, h.cap⟩
theorem cZ.el {b : Base} {w : World} {v : Value} {sz : Nat} {els : List (List Value)} (h : cZ w v sz els) (hb : b.nb = w.heap.size) (hg : b.g = fun k => w.heap[k]?) {k : Nat} (hl : b.lst k = ⟨v, els⟩) {i : N} {n : Nat} (hn : @NV b i = (n : Int)) {el : List Value} (he : els[n]? = some el) {cs : List S} (hs : cs.length = sz) (hcs : ak (fun x v => ∀ r, @VS b r x v) cs el) :
  ∃ bb off m c el, (b.lst k).v = .slice (some ⟨bb, off, none⟩) m c /\ 0 <= @NV b i /\ @NV b i < m /\ @aib b k i bb (off + (@NV b i).toNat * cs.length) el /\ ak (fun x v => ∀ r, @VS b r x v) cs el := by
 obtain ⟨bb, off, c, e, hc⟩ := h.at_ n el he
 have hlt := (apu.1 he).1
 refine ⟨bb, off, els.length, c, el, by rw [hl]; exact e, by rw [hn]; omega, by rw [hn]; omega, ⟨by rw [hn, hl]; exact he, fun f u hf w1 hw => ?_⟩, hcs⟩
 have hcell := hc f u hf
 have hlb := World.block_lt_of_cell? w ⟨bb, off + n * sz + f, none⟩ hcell
 have hblk : w1.heap[bb]? = w.heap[bb]? := (hw bb (by rw [hb]; exact hlb)).trans (by rw [hg])
 rw [hn, hs, Int.toNat_natCast, <- hcell]
 exact World.cell?_of_block hblk
def CellIs {P : Program} {H : Type} (enc : TypeId × Value -> H) (w : World) (spare : Nat -> Bool) (held : Bool) (k : Kd ⊕ TypeId) (v : Value) : Prop := match k with
 | .inl kd => kd.ok v
 | .inr t => ∃ m y, DataW.trod enc P w 0 spare held m t [v] = some y
def ad5 (P : Program) (n : Nat) (t : TypeId) (ks : List (Kd ⊕ TypeId)) : Prop :=
 ∀ (i : Nat) (k : Kd ⊕ TypeId), ks[i]? = some k -> ∃ p : Nat × TypeId, (Pv P n 0 t)[i]? = some p /\ p.1 = i /\ (match k with | .inl kd => OO P p.2 = some kd | .inr u => p.2 = u)
def acF (p q : Kd) : Bool := match p, q with
 | .i x, .i y => decide (x = y)
 | .b, .b => true
 | .s, .s => true
 | _, _ => false
theorem ac4 {p q : Kd} (h : acF p q = true) : p = q := by
 unfold acF at h
 split at h
 ·rw [of_decide_eq_true h]
 ·rfl
 ·rfl
 ·cases h
def AX (P : Program) (n : Nat) (t : TypeId) (ks : List (Kd ⊕ TypeId)) : Bool := (List.range ks.length).all fun i => match (Pv P n 0 t)[i]?, ks[i]? with
 | some p, some k => Nat.beq p.1 i && (match k with | .inl kd => (match OO P p.2 with | some kd' => acF kd' kd | none => false) | .inr u => Nat.beq p.2 u)
 | _, _ => false
theorem tY {P : Program} {n : Nat} {t : TypeId} {ks : List (Kd ⊕ TypeId)} (h : AX P n t ks = true) : ad5 P n t ks := by
 intro i k hk
 have hi := (apu.1 hk).1
 have hb := List.all_eq_true.1 h i (List.mem_range.2 hi)
 rw [hk] at hb
 cases hp : (Pv P n 0 t)[i]? with
 | none => rw [hp] at hb; cases hb
 | some p =>
  rw [hp] at hb
  simp only [apy] at hb
  refine ⟨p, rfl, apz hb.1, ?_⟩
  have hb2 := hb.2
  cases k with
  | inl kd =>
   cases hkd : OO P p.2 with
   | none => simp only [hkd] at hb2; cases hb2
   | some kd' =>
    simp only [hkd] at hb2
    show some kd' = some kd
    rw [ac4 hb2]
  | inr u => exact apz hb2
theorem nZ {P : Program} {H : Type} {enc : TypeId × Value -> H} {w : World} {spare : Nat -> Bool} {held : Bool} {n : Nat} {t : TypeId} {fuel : Nat} {cs : List Value} {x : DataW H × List MemPlace} (h : DataW.trod enc P w 0 spare held fuel t cs = some x) {ks : List (Kd ⊕ TypeId)}
  (hk : ad5 P n t ks) (hl : cs.length = ks.length) : ak (CellIs (P := P) enc w spare held) ks cs := by
 refine fZ hl.symm fun i k v hki hv => ?_
 obtain ⟨p, hp, hpi, hm⟩ := hk i k hki
 obtain ⟨_, v', y, m, k2, _, k4⟩ := TL n 0 t fuel cs x h p (apA hp)
 rw [hpi, Nat.sub_zero, hv] at k2
 cases k2
 cases k with
 | inl kd => exact akx hm k4
 | inr u =>
  have hm : p.2 = u := hm
  subst hm
  exact ⟨m, y, k4⟩
structure agU (w : World) (kS : List Kd) (cells : List Value) (s : Value) (pre : List Value) (a : Value) (post : List Value) (stmts ops : List (List Value)) : Prop where
 eq : cells = s :: (pre ++ a :: post)
 sts : cZ w s kS.length stmts
 skd : ∀ st ∈ stmts, ak Kd.ok kS st
 EU : ak Kd.ok oK pre
 opl : cZ w a 5 ops
 okd : ∀ o ∈ ops, ak Kd.ok opK o
 yu : ak Kd.ok kW post
structure ab8 (w : World) (kS : List Kd) (v : Value) (p : Int) (u : Bool) (lv bv : Value) (ls bs : List (List Value)) : Prop where
 eq : v = .agg #[.int .i64 p, .bool u, lv, bv]
 pk : Kd.ok (.i .i64) (.int .i64 p)
 locals : cZ w lv 2 ls
 lkd : ∀ t ∈ ls, ak Kd.ok [.i .u8, .i .u8] t
 blocks : cZ w bv 14 bs
 blk : ∀ b ∈ bs, ∃ s pre a post stmts ops, agU w kS b s pre a post stmts ops
theorem qp {P : Program} {H : Type} {enc : TypeId × Value -> H} {w : World} {spare : Nat -> Bool} {held : Bool} : ∀ {ks : List Kd} {us : List Value}, ak (CellIs (P := P) enc w spare held) (ks.map .inl) us -> ak Kd.ok ks us
 | [], [], _ => trivial
 | k :: ks, u :: us, h => ⟨h.1, qp h.2⟩
 | [], _ :: _, h => h.elim
 | _ :: _, [], h => h.elim
theorem Xi {α β : Type} {R : α -> β -> Prop} : ∀ {xs ys : List α} {us : List β}, ak R (xs ++ ys) us -> ∃ u1 u2, us = u1 ++ u2 /\ ak R xs u1 /\ ak R ys u2
 | [], ys, us, h => ⟨[], us, rfl, trivial, h⟩
 | x :: xs, ys, [], h => h.elim
 | x :: xs, ys, u :: us, h => by
  obtain ⟨u1, u2, e, h1, h2⟩ := Xi (xs := xs) h.2
  exact ⟨u :: u1, u2, by rw [e]; rfl, ⟨h.1, h1⟩, h2⟩
section
variable {P : Program} {H : Type} {enc : TypeId × Value -> H} {w : World} {spare : Nat -> Bool} {held : Bool} {kS : List Kd} {tF tLs tT tBs tB tSs tS tOs tO : TypeId}
theorem aeZ {n : Nat} {cs : List Value} {x : DataW H × List MemPlace} (h : DataW.trod enc P w 0 spare held n tB cs = some x) (hl : cs.length = 14)
  (lB : AX P 6 tB (.inr tSs :: (oK.map .inl ++ .inr tOs :: kW.map .inl)) = true) (uS : P.underlying tSs = some (.slice tS)) (cS : P.cellsOf tS = kS.length) (hS : 0 < kS.length) (lS : AX P 6 tS (kS.map .inl) = true)
  (uO : P.underlying tOs = some (.slice tO)) (cO : P.cellsOf tO = 5) (lO : AX P 6 tO (opK.map .inl) = true) : ∃ s pre a post stmts ops, agU w kS cs s pre a post stmts ops := by
 have hc := nZ h (tY lB) (by rw [hl]; rfl)
 obtain ⟨s, t, e, ⟨m, y, hs⟩, ht⟩ := aI hc
 obtain ⟨pre, t2, e2, hpre, ht2⟩ := Xi ht
 obtain ⟨a, post, e3, ⟨m2, y2, ha⟩, hpost⟩ := aI ht2
 obtain ⟨stmts, L1, n1, g1⟩ := uo uS cS hS hs
 obtain ⟨ops, L2, n2, g2⟩ := uo uO cO (by decide) ha
 refine ⟨s, pre, a, post, stmts, ops, ⟨by rw [e, e2, e3], L1, fun st hst => ?_, qp hpre, L2, fun o ho => ?_, qp hpost⟩⟩
 ·obtain ⟨z, hz⟩ := g1 st hst
  obtain ⟨i, hi⟩ := apv hst
  exact qp (nZ hz (tY lS) (by rw [L1.len i st hi, List.length_map]))
 ·obtain ⟨z, hz⟩ := g2 o ho
  obtain ⟨i, hi⟩ := apv ho
  exact qp (nZ hz (tY lO) (by rw [L2.len i o hi]; rfl))
theorem a6J {fuel : Nat} {cs : List Value} {x : DataW H × List MemPlace} (h : DataW.trod enc P w 0 spare held fuel tF cs = some x) (hl : cs.length = 4) (lF : AX P 6 tF [.inl (.i .i64), .inl .b, .inr tLs, .inr tBs] = true)
  (uL : P.underlying tLs = some (.slice tT)) (cT : P.cellsOf tT = 2) (lT : AX P 6 tT [.inl (.i .u8), .inl (.i .u8)] = true) (uB : P.underlying tBs = some (.slice tB)) (cB : P.cellsOf tB = 14)
  (lB : AX P 6 tB (.inr tSs :: (oK.map .inl ++ .inr tOs :: kW.map .inl)) = true) (uS : P.underlying tSs = some (.slice tS)) (cS : P.cellsOf tS = kS.length) (hS : 0 < kS.length) (lS : AX P 6 tS (kS.map .inl) = true)
  (uO : P.underlying tOs = some (.slice tO)) (cO : P.cellsOf tO = 5) (lO : AX P 6 tO (opK.map .inl) = true) : ∃ p u lv bv ls bs, ab8 w kS (.agg cs.toArray) p u lv bv ls bs := by
 have hc := nZ h (tY lF) (by rw [hl]; rfl)
 obtain ⟨v0, t0, e0, h0, ht0⟩ := aI hc
 obtain ⟨v1, t1, e1, h1, ht1⟩ := aI ht0
 obtain ⟨lv, t2, e2, ⟨m2, y2, h2⟩, ht2⟩ := aI ht1
 obtain ⟨bv, t3, e3, ⟨m3, y3, h3⟩, ht3⟩ := aI ht2
 have e4 := mD ht3
 have h0' : Kd.ok (.i .i64) v0 := h0
 obtain ⟨p, rfl, hp⟩ := h0
 obtain ⟨u, rfl⟩ : ∃ u : Bool, v1 = .bool u := h1
 obtain ⟨ls, L1, n1, g1⟩ := uo uL cT (by decide) h2
 obtain ⟨bs, L2, n2, g2⟩ := uo uB cB (by decide) h3
 refine ⟨p, u, lv, bv, ls, bs, ⟨by rw [e0, e1, e2, e3, e4], h0', L1, fun t ht => ?_, L2, fun b hb => ?_⟩⟩
 ·obtain ⟨z, hz⟩ := g1 t ht
  obtain ⟨i, hi⟩ := apv ht
  exact qp (ks := [.i .u8, .i .u8]) (nZ hz (tY lT) (by rw [L1.len i t hi]; rfl))
 ·obtain ⟨z, hz⟩ := g2 b hb
  obtain ⟨i, hi⟩ := apv hb
  exact aeZ hz (L2.len i b hi) lB uS cS hS lS uO cO lO
end
end Am
open Go.RowKit
theorem qQ {P : Program} {ops : Array Oper} {rest : List Oper} {o : Oper} {a : Act} {Q : Exit -> Act -> World -> Prop} {w0 w : World} (hgd : o.guard = none) (s x : Operand) (t : TypeId)
  (ho : o.op = .call { callee := .builtin .append, args := #[s, x], argTypes := #[t, t] })
  (B : Nat) (e : TypeId) (z : Value) (bytes : Nat) (ht : P.underlying t = some (.slice e)) (hrow : (P.info? e).map (fun i => (i.zero, i.size, i.bytes)) = some (some z, 1, bytes)) (hzs : z.cells.size = 1)
  (v : Value) (n : Nat) (xs : List Value) (hs : a.eval s = v) (hown : w.ownsRow B e 1 v n xs)
  (u : Value) (hx : a.eval x = .slice (some ⟨w.heap.size, 0, none⟩) 1 1) (h1 : u.oneCell' = true)
  (hn : n < 2147483648) (hby : bytes <= 1024) (hbel : Below B w0 w) (hB : B <= w.heap.size)
  (h : ∀ v' w', w'.ownsRow B e 1 v' (n + 1) (xs ++ [u]) -> Below B w0 w' -> wpList P ops Q rest (a.put o.dst v') w') : wpList P ops Q (o :: rest) a (w.alloc (.cells #[u] e)) := by
 obtain ⟨i0, hi, hz0, hz1, hz2⟩ := info_parts hrow
 have hmul : (n + 1) * bytes <= 2147483648 * 1024 := Nat.mul_le_mul (by omega) hby
 refine wpList_append_own _ hgd s x t ho B e i0 z 1 bytes ht hi hz0 hz1 hz2 hzs (by decide) v n xs hs (hown.alloc _) ⟨w.heap.size, 0, none⟩ 1 1 [u] hx rfl (cell_one_new _ _ _) (by simpa using h1) (by simp only [maxLen]; omega) (by omega) (by simp; omega) ?_
 intro v' w' hown' hg _
 refine h v' w' hown' ((hbel.alloc hB _).grown hg (by simp; omega) (fun k hk => (hown.lt k hk).1))
section
variable {P : Program} {ops : Array Oper} {Q : Exit -> Act -> World -> Prop} {md : Region.Mode} {E : World -> World -> Prop}
def FV (P : Program) (md : Region.Mode) (ops : Array Oper) (Q : Exit -> Act -> World -> Prop) (E : World -> World -> Prop) : Nat -> Array Bool -> Act -> World -> Prop
 | 0, listed, a, w => Region.ready md ops listed = [] /\ Q .normal a w
 | fuel + 1, listed, a, w =>
  (Region.ready md ops listed = [] -> Q .normal a w) /\
  ∀ i ∈ Region.ready md ops listed, wpOp P ops Q i (fun a' w' => E w w' /\ FV P md ops Q E fuel (listed.setIfInBounds i true) a' w') a w
theorem Cm : ∀ (fuel : Nat) (listed : Array Bool) (a : Act) (w : World), FV P md ops Q E fuel listed a w -> wpAny P md ops Q fuel listed a w
 | 0, _, _, _, h => h
 | fuel + 1, _, _, _, h => ⟨h.1, fun i hi => wpOp_mono (fun a' w' h' => Cm fuel _ a' w' h'.2) (h.2 i hi)⟩
theorem Us {o : Oper} {v : Value} {a : Act} {w w' : World} (htr : ∀ a b c, E a b -> E b c -> E a c) (he : E w w') (h : YieldsIf P ops (E w) o v a) : YieldsIf P ops (E w') o v a :=
 h.imp (fun ⟨hw, hv⟩ => ⟨hw, fun W hW => hv W (htr _ _ _ he hW)⟩) id
theorem Ef (hrf : ∀ w, E w w) (htr : ∀ a b c, E a b -> E b c -> E a c) {i : Nat} {oi : Oper} {v : Value} (hi : ops[i]? = some oi) (hsel : ∀ (j : Nat) (o : Oper) cs b, ops[j]? = some o -> o.op ≠ .select cs b)
  (hQ : ∀ c a w, Q (.panic c) (a.put oi.dst v) w -> Q (.panic c) a w) :
  ∀ (fuel : Nat) (listed : Array Bool) (a : Act) (w : World),
   (∀ j oj, ops[j]? = some oj -> j ≠ i -> listed.getD j true = false -> (∀ e ∈ oj.after, Region.binds md e = true -> e.on ≠ i) -> oi.apart ops oj = true) ->
   i ∈ Region.ready md ops listed -> YieldsIf P ops (E w) oi v a ->
   FV P md ops Q E fuel (listed.setIfInBounds i true) (a.put oi.dst v) w -> FV P md ops Q E (fuel + 1) listed a w := by
 intro fuel
 induction fuel with
 | zero =>
  intro listed a w _ hr hy H
  refine ⟨fun h => (by rw [h] at hr; cases hr), fun j hj => ?_⟩
  by_cases hji : j = i
  ·subst hji; exact hy.wpOp hi (hrf w) ⟨hrf w, H⟩
  ·have := ready_mono hj hji
   rw [H.1] at this
   cases this
 | succ fuel ih =>
  intro listed a w hfree hr hy H
  refine ⟨fun h => (by rw [h] at hr; cases hr), fun j hj => ?_⟩
  by_cases hji : j = i
  ·subst hji; exact hy.wpOp hi (hrf w) ⟨hrf w, H⟩
  ·have h1 := H.2 j (ready_mono hj hji)
   obtain ⟨hjun, oj, hoj, hall⟩ := mem_ready.1 hj
   have hnot : ∀ e ∈ oj.after, Region.binds md e = true -> e.on ≠ i := fun e he hb heq => by
    have h1 := hall e he hb
    have h0 := (mem_ready.1 hr).1
    rw [heq] at h1
    rcases Nat.lt_or_ge i listed.size with h' | h'
    ·simp [h'] at h0 h1; rw [h0] at h1; cases h1
    ·simp [Array.getElem?_eq_none h'] at h1
   have h2 := wpOp_putIf hoj (hfree j oj hoj hji hjun hnot) (fun cs b => hsel i oi cs b hi) (fun cs b => hsel j oj cs b hoj) hQ hy h1
   have hfree' : ∀ k ok, ops[k]? = some ok -> k ≠ i -> (listed.setIfInBounds j true).getD k true = false ->
     (∀ e ∈ ok.after, Region.binds md e = true -> e.on ≠ i) -> oi.apart ops ok = true := fun k ok hk hki hun hno => by
    refine hfree k ok hk hki ?_ hno
    by_cases hjk : j = k
    ·subst hjk; exact hjun
    ·rw [getD_set_ne true hjk] at hun; exact hun
   refine wpOp_mono (fun a' w' h3 => ⟨h3.2.1, ih (listed.setIfInBounds j true) a' w' hfree' (ready_mono hr (Ne.symm hji)) (Us htr h3.2.1 h3.1) ?_⟩) h2
   rw [Array.setIfInBounds_comm _ _ hji]
   exact h3.2.2
def wM (P : Program) (ops : Array Oper) (Q : Exit -> Act -> World -> Prop) (E : World -> World -> Prop) : List (Nat × Bool) -> Act -> World -> Prop
 | [], a, w => Q .normal a w
 | (i, true) :: r, a, w => ∃ o v, ops[i]? = some o /\ YieldsIf P ops (E w) o v a /\ wM P ops Q E r (a.put o.dst v) w
 | (i, false) :: r, a, w => wpOp P ops Q i (fun a' w' => E w w' /\ wM P ops Q E r a' w') a w
def vI (md : Region.Mode) (ops : Array Oper) : List (Nat × Bool) -> Array Bool -> Bool
 | [], listed => (Region.ready md ops listed).isEmpty
 | (i, true) :: r, listed => Region.free md ops listed i && (Region.ready md ops listed).contains i && vI md ops r (listed.setIfInBounds i true)
 | (i, false) :: r, listed => Region.ready md ops listed == [i] && vI md ops r (listed.setIfInBounds i true)
theorem MJ (hrf : ∀ w, E w w) (htr : ∀ a b c, E a b -> E b c -> E a c) (hs : Region.noSelect ops = true) (hQ : ∀ (d : Option Tmp) (v : Value) c a w, Q (.panic c) (a.put d v) w -> Q (.panic c) a w) :
  ∀ (r : List (Nat × Bool)) (fuel : Nat) (listed : Array Bool) (a : Act) (w : World), r.length <= fuel -> vI md ops r listed = true -> wM P ops Q E r a w -> FV P md ops Q E fuel listed a w
 | [], fuel, listed, a, w, _, hok, h => by
  have hr : Region.ready md ops listed = [] := by simpa [vI] using hok
  cases fuel with
  | zero => exact ⟨hr, h⟩
  | succ fuel => exact ⟨fun _ => h, by rw [hr]; simp⟩
 | (i, true) :: r, 0, _, _, _, hl, _, _ => by simp at hl
 | (i, false) :: r, 0, _, _, _, hl, _, _ => by simp at hl
 | (i, true) :: r, fuel + 1, listed, a, w, hl, hok, h => by
  simp only [vI, apy] at hok
  obtain ⟨o, v, ho, hy, hrest⟩ := h
  exact Ef hrf htr ho (Region.noSelect_spec hs) (fun c a w => hQ o.dst v c a w) fuel listed a w (Region.free_spec ho hok.1.1) (by simpa using hok.1.2) hy
   (MJ hrf htr hs hQ r fuel _ _ _ (by simpa using hl) hok.2 hrest)
 | (i, false) :: r, fuel + 1, listed, a, w, hl, hok, h => by
  simp only [vI, apy, beq_iff_eq] at hok
  refine ⟨fun h0 => (by rw [h0] at hok; cases hok.1), fun j hj => ?_⟩
  rw [hok.1] at hj
  obtain rfl : j = i := by simpa using hj
  exact wpOp_mono (fun a' w' h' => ⟨h'.1, MJ hrf htr hs hQ r fuel _ _ _ (by simpa using hl) hok.2 h'.2⟩) h
theorem IX {i : Nat} {o : Oper} (h : ops.toList[i]? = some o) : ops[i]? = some o := by rwa [Array.getElem?_toList] at h
end
section
variable {P : Program} {ops : Array Oper} {Q : Exit -> Act -> World -> Prop} {B : Nat}
abbrev AnyE (P : Program) (ops : Array Oper) (Q : Exit -> Act -> World -> Prop) (B : Nat) : Nat -> Array Bool -> Act -> World -> Prop := FV P .any ops Q (Below B)
theorem I8 (B : Nat) {id : Nat} {a : Act} {w : World} (hm : P.follows .mixedOrders = true) (h : AnyE P ops Q B ops.size (Array.replicate ops.size false) a w.drew) : (Code.region id ops true).wp P Q a w :=
 wp_region_any hm (Cm _ _ _ _ h)
theorem AnyE.take {i fuel : Nat} {o : Oper} {listed : Array Bool} {a : Act} {w : World} {v : Value} (hs : Region.noSelect ops = true) (ho : ops.toList[i]? = some o) (hf : Region.free .any ops listed i = true) (hr : (Region.ready .any ops listed).contains i = true)
  (hQ : ∀ (d : Tmp) (v : Value) c a w, Q (.panic c) (a.put (some d) v) w -> Q (.panic c) a w) (hw : Region.wanted o (yielded ops a.tmps) = true) (hrun : ∀ W, Below B w W -> (execOp a.eval o).run P W = .ok (.value v) W)
  (h : AnyE P ops Q B fuel (listed.setIfInBounds i true) (a.put o.dst v) w) : AnyE P ops Q B (fuel + 1) listed a w :=
 Ef (fun _ => Below.refl _ _) (fun _ _ _ => Below.trans) (IX ho) (Region.noSelect_spec hs) (fun c a w h => match o.dst, h with | none, h => h | some d, h => hQ d v c a w h) fuel listed a w (Region.free_spec (IX ho) hf) (by simpa using hr) (.inl ⟨hw, hrun⟩) h
theorem AnyE.all {rs : List Nat} {fuel : Nat} {listed : Array Bool} {a : Act} {w : World} (hr : Region.ready .any ops listed = rs) (hne : rs.isEmpty = false)
  (h : ∀ i ∈ rs, wpOp P ops Q i (fun a' w' => Below B w w' /\ AnyE P ops Q B fuel (listed.setIfInBounds i true) a' w') a w) : AnyE P ops Q B (fuel + 1) listed a w :=
 ⟨fun h0 => by rw [hr] at h0; subst h0; simp at hne, by rw [hr]; exact h⟩
theorem AnyE.done {listed : Array Bool} {a : Act} {w : World} (hr : Region.ready .any ops listed = []) (h : Q .normal a w) : AnyE P ops Q B 0 listed a w := ⟨hr, h⟩
theorem ajr {i : Nat} {o : Oper} {a : Act} {w w' : World} {v : Value} {R : Act -> World -> Prop} (ho : ops.toList[i]? = some o) (hw : Region.wanted o (yielded ops a.tmps) = true)
  (hrun : (execOp a.eval o).run P w = .ok (.value v) w') (he : Below B w w') (h : R (a.put o.dst v) w') : wpOp P ops Q i (fun a' w' => Below B w w' /\ R a' w') a w :=
 wpOp_step (IX ho) fun K' hK => by
  rw [hw]
  show Oper.wp P o a w K' Q
  unfold Oper.wp
  rw [hrun]
  simp only [Oper.upon]
  exact hK _ _ ⟨he, h⟩
theorem adp {i : Nat} {o : Oper} {a : Act} {w w' : World} {R : Act -> World -> Prop} (ho : ops.toList[i]? = some o) (hw : Region.wanted o (yielded ops a.tmps) = true)
  (hrun : (execOp a.eval o).run P w = .ok .skip w') (he : Below B w w') (h : R (a.put o.dst undef) w') : wpOp P ops Q i (fun a' w' => Below B w w' /\ R a' w') a w :=
 wpOp_step (IX ho) fun K' hK => by
  rw [hw]
  show Oper.wp P o a w K' Q
  unfold Oper.wp
  rw [hrun]
  simp only [Oper.upon]
  exact hK _ _ ⟨he, h⟩
end
namespace Am
theorem cZ.lens {w : World} {v : Value} {sz : Nat} {els : List (List Value)} (h : cZ w v sz els) : ∀ x ∈ els, x.length = sz := fun x hx => by
 obtain ⟨i, hi⟩ := apv hx
 exact h.len i x hi
def jA (v : Value) : List Nat := match v.ownBlock with | some k => [k] | none => []
theorem zG {w w' : World} {base : Nat} {e : TypeId} {size : Nat} {v : Value} {n : Nat} {xs : List Value} (h : w.ownsRow base e size v n xs) (hk : ∀ k, k ∈ jA v -> w'.heap[k]? = w.heap[k]?) : w'.ownsRow base e size v n xs := by
 obtain ⟨h1, h2⟩ := h
 refine ⟨h1, ?_⟩
 rcases h2 with h2 | ⟨g, cap, cur, rfl, hb, hg, r⟩
 ·exact .inl h2
 ·exact .inr ⟨g, cap, cur, rfl, hb, (hk g (by simp [jA, Value.ownBlock])).trans hg, r⟩
theorem a7d {w : World} {base base' : Nat} {e : TypeId} {size : Nat} {v : Value} {n : Nat} {xs : List Value} (h : w.ownsRow base e size v n xs) (hb : base' <= base) : w.ownsRow base' e size v n xs := by
 obtain ⟨h1, h2⟩ := h
 refine ⟨h1, ?_⟩
 rcases h2 with h2 | ⟨g, cap, cur, rfl, hg, r⟩
 ·exact .inl h2
 ·exact .inr ⟨g, cap, cur, rfl, by omega, r⟩
theorem zJ {w : World} {base : Nat} {e : TypeId} {size : Nat} {v : Value} {n : Nat} {xs : List Value} (h : w.ownsRow base e size v n xs) : ∀ k, k ∈ jA v -> base <= k /\ k < w.heap.size := fun k hk => by
 refine h.lt k ?_
 unfold jA at hk
 cases ho : v.ownBlock with
 | none => rw [ho] at hk; cases hk
 | some j => rw [ho] at hk; simp only [List.mem_singleton] at hk; rw [hk]
theorem flat_get {sz : Nat} : ∀ {l : List (List Value)} {i f : Nat} {el : List Value} {u : Value}, (∀ x ∈ l, x.length = sz) -> l[i]? = some el -> el[f]? = some u -> l.flatten[i * sz + f]? = some u
 | [], i, f, el, u, _, h, _ => by simp at h
 | x :: l, 0, f, el, u, hl, h, k => by
  simp only [apw, Option.some.injEq] at h
  subst h
  rw [apB, Nat.zero_mul, Nat.zero_add, List.getElem?_append_left (apu.1 k).1]
  exact k
 | x :: l, i + 1, f, el, u, hl, h, k => by
  have hx := hl x (List.mem_cons_self ..)
  rw [apB, List.getElem?_append_right (by rw [Nat.succ_mul]; omega), show (i + 1) * sz + f - x.length = i * sz + f by rw [Nat.succ_mul]; omega]
  exact flat_get (fun y hy => hl y (List.mem_cons_of_mem _ hy)) (by simpa using h) k
theorem cZ.an4 {w : World} {base : Nat} {e : TypeId} {sz : Nat} {v : Value} {els : List (List Value)} (h : w.ownsRow base e sz v els.length els.flatten) (hl : ∀ x ∈ els, x.length = sz) : cZ w v sz els := by
 obtain ⟨h1, h2⟩ := h
 rcases h2 with ⟨rfl, h0⟩ | ⟨g, cap, cur, rfl, hb, hg, hn, hm, hs, ht⟩
 ·have : els = [] := List.eq_nil_of_length_eq_zero h0
  subst this
  exact ⟨⟨none, 0, rfl⟩, by simp, fun i el h => by simp at h, fun i el h => by simp at h, fun h => absurd rfl h⟩
 ·refine ⟨⟨_, _, rfl⟩, by unfold maxLen at hm; omega, fun i el hi => ⟨g, 0, cap, rfl, fun f u hf => ?_⟩, fun i el hi => hl el (apA hi), fun _ A n c e => ?_⟩
  ·have hfl := flat_get hl hi hf
   rw [<- ht, List.getElem?_take] at hfl
   rw [Nat.zero_add, cell_of_row w g _ cur e (0, 0) hg]
   split at hfl
   ·simpa using hfl
   ·cases hfl
  ·cases e
   exact ⟨hn, hm⟩
theorem aX {w : World} {o : Obj} {H : Nat} (hH : w.heap.size = H) : (w.alloc o).heap[H]? = some o := hH ▸ heap_alloc_new w o
theorem jX {w : World} {o x : Obj} {k : Nat} (h : w.heap[k]? = some x) : (w.alloc o).heap[k]? = some x := by
 rw [heap_alloc_old w o (apx.1 h).1]
 exact h
theorem Gx {w : World} {o : Obj} {a : Addr} {v : Value} (h : w.cell? a = some v) : (w.alloc o).cell? a = some v := by
 rw [<- h]
 exact World.cell?_of_block (heap_alloc_old w o (World.block_lt_of_cell? w a h))
theorem Zu {v : Value} {k : Nat} (h : v.ownBlock = some k) : jA v = [k] := by unfold jA; rw [h]
theorem Gn {v : Value} {k : Nat} : k ∈ jA v ↔ v.ownBlock = some k := by
 unfold jA
 cases v.ownBlock with
 | none => simp
 | some j => simp [eq_comm]
def Kept (r : Option Nat) (w w' : World) : Prop := ∀ k x, some k ≠ r -> w.heap[k]? = some x -> w'.heap[k]? = some x
theorem Kept.owns {r : Option Nat} {w w' : World} (hk : Kept r w w') {base : Nat} {e : TypeId} {size : Nat} {v : Value} {n : Nat} {xs : List Value} (h : w.ownsRow base e size v n xs) (hr : ∀ k, v.ownBlock = some k -> some k ≠ r) : w'.ownsRow base e size v n xs := by
 obtain ⟨h1, h2⟩ := h
 refine ⟨h1, ?_⟩
 rcases h2 with h2 | ⟨g, cap, cur, rfl, hb, hg, q⟩
 ·exact .inl h2
 ·exact .inr ⟨g, cap, cur, rfl, hb, hk g _ (hr g rfl) hg, q⟩
theorem Xf {w : World} {b : Nat} {C : Array Value} {T : TypeId} (hb : w.heap[b]? = some (.cells C T (0, 0))) (o : Nat) : w.frozen? ⟨b, o, none⟩ = false := by
 simp [World.frozen?, hb]
theorem Yp {w : World} {b : Nat} {C : Array Value} {T : TypeId} (hb : w.heap[b]? = some (.cells C T (0, 0))) {o n : Nat} (h : o + n <= C.size) : w.there b o n := fun j hj => by
 refine ⟨?_, Xf hb _⟩
 rw [cell_of_row w b _ C T (0, 0) hb]
 simp
 omega
section
variable {P : Program} {ops : Array Oper} {Q : Exit -> Act -> World -> Prop} {B i : Nat} {o : Oper} {a : Act} {w : World} {R : Act -> World -> Prop}
theorem JF (ho : ops.toList[i]? = some o) (hw : Region.wanted o (yielded ops a.tmps) = true) (v : Nat -> Value) (cs : Array Value) (t : TypeId) (hrun : (execOp a.eval o).run P w = .ok (.value (v w.heap.size)) (w.alloc (.cells cs t))) (hB : B <= w.heap.size)
  (h : ∀ H w', H = w.heap.size -> w'.heap[H]? = some (.cells cs t (0, 0)) -> Kept none w w' -> Below B w w' -> w'.heap.size = H + 1 -> R (a.put o.dst (v H)) w') : wpOp P ops Q i (fun a' w' => Below B w w' /\ R a' w') a w :=
 ajr ho hw hrun ((Below.refl B w).alloc hB _) (h _ _ rfl (heap_alloc_new w _) (fun k x _ hk => jX hk) ((Below.refl B w).alloc hB _) (by simp))
theorem zC (ho : ops.toList[i]? = some o) (hw : Region.wanted o (yielded ops a.tmps) = true) (ty : TypeId) (x y : Operand) (hop : o.op = .store ty x y) (b off : Nat) (cells : Array Value) (hx : a.eval x = .pointer (some ⟨b, off, none⟩)) (hy : a.eval y = .agg cells)
  {C : Array Value} {T : TypeId} (hb : w.heap[b]? = some (.cells C T (0, 0))) (hfit : off + cells.size <= C.size) (hi : (P.info? ty).map (·.size) = some cells.size) (h1 : cells.all (·.oneCell') = true) (hB : B <= b)
  (h : ∀ w' D, w'.heap[b]? = some (.cells D T (0, 0)) -> D.toList = C.toList.take off ++ (cells.toList ++ C.toList.drop (off + cells.size)) -> Kept (some b) w w' -> Below B w w' -> w'.heap.size = w.heap.size -> R (a.put o.dst Go.undef) w') : wpOp P ops Q i (fun a' w' => Below B w w' /\ R a' w') a w := by
 letI : Base := (⟨w, [], []⟩ : Env).b
 obtain ⟨D, g1, g2, g3, g4, g5, g6, g7⟩ := setCells_at cells.toList off C w hb (by simpa using hfit)
 have hbel : Below B w (w.setCells b off cells.toList) := ⟨g4, g5, g6, by omega, fun k hk => g3 k (by omega)⟩
 refine adp (w' := w.setCells b off cells.toList) ho hw ?_ hbel (h _ D g1 (by simpa using g2) (fun k x hk hx => (g3 k (fun e => hk (by rw [e]))).trans hx) hbel g7)
 unfold execOp
 simp only [hop, hx, hy, Instr.storeAt, Instr.sureAddr, Sem.run_bind, Sem.run_pure, Result.andThen_ok, run_storeVar_mid w b off ty cells (Yp hb hfit) hi h1]
 try rfl
end
def Held (S : List Nat) (w W : World) : Prop := ∀ k ∈ S, ∀ x, w.heap[k]? = some x -> W.heap[k]? = some x
theorem Kept.held {r : Option Nat} {w w' : World} (h : Kept r w w') {S : List Nat} (hr : ∀ k ∈ S, some k ≠ r) : Held S w w' := fun k hk x hx => h k x (hr k hk) hx
section
variable {P : Program} {ops : Array Oper} {Q : Exit -> Act -> World -> Prop} {S : List Nat}
variable {i : Nat} {o : Oper} {a : Act} {w : World} {R : Act -> World -> Prop}
end
theorem cZ.of_block {w : World} {H c : Nat} {cs : Array Value} {t : TypeId} (hb : w.heap[H]? = some (.cells cs t (0, 0))) {sz : Nat} (hs : cs.size = sz) (hc : 1 <= c /\ c <= maxLen) : cZ w (.slice (some ⟨H, 0, none⟩) 1 c) sz [cs.toList] :=
 ⟨⟨_, _, rfl⟩, by simp, fun i el hi => by
  have h0 : i = 0 := by have := (apu.1 hi).1; simpa using this
  subst h0
  simp only [apw, Option.some.injEq] at hi
  subst hi
  refine ⟨H, 0, c, rfl, fun f u hf => ?_⟩
  rw [cell_of_row w H _ cs t (0, 0) hb]
  simpa using hf, fun i el hi => by
  have h0 : i = 0 := by have := (apu.1 hi).1; simpa using this
  subst h0
  simp only [apw, Option.some.injEq] at hi
  subst hi
  simpa using hs, fun _ A n c' e => by cases e; exact hc⟩
def Box (w : World) (H : Nat) (t : TypeId) (a b c d : Value) : Prop := w.heap[H]? = some (.cells #[a, b, c, d] t (0, 0))
theorem Box.cells {w : World} {H : Nat} {t : TypeId} {a b c d : Value} (h : Box w H t a b c d) : w.cell? ⟨H, 0, none⟩ = some a /\ w.cell? ⟨H, 1, none⟩ = some b /\ w.cell? ⟨H, 2, none⟩ = some c /\ w.cell? ⟨H, 3, none⟩ = some d := by
 refine ⟨?_, ?_, ?_, ?_⟩ <;> (rw [cell_of_row w H _ _ t (0, 0) h]; rfl)
theorem Box.lt {w : World} {H : Nat} {t : TypeId} {a b c d : Value} (h : Box w H t a b c d) : H < w.heap.size := (apx.1 h).1
theorem Box.below {w w' : World} {H : Nat} {t : TypeId} {a b c d : Value} (h : Box w H t a b c d) (hb : Below w.heap.size w w') : Box w' H t a b c d := (hb.block H h.lt).trans h
theorem Box.mk {w : World} {t : TypeId} {a b c d : Value} {H : Nat} (hH : w.heap.size = H) : Box (w.alloc (.cells #[a, b, c, d] t)) H t a b c d := aX hH
theorem Box.more {w : World} {o : Obj} {H : Nat} {t : TypeId} {a b c d : Value} (h : Box w H t a b c d) : Box (w.alloc o) H t a b c d := jX h
end Am
end Go.Proofs.YtglmonlofejcgaaGreatDoor
