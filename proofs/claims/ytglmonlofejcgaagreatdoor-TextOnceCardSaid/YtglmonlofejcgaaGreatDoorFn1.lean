/- A function among the arguments: its data, numbers and lists behind a call with it, and the tables of its elements. (No program in sight.) -/
import Derived.Test.YtglmonlofejcgaaGreatDoorTwinA
set_option maxRecDepth 100000
open List renaming getD_eq_getElem?_getD → apu, getElem?_eq_some_iff → apv, getElem?_append_left → apw, getElem?_eq_getElem → apx, mem_of_getElem? → apy, getElem?_map → apB, getElem?_range → apD, length_map → apE, mem_cons → apF, not_mem_nil → apG, all_eq_true → apH
open Nat renaming beq → apz, eq_of_beq_eq_true → apC
open Bool renaming and_eq_true → apA
set_option linter.unusedVariables false
set_option linter.unusedSectionVars false
namespace Go.Proofs.YtglmonlofejcgaaGreatDoor
namespace Am
open Go.RowKit Go.Deep
abbrev vW : List Kd := .i .u8 :: ([.i .i64, .b, .i .u8] ++ ((.i .u8 :: .i .u8 :: .i .u8 :: ([.i .u8, .i .i64, .i .i64, .b, .i .u8] ++ ([.i .u8, .i .i64, .i .i64, .b, .i .u8] ++ [.i .i64, .b, .i .u8]))) ++ ([.i .u8, .i .i64, .i .i64, .b, .i .u8] ++ [.i .i64])))
structure bK where
 s : Value
 pre : List Value
 a : Value
 post : List Value
 st : List (List Value)
 ops : List (List Value)
def bK.cells (b : bK) : List Value := b.s :: (b.pre ++ b.a :: b.post)
structure FnD where
 p : Int
 u : Bool
 lv : Value
 bv : Value
 ls : List (List Value)
 bs : List bK
 xl : ajl
structure jY (w : World) (b : bK) : Prop where
 sts : cZ w b.s 26 b.st
 skd : ∀ st ∈ b.st, ak Kd.ok vW st
 EU : ak Kd.ok oK b.pre
 opl : cZ w b.a 5 b.ops
 okd : ∀ o ∈ b.ops, ak Kd.ok opK o
 yu : ak Kd.ok kW b.post
structure aV (w : World) (v : Value) (D : FnD) : Prop where
 eq : v = .agg #[.int .i64 D.p, .bool D.u, D.lv, D.bv]
 pk : Kd.ok (.i .i64) (.int .i64 D.p)
 locals : cZ w D.lv 2 D.ls
 lkd : ∀ t ∈ D.ls, ak Kd.ok [.i .u8, .i .u8] t
 blocks : cZ w D.bv 14 (D.bs.map bK.cells)
 blk : ∀ b ∈ D.bs, jY w b
theorem a2P {w : World} : ∀ {bs : List (List Value)}, (∀ b ∈ bs, ∃ s pre a post stmts ops, agU w vW b s pre a post stmts ops) -> ∃ l : List bK, bs = l.map bK.cells /\ ∀ b ∈ l, jY w b
 | [], _ => ⟨[], rfl, fun _ h => by cases h⟩
 | b :: bs, h => by
  obtain ⟨s, pre, a, post, stmts, ops, k⟩ := h b (by simp)
  obtain ⟨l, e, hl⟩ := a2P (bs := bs) fun x hx => h x (List.mem_cons_of_mem _ hx)
  refine ⟨⟨s, pre, a, post, stmts, ops⟩ :: l, by rw [e, List.map_cons, bK.cells, k.eq], fun x hx => ?_⟩
  rcases apF.1 hx with rfl | hx
  ·exact ⟨k.sts, k.skd, k.EU, k.opl, k.okd, k.yu⟩
  ·exact hl x hx
theorem aV.of {w : World} {v : Value} {p : Int} {u : Bool} {lv bv : Value} {ls bs : List (List Value)} (h : ab8 w vW v p u lv bv ls bs) : ∃ D, aV w v D := by
 obtain ⟨l, e, hl⟩ := a2P h.blk
 exact ⟨⟨p, u, lv, bv, ls, l, ⟨.slice none 0 0, []⟩⟩, h.eq, h.pk, h.locals, h.lkd, e ▸ h.blocks, hl⟩
theorem aV.frz {w w' : World} {v : Value} {D : FnD} (h : aV w v D) (hw : ∀ k, k < w.heap.size -> w'.heap[k]? = w.heap[k]?) : aV w' v D :=
 ⟨h.eq, h.pk, h.locals.frz hw, h.lkd, h.blocks.frz hw, fun b hb => ⟨(h.blk b hb).sts.frz hw, (h.blk b hb).skd, (h.blk b hb).EU, (h.blk b hb).opl.frz hw, (h.blk b hb).okd, (h.blk b hb).yu⟩⟩
def b0 : bK := ⟨.slice none 0 0, [], .slice none 0 0, [], [], []⟩
def FnD.blk (D : FnD) (i : Nat) : bK := D.bs.getD i b0
def FnD.stm (D : FnD) (i k : Nat) : List Value := (D.blk i).st.getD k []
def FnD.opd (D : FnD) (i m : Nat) : List Value := (D.blk i).ops.getD m []
def FnD.typ (D : FnD) (t : Nat) : List Value := D.ls.getD t []
structure At where
 i : Nat
 k : Nat
 m : Nat
 t : Nat
def qI (n : Nat) (l : List Value) : List Int := (List.range n).map (ah l)
def mZ (a b : Int) : Int := b2i (decide (a < b))
def aoc (a b : Int) : Int := b2i (decide (a = b))
def Aa (D : FnD) : List Int := [D.p, b2i D.u, D.ls.length, D.bs.length]
def a2f (b : bK) (i n : Nat) : List Int := [(i : Int), (i : Int) + 1, mZ i n, b.st.length] ++ (qI 9 b.pre ++ ((b.ops.length : Int) :: qI 3 b.post))
def MK (z : Nat) (l : List Value) (k n : Nat) : List Int := (k : Int) :: ((k : Int) + 1) :: mZ k n :: qI z l
def ao9 (p nL nB : Int) (st : List Value) (b : bK) (op : List Value) : List Int :=
 [mZ (ah st 25) nL, mZ (ah st 1) nL, mZ (ah st 9) nL, mZ (ah st 14) nL, mZ (ah st 17) nL, mZ (ah st 22) nL,
  mZ (ah b.pre 3) nL, mZ (ah b.post 0) nL, mZ (ah op 2) nL, mZ (ah b.pre 7) nB, mZ (ah b.pre 8) nB, aoc (ah b.pre 7) (ah b.pre 8), aoc (ah st 17) (ah st 1), mZ p nL]
def xsB (D : FnD) (q : At) : List Int := a2f (D.blk q.i) q.i D.bs.length
def xsS (D : FnD) (q : At) : List Int := MK 26 (D.stm q.i q.k) q.k (D.blk q.i).st.length
def xsO (D : FnD) (q : At) : List Int := MK 5 (D.opd q.i q.m) q.m (D.blk q.i).ops.length
def xsT (D : FnD) (q : At) : List Int := MK 2 (D.typ q.t) q.t D.ls.length
def xsC (D : FnD) (q : At) : List Int := ao9 D.p D.ls.length D.bs.length (D.stm q.i q.k) (D.blk q.i) (D.opd q.i q.m)
def aK (D : FnD) (q : At) (more : List Int) : List Int := Aa D ++ (xsB D q ++ (xsS D q ++ (xsO D q ++ (xsT D q ++ (xsC D q ++ more)))))
def aiE (D : FnD) (q : At) : List ajl := [⟨D.lv, D.ls⟩, ⟨D.bv, D.bs.map bK.cells⟩, D.xl, ⟨(D.blk q.i).s, (D.blk q.i).st⟩, ⟨(D.blk q.i).a, (D.blk q.i).ops⟩]
def fnE (w : World) (D : FnD) (q : At) (more : List Int) : Env := ⟨w, aK D q more, aiE D q⟩
abbrev fnB (w : World) (D : FnD) (q : At) (more : List Int) : Base := (fnE w D q more).b
def ivN : Int × Int := (0, 9223372036854775807)
def ivB : Int × Int := (0, 1)
def ivE (ks : List Kd) : List (Int × Int) := ivN :: ivN :: ivB :: ks.map Kd.iv
def fJ : List (Int × Int) := [Kd.iv (.i .i64), ivB, ivN, ivN] ++ (([ivN, ivN, ivB, ivN] ++ (oK.map Kd.iv ++ (ivN :: kW.map Kd.iv))) ++ (ivE vW ++ (ivE opK ++ (ivE [.i .u8, .i .u8] ++ List.replicate 14 ivB))))
def eU : Fx := ⟨[], ⟨[(4, 3, 6), (21, 7, 23), (50, 17, 52), (58, 2, 60), (49, 2, 63), (25, 2, 64), (33, 2, 65), (38, 2, 66), (41, 2, 67), (46, 2, 68), (11, 2, 69), (18, 2, 70), (55, 2, 71), (15, 3, 72), (16, 3, 73), (0, 2, 76)], [], [], [], [(15, 16, 74), (41, 25, 75)]⟩⟩
theorem a3D {a b c : List Int} {i : Nat} (h : i < a.length) : aF (a ++ b) i = aF (a ++ c) i := by
 unfold aF
 rw [apu, apu, apw h, apw h]
theorem kC {a b : List Int} {n j : Nat} (h : a.length = n) : aF (a ++ b) (n + j) = aF b j := by
 unfold aF
 rw [apu, apu, List.getElem?_append_right (by omega), show n + j - a.length = j by omega]
section
variable {w : World} {D : FnD}
theorem fQ {D : FnD} {q : At} {more : List Int} (j : Nat) : aF (aK D q more) (77 + j) = aF more j := by
 have e : aK D q more = (Aa D ++ (xsB D q ++ (xsS D q ++ (xsO D q ++ (xsT D q ++ xsC D q))))) ++ more := by simp [aK]
 rw [e]
 exact kC rfl
theorem bY (q : Prop) [Decidable q] : b2i (decide q) = 1 ↔ q := by
 by_cases h : q
 ·rw [decide_eq_true h]; exact ⟨fun _ => h, fun _ => rfl⟩
 ·rw [decide_eq_false h]; exact ⟨fun k => absurd k (by decide), fun k => absurd k h⟩
theorem aQ (D : FnD) (q : At) (more : List Int) : vT eU (aF (aK D q more)) := by
 refine ⟨fun _ _ _ h => (by cases h), fun i j d h => ?_, fun _ _ _ h => (by cases h), fun _ _ _ h => (by cases h), fun _ _ _ _ h => (by cases h), fun i j d h => ?_⟩
 ·simp only [eU, apF, apG, or_false, Prod.mk.injEq] at h
  rcases h with ⟨rfl, rfl, rfl⟩ | ⟨rfl, rfl, rfl⟩ | ⟨rfl, rfl, rfl⟩ | ⟨rfl, rfl, rfl⟩ | ⟨rfl, rfl, rfl⟩ | ⟨rfl, rfl, rfl⟩ | ⟨rfl, rfl, rfl⟩ | ⟨rfl, rfl, rfl⟩ | ⟨rfl, rfl, rfl⟩ | ⟨rfl, rfl, rfl⟩ | ⟨rfl, rfl, rfl⟩ | ⟨rfl, rfl, rfl⟩ | ⟨rfl, rfl, rfl⟩ | ⟨rfl, rfl, rfl⟩ | ⟨rfl, rfl, rfl⟩ | ⟨rfl, rfl, rfl⟩ <;> exact bY _
 ·simp only [eU, apF, apG, or_false, Prod.mk.injEq] at h
  rcases h with ⟨rfl, rfl, rfl⟩ | ⟨rfl, rfl, rfl⟩ <;> exact bY _
def InI (p : Int × Int) (m : Int) : Prop := p.1 <= m /\ m <= p.2
theorem gG {α β : Type} {R : α -> β -> Prop} : ∀ {a : List α} {b : List β} {c : List α} {d : List β}, ak R a b -> ak R c d -> ak R (a ++ c) (b ++ d)
 | [], [], _, _, _, h => h
 | _ :: _, _ :: _, _, _, h, k => ⟨h.1, gG h.2 k⟩
 | [], _ :: _, _, _, h, _ => h.elim
 | _ :: _, [], _, _, h, _ => h.elim
theorem sU (b : Bool) : InI ivB (b2i b) := by cases b <;> exact ⟨by decide, by decide⟩
theorem Uj {ks : List Kd} {l : List Value} (h : ak Kd.ok ks l \/ l = []) (hk : (ks.all fun k => decide (k.iv.1 <= 0) && decide (0 <= k.iv.2)) = true) {n : Nat} (hn : ks.length = n) : ak InI (ks.map Kd.iv) (qI n l) := by
 subst hn
 refine fZ (by simp [qI]) fun i p m hp hm => ?_
 rw [apB] at hp
 obtain ⟨k, hk1, rfl⟩ := Option.map_eq_some_iff.1 hp
 have hi := (apv.1 hk1).1
 unfold qI at hm
 rw [apB, apD hi] at hm
 cases hm
 rcases h with h | rfl
 ·have hl := h.len
  obtain ⟨v, hv⟩ : ∃ v, l[i]? = some v := ⟨_, apx (by omega)⟩
  obtain ⟨v', hv', ok⟩ := ak.nth h (n := i) (x := k) (by rw [aN]; exact hk1)
  have e : ah l i = bf v' := by unfold ah; rw [hv']
  rw [e]
  exact Kd.Iu ok
 ·have := apH.1 hk k (apy hk1)
  simp only [apA, decide_eq_true_eq] at this
  exact this
theorem O3 {α : Type} {l : List α} {i : Nat} {d : α} : l.getD i d ∈ l \/ l.getD i d = d := by
 rw [apu]
 cases h : l[i]? with
 | none => exact .inr rfl
 | some x => exact .inl (apy h)
theorem len_in {w : World} {v : Value} {sz : Nat} {els : List (List Value)} (h : cZ w v sz els) : InI ivN (els.length : Int) := ⟨by show (0 : Int) <= _; omega, h.most⟩
structure Fits (D : FnD) (q : At) : Prop where
 i : (q.i : Int) < 9223372036854775807
 k : (q.k : Int) < 9223372036854775807
 m : (q.m : Int) < 9223372036854775807
 t : (q.t : Int) < 9223372036854775807
theorem af8 {ks : List Kd} {l : List Value} (h : ak Kd.ok ks l \/ l = []) (hk : (ks.all fun k => decide (k.iv.1 <= 0) && decide (0 <= k.iv.2)) = true) {z k n : Nat} (hz : ks.length = z) (hkn : (k : Int) < 9223372036854775807) : ak InI (ivE ks) (MK z l k n) :=
 ⟨⟨by show (0 : Int) <= _; omega, by show _ <= (9223372036854775807 : Int); omega⟩, ⟨by show (0 : Int) <= _; omega, by show _ <= (9223372036854775807 : Int); omega⟩, sU _, Uj h hk hz⟩
theorem GK {v : Value} (h : aV w v D) (i : Nat) : jY w (D.blk i) \/ D.blk i = b0 := by
 rcases O3 (l := D.bs) (i := i) (d := b0) with k | k
 ·exact .inl (h.blk _ k)
 ·exact .inr k
theorem alJ {v : Value} (h : aV w v D) (i k : Nat) : ak Kd.ok vW (D.stm i k) \/ D.stm i k = [] := by
 rcases O3 (l := (D.blk i).st) (i := k) (d := []) with hm | hm
 ·rcases GK h i with e | e
  ·exact .inl (e.skd _ hm)
  ·rw [e] at hm; cases hm
 ·exact .inr hm
theorem ama {v : Value} (h : aV w v D) (i m : Nat) : ak Kd.ok opK (D.opd i m) \/ D.opd i m = [] := by
 rcases O3 (l := (D.blk i).ops) (i := m) (d := []) with hm | hm
 ·rcases GK h i with e | e
  ·exact .inl (e.okd _ hm)
  ·rw [e] at hm; cases hm
 ·exact .inr hm
theorem amj {v : Value} (h : aV w v D) (t : Nat) : ak Kd.ok [.i .u8, .i .u8] (D.typ t) \/ D.typ t = [] := by
 rcases O3 (l := D.ls) (i := t) (d := []) with hm | hm
 ·exact .inl (h.lkd _ hm)
 ·exact .inr hm
theorem aiq {v : Value} (h : aV w v D) {q : At} (hq : Fits D q) : ak InI fJ (Aa D ++ (xsB D q ++ (xsS D q ++ (xsO D q ++ (xsT D q ++ xsC D q))))) := by
 have nS : InI ivN ((D.blk q.i).st.length : Int) := by
  rcases GK h q.i with e | e
  ·exact len_in e.sts
  ·rw [e]; exact ⟨by decide, by decide⟩
 have nA : InI ivN ((D.blk q.i).ops.length : Int) := by
  rcases GK h q.i with e | e
  ·exact len_in e.opl
  ·rw [e]; exact ⟨by decide, by decide⟩
 have pre : ak Kd.ok oK (D.blk q.i).pre \/ (D.blk q.i).pre = [] := (GK h q.i).imp (fun e => e.EU) fun e => by rw [e]; rfl
 have post : ak Kd.ok kW (D.blk q.i).post \/ (D.blk q.i).post = [] := (GK h q.i).imp (fun e => e.yu) fun e => by rw [e]; rfl
 refine gG ?_ (gG ?_ (gG ?_ (gG ?_ (gG ?_ ?_))))
 ·obtain ⟨n, e, h1, h2⟩ := h.pk
  cases e
  exact ⟨⟨h1, h2⟩, sU _, len_in h.locals, by have := len_in h.blocks; rwa [apE] at this, trivial⟩
 ·refine gG (a := [ivN, ivN, ivB, ivN]) ⟨⟨by show (0 : Int) <= _; omega, by have := hq.i; show _ <= (9223372036854775807 : Int); omega⟩, ⟨by show (0 : Int) <= _; omega, by have := hq.i; show _ <= (9223372036854775807 : Int); omega⟩, sU _, nS, trivial⟩ ?_
  exact gG (Uj pre (by decide) rfl) ⟨nA, Uj post (by decide) rfl⟩
 ·exact af8 (alJ h _ _) (by decide) rfl hq.k
 ·exact af8 (ama h _ _) (by decide) rfl hq.m
 ·exact af8 (amj h _) (by decide) rfl hq.t
 ·exact ⟨sU _, sU _, sU _, sU _, sU _, sU _, sU _, sU _, sU _, sU _, sU _, sU _, sU _, sU _, trivial⟩
theorem lG {v : Value} (h : aV w v D) {q : At} (hq : Fits D q) {iv : List (Int × Int)} {m1 m2 : List Int} (hm : ak InI iv m1) (sig : Nat -> List UInt8) : (Lf.of (fJ ++ iv)).Holds (aF (aK D q (m1 ++ m2))) sig := by
 have hall := gG (aiq h hq) hm
 refine Lf.adx fun i p hp => ?_
 obtain ⟨x, hx, hi⟩ := ak.nth hall (n := i) (x := p) (by rw [aN]; exact hp)
 have e : aK D q (m1 ++ m2) = ((Aa D ++ (xsB D q ++ (xsS D q ++ (xsO D q ++ (xsT D q ++ xsC D q))))) ++ m1) ++ m2 := by simp [aK]
 have : aF (aK D q (m1 ++ m2)) i = x := by
  rw [e]
  unfold aF
  rw [apu, apw (apv.1 hx).1, hx]
  rfl
 rw [this]
 exact hi
noncomputable def Lf.pin (L : Lf) (i : Nat) (c : Int) : Lf := (L.hi i c).lo i c
theorem Lf.Holds.pin {L : Lf} {rho : Nat -> Int} {sig : Nat -> List UInt8} (h : L.Holds rho sig) {i : Nat} {c : Int} (e : rho i = c) : (L.pin i c).Holds rho sig := (h.hi (i := i) (c := c) (by omega)).lo (i := i) (c := c) (by omega)
theorem bQ (q q' : At) (more more' : List Int) : Agree (fnB w D q more) (fnB w D q' more') ⟨4, 0, 3⟩ :=
 ⟨rfl, rfl, fun i h => a3D (a := Aa D) h, fun _ _ => rfl, fun l h => by
  have : l = 0 \/ l = 1 \/ l = 2 := by have h : l < 3 := h; omega
  rcases this with rfl | rfl | rfl <;> rfl⟩
theorem bJ (q q' : At) (h : q.i = q'.i) (more more' : List Int) : Agree (fnB w D q more) (fnB w D q' more') ⟨21, 0, 5⟩ :=
 ⟨rfl, rfl, fun i hi => by
  show aF (aK D q more) i = aF (aK D q' more') i
  have e : ∀ (q : At) (more : List Int), aK D q more = (Aa D ++ xsB D q) ++ (xsS D q ++ (xsO D q ++ (xsT D q ++ (xsC D q ++ more)))) := fun q more => by simp [aK]
  have e2 : xsB D q = xsB D q' := by unfold xsB; rw [h]
  rw [e, e, <- e2]
  exact a3D hi, fun _ _ => rfl, fun l hl => by
  show (aiE D q).getD l _ = (aiE D q').getD l _
  unfold aiE
  rw [h]⟩
def bT : List S := [.xi .i64 0, .xe [(1, 1)], .rv 0, .rv 1]
def lJ : List S := .rv 3 :: (bV 8 oK ++ .rv 4 :: bV 18 kW)
def ni : List S := bV 8 oK ++ .rv 4 :: bV 18 kW
def lM : List S := bV 24 vW
def MC : List S := bV 53 opK
def Ez : List S := bV 61 [.i .u8, .i .u8]
theorem ako [Base] {r : Ren} {k : Kd} (hk : k ≠ .s) {v : Value} (h : k.ok v) {i : Nat} (e : Base.rho i = bf v) : VS r (cellT i k) v := by
 cases k with
 | s => exact absurd rfl hk
 | b =>
  obtain ⟨b, rfl⟩ := h
  show Value.bool b = .bool ((decide (Base.rho i = 1)) || false)
  rw [e, Bool.or_false]
  cases b <;> rfl
 | i k =>
  obtain ⟨n, rfl, _⟩ := h
  show Value.int k n = .int k (Base.rho i)
  rw [e]
  rfl
theorem Ye [Base] {r : Ren} : ∀ {ks : List Kd} {vs : List Value} {o : Nat}, (ks.all fun k => match k with | .s => false | _ => true) = true -> ak Kd.ok ks vs -> (∀ j v, vs[j]? = some v -> Base.rho (o + j) = bf v) -> ak (VS r) (bV o ks) vs
 | [], [], _, _, _, _ => trivial
 | k :: ks, v :: vs, o, hs, h, hr => by
  simp only [List.all_cons, apA] at hs
  refine ⟨ako (fun e => by rw [e] at hs; cases hs.1) h.1 (hr 0 v rfl), Ye hs.2 h.2 fun j u hu => ?_⟩
  rw [show o + 1 + j = o + (j + 1) by omega]
  exact hr (j + 1) u hu
 | [], _ :: _, _, _, h, _ => h.elim
 | _ :: _, [], _, _, h, _ => h.elim
theorem EN {n j : Nat} {l : List Value} {v : Value} (h : j < n) (hv : l[j]? = some v) (rest : List Int) : aF (qI n l ++ rest) j = bf v := by
 unfold aF qI
 rw [apu, apw (by simpa using h), apB, apD h]
 show ah l j = _
 unfold ah
 rw [hv]
theorem ajw (q : At) (more : List Int) {j : Nat} {v : Value} (h : (D.blk q.i).pre[j]? = some v) (hj : j < 9) : aF (aK D q more) (8 + j) = bf v := by
 have e : aK D q more = (Aa D ++ [(q.i : Int), (q.i : Int) + 1, mZ q.i D.bs.length, (D.blk q.i).st.length]) ++ (qI 9 (D.blk q.i).pre ++ ((((D.blk q.i).ops.length : Int) :: qI 3 (D.blk q.i).post) ++ (xsS D q ++ (xsO D q ++ (xsT D q ++ (xsC D q ++ more)))))) := by simp [aK, xsB, a2f]
 rw [e]
 refine (kC (n := 8) rfl).trans ?_
 exact EN hj h _
theorem aaE (q : At) (more : List Int) {j : Nat} {v : Value} (h : (D.blk q.i).post[j]? = some v) (hj : j < 3) : aF (aK D q more) (18 + j) = bf v := by
 have e : aK D q more = (Aa D ++ ([(q.i : Int), (q.i : Int) + 1, mZ q.i D.bs.length, (D.blk q.i).st.length] ++ (qI 9 (D.blk q.i).pre ++ [((D.blk q.i).ops.length : Int)]))) ++ (qI 3 (D.blk q.i).post ++ (xsS D q ++ (xsO D q ++ (xsT D q ++ (xsC D q ++ more))))) := by simp [aK, xsB, a2f]
 rw [e]
 refine (kC (n := 18) rfl).trans ?_
 exact EN hj h _
theorem aiI (q : At) (more : List Int) {j : Nat} {v : Value} (h : (D.stm q.i q.k)[j]? = some v) (hj : j < 26) : aF (aK D q more) (24 + j) = bf v := by
 have e : aK D q more = (Aa D ++ (xsB D q ++ [(q.k : Int), (q.k : Int) + 1, mZ q.k (D.blk q.i).st.length])) ++ (qI 26 (D.stm q.i q.k) ++ (xsO D q ++ (xsT D q ++ (xsC D q ++ more)))) := by simp [aK, xsS, MK]
 rw [e]
 refine (kC (n := 24) rfl).trans ?_
 exact EN hj h _
theorem aj6 (q : At) (more : List Int) {j : Nat} {v : Value} (h : (D.opd q.i q.m)[j]? = some v) (hj : j < 5) : aF (aK D q more) (53 + j) = bf v := by
 have e : aK D q more = (Aa D ++ (xsB D q ++ (xsS D q ++ [(q.m : Int), (q.m : Int) + 1, mZ q.m (D.blk q.i).ops.length]))) ++ (qI 5 (D.opd q.i q.m) ++ (xsT D q ++ (xsC D q ++ more))) := by simp [aK, xsO, MK]
 rw [e]
 refine (kC (n := 53) rfl).trans ?_
 exact EN hj h _
theorem ajf (q : At) (more : List Int) {j : Nat} {v : Value} (h : (D.typ q.t)[j]? = some v) (hj : j < 2) : aF (aK D q more) (61 + j) = bf v := by
 have e : aK D q more = (Aa D ++ (xsB D q ++ (xsS D q ++ (xsO D q ++ [(q.t : Int), (q.t : Int) + 1, mZ q.t D.ls.length])))) ++ (qI 2 (D.typ q.t) ++ (xsC D q ++ more)) := by simp [aK, xsT, MK]
 rw [e]
 refine (kC (n := 61) rfl).trans ?_
 exact EN hj h _
def E.ren (f : Nat -> Nat) : E -> E
 | .lt i c => .lt (f i) c
 | .zero l => .zero (l.map fun p => (f p.1, p.2))
 | .and a b => .and (a.ren f) (b.ren f)
 | .or a b => .or (a.ren f) (b.ren f)
 | .not a => .not (a.ren f)
def E.bd (n : Nat) : E -> Bool
 | .lt i c => Nat.blt i n
 | .zero l => l.all fun p => Nat.blt p.1 n
 | .and a b => a.bd n && b.bd n
 | .or a b => a.bd n && b.bd n
 | .not a => a.bd n
theorem E.jM {f : Nat -> Nat} {rho rho' : Nat -> Int} {n : Nat} : ∀ {e : E}, e.bd n = true -> (∀ i, i < n -> rho (f i) = rho' i) -> (e.ren f).num rho = e.num rho'
 | .lt i c, h, k => by
  have h : Nat.blt i n = true := h
  show decide (rho (f i) < c) = decide (rho' i < c)
  rw [k i (by rwa [Nat.blt_eq] at h)]
 | .zero l, h, k => by
  have h : (l.all fun p => Nat.blt p.1 n) = true := h
  show ((l.map fun p => (f p.1, p.2)).all fun p => decide (rho p.1 = p.2)) = l.all fun p => decide (rho' p.1 = p.2)
  rw [List.all_map]
  refine DJ fun p hp => ?_
  have := apH.1 h p hp
  show decide (rho (f p.1) = p.2) = _
  rw [k p.1 (by rwa [Nat.blt_eq] at this)]
 | .and a b, h, k => by
  have h : (a.bd n && b.bd n) = true := h
  rw [apA] at h
  show ((a.ren f).num rho && (b.ren f).num rho) = (a.num rho' && b.num rho')
  rw [E.jM h.1 k, E.jM h.2 k]
 | .or a b, h, k => by
  have h : (a.bd n && b.bd n) = true := h
  rw [apA] at h
  show ((a.ren f).num rho || (b.ren f).num rho) = (a.num rho' || b.num rho')
  rw [E.jM h.1 k, E.jM h.2 k]
 | .not a, h, k => by
  show (!(a.ren f).num rho) = !(a.num rho')
  rw [E.jM (e := a) h k]
theorem E.iR (vs : List Value) : ∀ e : E, e.val vs = e.num (ah vs)
 | .lt i c => rfl
 | .zero l => rfl
 | .and a b => by show (a.val vs && b.val vs) = (a.num _ && b.num _); rw [E.iR vs a, E.iR vs b]
 | .or a b => by show (a.val vs || b.val vs) = (a.num _ || b.num _); rw [E.iR vs a, E.iR vs b]
 | .not a => by show (!a.val vs) = !(a.num _); rw [E.iR vs a]
theorem yO {n j : Nat} {l : List Value} (h : j < n) (rest : List Int) : aF (qI n l ++ rest) j = ah l j := by
 unfold aF qI
 rw [apu, apw (by simpa using h), apB, apD h]
 rfl
theorem zL (q : At) (more : List Int) {e : E} (h : e.bd 26 = true) : (e.ren (24 + ·)).num (aF (aK D q more)) = e.num (ah (D.stm q.i q.k)) := by
 refine E.jM h fun j hj => ?_
 have e : aK D q more = (Aa D ++ (xsB D q ++ [(q.k : Int), (q.k : Int) + 1, mZ q.k (D.blk q.i).st.length])) ++ (qI 26 (D.stm q.i q.k) ++ (xsO D q ++ (xsT D q ++ (xsC D q ++ more)))) := by simp [aK, xsS, MK]
 rw [e]
 exact (kC (n := 24) rfl).trans (yO hj _)
theorem a2q (q : At) (more : List Int) {e : E} (h : e.bd 5 = true) : (e.ren (53 + ·)).num (aF (aK D q more)) = e.num (ah (D.opd q.i q.m)) := by
 refine E.jM h fun j hj => ?_
 have e : aK D q more = (Aa D ++ (xsB D q ++ (xsS D q ++ [(q.m : Int), (q.m : Int) + 1, mZ q.m (D.blk q.i).ops.length]))) ++ (qI 5 (D.opd q.i q.m) ++ (xsT D q ++ (xsC D q ++ more))) := by simp [aK, xsO, MK]
 rw [e]
 exact (kC (n := 53) rfl).trans (yO hj _)
theorem JB (q : At) (more : List Int) {e : E} (h : e.bd 2 = true) : (e.ren (61 + ·)).num (aF (aK D q more)) = e.num (ah (D.typ q.t)) := by
 refine E.jM h fun j hj => ?_
 have e : aK D q more = (Aa D ++ (xsB D q ++ (xsS D q ++ (xsO D q ++ [(q.t : Int), (q.t : Int) + 1, mZ q.t D.ls.length])))) ++ (qI 2 (D.typ q.t) ++ (xsC D q ++ more)) := by simp [aK, xsT, MK]
 rw [e]
 exact (kC (n := 61) rfl).trans (yO hj _)
def Tabs.app (a b : Tabs) : Tabs := ⟨a.len ++ b.len, a.el ++ b.el, a.add ++ b.add⟩
theorem a4m (a b : List (Nat × Nat)) (k : Nat) : Tabs.lenOf ⟨a ++ b, [], []⟩ k = (Tabs.lenOf ⟨a, [], []⟩ k).or (Tabs.lenOf ⟨b, [], []⟩ k) := by
 induction a with
 | nil => rfl
 | cons p a ih =>
  show (bif apz p.1 k then some p.2 else Tabs.lenOf ⟨a ++ b, [], []⟩ k) = (bif apz p.1 k then some p.2 else Tabs.lenOf ⟨a, [], []⟩ k).or _
  cases apz p.1 k
  ·exact ih
  ·rfl
theorem a8H (a b : List (Nat × N × List S)) (k : Nat) (i : N) : Tabs.Ei ⟨[], a ++ b, []⟩ k i = (Tabs.Ei ⟨[], a, []⟩ k i).or (Tabs.Ei ⟨[], b, []⟩ k i) := by
 induction a with
 | nil => rfl
 | cons p a ih =>
  show (bif apz p.1 k && p.2.1.eqv i then some p.2.2 else Tabs.Ei ⟨[], a ++ b, []⟩ k i) = (bif apz p.1 k && p.2.1.eqv i then some p.2.2 else Tabs.Ei ⟨[], a, []⟩ k i).or _
  cases (apz p.1 k && p.2.1.eqv i)
  ·exact ih
  ·rfl
theorem a5F (a b : List (Nat × Int × Nat)) (i : Nat) (c : Int) : Tabs.Jh ⟨[], [], a ++ b⟩ i c = (Tabs.Jh ⟨[], [], a⟩ i c).or (Tabs.Jh ⟨[], [], b⟩ i c) := by
 induction a with
 | nil => rfl
 | cons p a ih =>
  show (bif apz p.1 i && decide (p.2.1 = c) then some p.2.2 else Tabs.Jh ⟨[], [], a ++ b⟩ i c) = (bif apz p.1 i && decide (p.2.1 = c) then some p.2.2 else Tabs.Jh ⟨[], [], a⟩ i c).or _
  cases (apz p.1 i && decide (p.2.1 = c))
  ·exact ih
  ·rfl
theorem or_some {α : Type} {x y : Option α} {z : α} (h : x.or y = some z) : x = some z \/ y = some z := by cases x <;> simp_all
theorem aW [Base] {a b : Tabs} (ha : bg a) (hb : bg b) : bg (a.app b) := by
 refine ⟨fun k j h => ?_, fun k i cs h => ?_, fun i c j h => ?_⟩
 ·rcases or_some ((a4m a.len b.len k).symm.trans h) with h | h
  ·exact ha.len k j h
  ·exact hb.len k j h
 ·rcases or_some ((a8H a.el b.el k i).symm.trans h) with h | h
  ·exact ha.el k i cs h
  ·exact hb.el k i cs h
 ·rcases or_some ((a5F a.add b.add i c).symm.trans h) with h | h
  ·exact ha.add i c j h
  ·exact hb.add i c j h
theorem JC {b : Base} {k j n : Nat} {A : Option Addr} {c : Nat} (h : (b.lst k).v = .slice A n c) (hr : b.rho j = n) : @bg b ⟨[(k, j)], [], []⟩ := by
 refine @bg.mk b _ (fun l i hh => ?_) (fun _ _ _ h => (by cases h)) (fun _ _ _ h => (by cases h))
 have hh : (bif apz k l then some j else none) = some i := hh
 cases hb : apz k l <;> rw [hb] at hh <;> cases hh
 rw [<- apC hb]
 exact ⟨A, n, c, h, hr⟩
theorem JQ {b : Base} {i j : Nat} (h : b.rho j = b.rho i + 1) (h1 : -9223372036854775808 <= b.rho j) (h2 : b.rho j <= 9223372036854775807) : @bg b ⟨[], [], [(i, 1, j)]⟩ := by
 refine @bg.mk b _ (fun _ _ h => (by cases h)) (fun _ _ _ h => (by cases h)) (fun l c m hh => ?_)
 have hh : (bif apz i l && decide (1 = c) then some j else none) = some m := hh
 cases hb : (apz i l && decide (1 = c)) <;> rw [hb] at hh <;> cases hh
 simp only [apA, decide_eq_true_eq] at hb
 rw [<- apC hb.1, <- hb.2]
 exact ⟨h, h1, h2⟩
theorem UD {e : Env} {v : Value} {sz k i n : Nat} {els : List (List Value)} {el : List Value} {cs : List S} (h : cZ e.w v sz els) (hl : e.b.lst k = ⟨v, els⟩) (hr : e.b.rho i = n) (he : els[n]? = some el) (hs : cs.length = sz) (hc : ak (fun x v => ∀ r, @VS e.b r x v) cs el) :
  @bg e.b ⟨[], [(k, .x i, cs)], []⟩ := by
 refine @bg.mk e.b _ (fun _ _ h => (by cases h)) (fun l m ds hh => ?_) (fun _ _ _ h => (by cases h))
 have hh : (bif apz k l && (N.x i).eqv m then some cs else none) = some ds := hh
 cases hb : (apz k l && (N.x i).eqv m) <;> rw [hb] at hh <;> cases hh
 simp only [apA] at hb
 rw [<- apC hb.1, <- N.vJ hb.2]
 exact h.el (b := e.b) (i := .x i) rfl rfl hl (n := n) hr he hs hc
def bW : Tabs := ⟨[(0, 2), (1, 3)], [], []⟩
def iQ : Tabs := ⟨[(3, 7), (4, 17)], [(1, .x 4, lJ)], [(4, 1, 5)]⟩
def a6G : Tabs := ⟨[], [(3, .x 21, lM)], [(21, 1, 22)]⟩
def ahq : Tabs := ⟨[], [(4, .x 50, MC)], [(50, 1, 51)]⟩
def Ub : Tabs := ⟨[], [(0, .x 58, Ez)], [(58, 1, 59)]⟩
variable {v : Value} (h : aV w v D)
include h
theorem aT (q : At) (more : List Int) : @bg (fnB w D q more) bW := by
 obtain ⟨A, c, e⟩ := h.locals.sl
 obtain ⟨A', c', e'⟩ := h.blocks.sl
 rw [apE] at e'
 exact @aW (fnB w D q more) ⟨[(0, 2)], [], []⟩ ⟨[(1, 3)], [], []⟩ (JC (n := D.ls.length) e rfl) (JC (n := D.bs.length) e' rfl)
theorem xI {ks : List Kd} {vs : List Value} {o : Nat} {b : Base} (hs : (ks.all fun k => match k with | .s => false | _ => true) = true) (hk : ak Kd.ok ks vs) (hr : ∀ j v, vs[j]? = some v -> b.rho (o + j) = bf v) : ak (fun x v => ∀ r, @VS b r x v) (bV o ks) vs := by
 have h1 := fun r => @Ye b r ks vs o hs hk hr
 refine fZ (h1 r0).len fun i x v hx hv r => ?_
 obtain ⟨v', hv', ok⟩ := ak.nth (h1 r) (n := i) (x := x) (by rw [aN]; exact hx)
 rw [hv] at hv'
 cases hv'
 exact ok
theorem xK (q : At) (more : List Int) (r : Ren) : @VA (fnB w D q more) r (.g bT) v := by
 obtain ⟨A, c, e⟩ := h.locals.sl
 obtain ⟨A', c', e'⟩ := h.blocks.sl
 refine ⟨[.int .i64 D.p, .bool D.u, D.lv, D.bv], by rw [h.eq], rfl, ?_, ⟨_, _, _, e, e⟩, ⟨_, _, _, e', e'⟩, trivial⟩
 show Value.bool D.u = .bool (decide (b2i D.u = 1) || false)
 cases D.u <;> rfl
theorem yA {i : Nat} (hi : i < D.bs.length) : jY w (D.blk i) /\ (D.bs.map bK.cells)[i]? = some (D.blk i).cells := by
 have e : D.bs[i]? = some (D.blk i) := by
  unfold FnD.blk
  rw [apu, apx hi]
  rfl
 refine ⟨h.blk _ (apy e), ?_⟩
 rw [apB, e]
 rfl
theorem GZ {i : Nat} (hi : i < D.bs.length) (q : At) (hq : q.i = i) (more : List Int) : ak (fun x v => ∀ r, @VS (fnB w D q more) r x v) ni ((D.blk i).pre ++ (D.blk i).a :: (D.blk i).post) := by
 subst hq
 obtain ⟨b, _⟩ := yA h hi
 obtain ⟨A, c, e⟩ := b.opl.sl
 have h1 : ak (fun x v => ∀ r, @VS (fnB w D q more) r x v) (bV 8 oK) (D.blk q.i).pre := xI h rfl b.EU fun j v hv => ajw q more hv (by have := (apv.1 hv).1; have := b.EU.len; have : oK.length = 9 := rfl; omega)
 have h2 : ak (fun x v => ∀ r, @VS (fnB w D q more) r x v) (bV 18 kW) (D.blk q.i).post := xI h rfl b.yu fun j v hv => aaE q more hv (by have := (apv.1 hv).1; have := b.yu.len; have : kW.length = 3 := rfl; omega)
 exact gG h1 ⟨fun r => ⟨A, _, c, e, e⟩, h2⟩
theorem Rq {i : Nat} (hi : i < D.bs.length) (q : At) (hq : q.i = i) (more : List Int) : ak (fun x v => ∀ r, @VS (fnB w D q more) r x v) lJ (D.blk i).cells := by
 have h3 := GZ h hi q hq more
 subst hq
 obtain ⟨b, _⟩ := yA h hi
 obtain ⟨A, c, e⟩ := b.sts.sl
 exact ⟨fun r => ⟨A, _, c, e, e⟩, h3⟩
theorem dM {q : At} (hi : q.i < D.bs.length) (more : List Int) : @bg (fnB w D q more) iQ := by
 obtain ⟨b, hb⟩ := yA h hi
 obtain ⟨A, c, e⟩ := b.sts.sl
 obtain ⟨A', c', e'⟩ := b.opl.sl
 have hlen : (D.bs.length : Int) <= 9223372036854775807 := by have := h.blocks.most; rwa [apE] at this
 have t1 : @bg (fnB w D q more) ⟨[(3, 7)], [], []⟩ := JC (n := (D.blk q.i).st.length) e rfl
 have t2 : @bg (fnB w D q more) ⟨[(4, 17)], [], []⟩ := JC (n := (D.blk q.i).ops.length) e' rfl
 have t3 : @bg (fnB w D q more) ⟨[], [(1, .x 4, lJ)], []⟩ := UD (e := fnE w D q more) h.blocks rfl (n := q.i) rfl hb rfl (Rq h hi q rfl more)
 have t4 : @bg (fnB w D q more) ⟨[], [], [(4, 1, 5)]⟩ := JQ rfl (show (-9223372036854775808 : Int) <= (q.i : Int) + 1 by omega) (show (q.i : Int) + 1 <= 9223372036854775807 by omega)
 exact @aW (fnB w D q more) ⟨[(3, 7), (4, 17)], [(1, .x 4, lJ)], []⟩ _ (@aW (fnB w D q more) ⟨[(3, 7), (4, 17)], [], []⟩ _ (@aW (fnB w D q more) _ _ t1 t2) t3) t4
theorem Dk {i k : Nat} (hi : i < D.bs.length) (hk : k < (D.blk i).st.length) : ak Kd.ok vW (D.stm i k) /\ (D.blk i).st[k]? = some (D.stm i k) := by
 have e : (D.blk i).st[k]? = some (D.stm i k) := by
  unfold FnD.stm
  rw [apu, apx hk]
  rfl
 exact ⟨(yA h hi).1.skd _ (apy e), e⟩
theorem PD {i m : Nat} (hi : i < D.bs.length) (hm : m < (D.blk i).ops.length) : ak Kd.ok opK (D.opd i m) /\ (D.blk i).ops[m]? = some (D.opd i m) := by
 have e : (D.blk i).ops[m]? = some (D.opd i m) := by
  unfold FnD.opd
  rw [apu, apx hm]
  rfl
 exact ⟨(yA h hi).1.okd _ (apy e), e⟩
theorem a0w {t : Nat} (ht : t < D.ls.length) : ak Kd.ok [.i .u8, .i .u8] (D.typ t) /\ D.ls[t]? = some (D.typ t) := by
 have e : D.ls[t]? = some (D.typ t) := by
  unfold FnD.typ
  rw [apu, apx ht]
  rfl
 exact ⟨h.lkd _ (apy e), e⟩
theorem FY {q : At} (hi : q.i < D.bs.length) (hk : q.k < (D.blk q.i).st.length) (more : List Int) : ak (fun x v => ∀ r, @VS (fnB w D q more) r x v) lM (D.stm q.i q.k) := by
 obtain ⟨ok, _⟩ := Dk h hi hk
 exact xI h rfl ok fun j v hv => aiI q more hv (by have := (apv.1 hv).1; have := ok.len; have : vW.length = 26 := rfl; omega)
theorem a5p {q : At} (hi : q.i < D.bs.length) (hm : q.m < (D.blk q.i).ops.length) (more : List Int) : ak (fun x v => ∀ r, @VS (fnB w D q more) r x v) MC (D.opd q.i q.m) := by
 obtain ⟨ok, _⟩ := PD h hi hm
 exact xI h rfl ok fun j v hv => aj6 q more hv (by have := (apv.1 hv).1; have := ok.len; have : opK.length = 5 := rfl; omega)
theorem S9 {q : At} (ht : q.t < D.ls.length) (more : List Int) : ak (fun x v => ∀ r, @VS (fnB w D q more) r x v) Ez (D.typ q.t) := by
 obtain ⟨ok, _⟩ := a0w h ht
 exact xI h rfl ok fun j v hv => ajf q more hv (by have := (apv.1 hv).1; have h2 := ok.len; simp only [List.length_cons, List.length_nil] at h2; omega)
theorem DZ {q : At} (hi : q.i < D.bs.length) (hk : q.k < (D.blk q.i).st.length) (more : List Int) : @bg (fnB w D q more) a6G := by
 have b := (yA h hi).1
 have hl := b.sts.most
 exact @aW (fnB w D q more) ⟨[], [(3, .x 21, lM)], []⟩ _ (UD (e := fnE w D q more) b.sts rfl (n := q.k) rfl (Dk h hi hk).2 rfl (FY h hi hk more))
  (JQ (i := 21) (j := 22) rfl (show (-9223372036854775808 : Int) <= (q.k : Int) + 1 by omega) (show (q.k : Int) + 1 <= 9223372036854775807 by omega))
theorem Jv {q : At} (hi : q.i < D.bs.length) (hm : q.m < (D.blk q.i).ops.length) (more : List Int) : @bg (fnB w D q more) ahq := by
 have b := (yA h hi).1
 have hl := b.opl.most
 exact @aW (fnB w D q more) ⟨[], [(4, .x 50, MC)], []⟩ _ (UD (e := fnE w D q more) b.opl rfl (n := q.m) rfl (PD h hi hm).2 rfl (a5p h hi hm more))
  (JQ (i := 50) (j := 51) rfl (show (-9223372036854775808 : Int) <= (q.m : Int) + 1 by omega) (show (q.m : Int) + 1 <= 9223372036854775807 by omega))
theorem a2D {q : At} (ht : q.t < D.ls.length) (more : List Int) : @bg (fnB w D q more) Ub := by
 have hl := h.locals.most
 exact @aW (fnB w D q more) ⟨[], [(0, .x 58, Ez)], []⟩ _ (UD (e := fnE w D q more) h.locals rfl (n := q.t) rfl (a0w h ht).2 rfl (S9 h ht more))
  (JQ (i := 58) (j := 59) rfl (show (-9223372036854775808 : Int) <= (q.t : Int) + 1 by omega) (show (q.t : Int) + 1 <= 9223372036854775807 by omega))
end
end Am
end Go.Proofs.YtglmonlofejcgaaGreatDoor
