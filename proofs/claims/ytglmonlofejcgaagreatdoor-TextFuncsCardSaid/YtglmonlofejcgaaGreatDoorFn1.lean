/- A function among the arguments: its data, numbers and lists behind a call with it, and the tables of its elements. (No program in sight.) -/
import Derived.Test.YtglmonlofejcgaaGreatDoorFn0
import Derived.Test.YtglmonlofejcgaaGreatDoorFuncIs
set_option linter.unusedVariables false
set_option linter.unusedSectionVars false
set_option maxRecDepth 100000
namespace Go.Proofs.YtglmonlofejcgaaGreatDoor.Am
open Go.RowKit Go.Deep
abbrev Dj : List Kd := .i .u8 :: ([.i .i64, .b, .i .u8] ++ ((.i .u8 :: .i .u8 :: .i .u8 :: ([.i .u8, .i .i64, .i .i64, .b, .i .u8] ++ ([.i .u8, .i .i64, .i .i64, .b, .i .u8] ++ [.i .i64, .b, .i .u8]))) ++ ([.i .u8, .i .i64, .i .i64, .b, .i .u8] ++ [.i .i64])))
structure bH where
 s : Value
 pre : List Value
 a : Value
 post : List Value
 st : List (List Value)
 ops : List (List Value)
def bH.cells (b : bH) : List Value := b.s :: (b.pre ++ b.a :: b.post)
structure FnD where
 p : Int
 u : Bool
 lv : Value
 bv : Value
 ls : List (List Value)
 bs : List bH
 xl : ai2
structure lq (w : World) (b : bH) : Prop where
 sts : bV w b.s 26 b.st
 skd : ∀ st ∈ b.st, ak Kd.ok Dj st
 BO : ak Kd.ok oM b.pre
 opl : bV w b.a 5 b.ops
 okd : ∀ o ∈ b.ops, ak Kd.ok opK o
 uX : ak Kd.ok kT b.post
structure aT (w : World) (v : Value) (D : FnD) : Prop where
 eq : v = .agg #[.int .i64 D.p, .bool D.u, D.lv, D.bv]
 pk : Kd.ok (.i .i64) (.int .i64 D.p)
 locals : bV w D.lv 2 D.ls
 lkd : ∀ t ∈ D.ls, ak Kd.ok [.i .u8, .i .u8] t
 blocks : bV w D.bv 14 (D.bs.map bH.cells)
 blk : ∀ b ∈ D.bs, lq w b
theorem a1J {w : World} : ∀ {bs : List (List Value)}, (∀ b ∈ bs, ∃ s pre a post stmts ops, a9Z w Dj b s pre a post stmts ops) -> ∃ l : List bH, bs = l.map bH.cells /\ ∀ b ∈ l, lq w b
 | [], _ => ⟨[], rfl, fun _ h => by cases h⟩
 | b :: bs, h => by
  obtain ⟨s, pre, a, post, stmts, ops, k⟩ := h b (by simp)
  obtain ⟨l, e, hl⟩ := a1J (bs := bs) fun x hx => h x (List.mem_cons_of_mem _ hx)
  refine ⟨⟨s, pre, a, post, stmts, ops⟩ :: l, by rw [e, List.map_cons, bH.cells, k.eq], fun x hx => ?_⟩
  rcases List.mem_cons.1 hx with rfl | hx
  ·exact ⟨k.sts, k.skd, k.BO, k.opl, k.okd, k.uX⟩
  ·exact hl x hx
theorem aT.of {w : World} {v : Value} {p : Int} {u : Bool} {lv bv : Value} {ls bs : List (List Value)} (h : abO w Dj v p u lv bv ls bs) : ∃ D, aT w v D := by
 obtain ⟨l, e, hl⟩ := a1J h.blk
 exact ⟨⟨p, u, lv, bv, ls, l, ⟨.slice none 0 0, []⟩⟩, h.eq, h.pk, h.locals, h.lkd, e ▸ h.blocks, hl⟩
theorem aT.frz {w w' : World} {v : Value} {D : FnD} (h : aT w v D) (hw : ∀ k, k < w.heap.size -> w'.heap[k]? = w.heap[k]?) : aT w' v D :=
 ⟨h.eq, h.pk, h.locals.frz hw, h.lkd, h.blocks.frz hw, fun b hb => ⟨(h.blk b hb).sts.frz hw, (h.blk b hb).skd, (h.blk b hb).BO, (h.blk b hb).opl.frz hw, (h.blk b hb).okd, (h.blk b hb).uX⟩⟩
def b0 : bH := ⟨.slice none 0 0, [], .slice none 0 0, [], [], []⟩
def FnD.blk (D : FnD) (i : Nat) : bH := D.bs.getD i b0
def FnD.stm (D : FnD) (i k : Nat) : List Value := (D.blk i).st.getD k []
def FnD.opd (D : FnD) (i m : Nat) : List Value := (D.blk i).ops.getD m []
def FnD.typ (D : FnD) (t : Nat) : List Value := D.ls.getD t []
structure At where
 i : Nat
 k : Nat
 m : Nat
 t : Nat
def pR (n : Nat) (l : List Value) : List Int := (List.range n).map (ah l)
def lK (a b : Int) : Int := b2i (decide (a < b))
def akY (a b : Int) : Int := b2i (decide (a = b))
def zf (D : FnD) : List Int := [D.p, b2i D.u, D.ls.length, D.bs.length]
def a0P (b : bH) (i n : Nat) : List Int := [(i : Int), (i : Int) + 1, lK i n, b.st.length] ++ (pR 9 b.pre ++ ((b.ops.length : Int) :: pR 3 b.post))
def NT (z : Nat) (l : List Value) (k n : Nat) : List Int := (k : Int) :: ((k : Int) + 1) :: lK k n :: pR z l
def akS (p nL nB : Int) (st : List Value) (b : bH) (op : List Value) : List Int :=
 [lK (ah st 25) nL, lK (ah st 1) nL, lK (ah st 9) nL, lK (ah st 14) nL, lK (ah st 17) nL, lK (ah st 22) nL,
  lK (ah b.pre 3) nL, lK (ah b.post 0) nL, lK (ah op 2) nL, lK (ah b.pre 7) nB, lK (ah b.pre 8) nB, akY (ah b.pre 7) (ah b.pre 8), akY (ah st 17) (ah st 1), lK p nL]
def xsB (D : FnD) (q : At) : List Int := a0P (D.blk q.i) q.i D.bs.length
def xsS (D : FnD) (q : At) : List Int := NT 26 (D.stm q.i q.k) q.k (D.blk q.i).st.length
def xsO (D : FnD) (q : At) : List Int := NT 5 (D.opd q.i q.m) q.m (D.blk q.i).ops.length
def xsT (D : FnD) (q : At) : List Int := NT 2 (D.typ q.t) q.t D.ls.length
def xsC (D : FnD) (q : At) : List Int := akS D.p D.ls.length D.bs.length (D.stm q.i q.k) (D.blk q.i) (D.opd q.i q.m)
def aJ (D : FnD) (q : At) (more : List Int) : List Int := zf D ++ (xsB D q ++ (xsS D q ++ (xsO D q ++ (xsT D q ++ (xsC D q ++ more)))))
def afC (D : FnD) (q : At) : List ai2 := [⟨D.lv, D.ls⟩, ⟨D.bv, D.bs.map bH.cells⟩, D.xl, ⟨(D.blk q.i).s, (D.blk q.i).st⟩, ⟨(D.blk q.i).a, (D.blk q.i).ops⟩]
def fnE (w : World) (D : FnD) (q : At) (more : List Int) : Env := ⟨w, aJ D q more, afC D q⟩
abbrev fnB (w : World) (D : FnD) (q : At) (more : List Int) : Base := (fnE w D q more).b
def ivN : Int × Int := (0, 9223372036854775807)
def ivB : Int × Int := (0, 1)
def ivE (ks : List Kd) : List (Int × Int) := ivN :: ivN :: ivB :: ks.map Kd.iv
def fE : List (Int × Int) := [Kd.iv (.i .i64), ivB, ivN, ivN] ++ (([ivN, ivN, ivB, ivN] ++ (oM.map Kd.iv ++ (ivN :: kT.map Kd.iv))) ++ (ivE Dj ++ (ivE opK ++ (ivE [.i .u8, .i .u8] ++ List.replicate 14 ivB))))
def eu : Fx := ⟨[], ⟨[(4, 3, 6), (21, 7, 23), (50, 17, 52), (58, 2, 60), (49, 2, 63), (25, 2, 64), (33, 2, 65), (38, 2, 66), (41, 2, 67), (46, 2, 68), (11, 2, 69), (18, 2, 70), (55, 2, 71), (15, 3, 72), (16, 3, 73), (0, 2, 76)], [], [], [], [(15, 16, 74), (41, 25, 75)]⟩⟩
theorem a1j {a b c : List Int} {i : Nat} (h : i < a.length) : aF (a ++ b) i = aF (a ++ c) i := by
 unfold aF
 rw [List.getD_eq_getElem?_getD, List.getD_eq_getElem?_getD, List.getElem?_append_left h, List.getElem?_append_left h]
theorem jM {a b : List Int} {n j : Nat} (h : a.length = n) : aF (a ++ b) (n + j) = aF b j := by
 unfold aF
 rw [List.getD_eq_getElem?_getD, List.getD_eq_getElem?_getD, List.getElem?_append_right (by omega), show n + j - a.length = j by omega]
section
variable {w : World} {D : FnD}
theorem fJ {D : FnD} {q : At} {more : List Int} (j : Nat) : aF (aJ D q more) (77 + j) = aF more j := by
 have e : aJ D q more = (zf D ++ (xsB D q ++ (xsS D q ++ (xsO D q ++ (xsT D q ++ xsC D q))))) ++ more := by simp [aJ]
 rw [e]
 exact jM rfl
theorem bY (q : Prop) [Decidable q] : b2i (decide q) = 1 ↔ q := by
 by_cases h : q
 ·rw [decide_eq_true h]; exact ⟨fun _ => h, fun _ => rfl⟩
 ·rw [decide_eq_false h]; exact ⟨fun k => absurd k (by decide), fun k => absurd k h⟩
theorem aQ (D : FnD) (q : At) (more : List Int) : uj eu (aF (aJ D q more)) := by
 refine ⟨fun _ _ _ h => (by cases h), fun i j d h => ?_, fun _ _ _ h => (by cases h), fun _ _ _ h => (by cases h), fun _ _ _ _ h => (by cases h), fun i j d h => ?_⟩
 ·simp only [eu, List.mem_cons, List.not_mem_nil, or_false, Prod.mk.injEq] at h
  rcases h with ⟨rfl, rfl, rfl⟩ | ⟨rfl, rfl, rfl⟩ | ⟨rfl, rfl, rfl⟩ | ⟨rfl, rfl, rfl⟩ | ⟨rfl, rfl, rfl⟩ | ⟨rfl, rfl, rfl⟩ | ⟨rfl, rfl, rfl⟩ | ⟨rfl, rfl, rfl⟩ | ⟨rfl, rfl, rfl⟩ | ⟨rfl, rfl, rfl⟩ | ⟨rfl, rfl, rfl⟩ | ⟨rfl, rfl, rfl⟩ | ⟨rfl, rfl, rfl⟩ | ⟨rfl, rfl, rfl⟩ | ⟨rfl, rfl, rfl⟩ | ⟨rfl, rfl, rfl⟩ <;> exact bY _
 ·simp only [eu, List.mem_cons, List.not_mem_nil, or_false, Prod.mk.injEq] at h
  rcases h with ⟨rfl, rfl, rfl⟩ | ⟨rfl, rfl, rfl⟩ <;> exact bY _
def InI (p : Int × Int) (m : Int) : Prop := p.1 <= m /\ m <= p.2
theorem fZ {α β : Type} {R : α -> β -> Prop} : ∀ {a : List α} {b : List β} {c : List α} {d : List β}, ak R a b -> ak R c d -> ak R (a ++ c) (b ++ d)
 | [], [], _, _, _, h => h
 | _ :: _, _ :: _, _, _, h, k => ⟨h.1, fZ h.2 k⟩
 | [], _ :: _, _, _, h, _ => h.elim
 | _ :: _, [], _, _, h, _ => h.elim
theorem rC (b : Bool) : InI ivB (b2i b) := by cases b <;> exact ⟨by decide, by decide⟩
theorem RU {ks : List Kd} {l : List Value} (h : ak Kd.ok ks l \/ l = []) (hk : (ks.all fun k => decide (k.iv.1 <= 0) && decide (0 <= k.iv.2)) = true) {n : Nat} (hn : ks.length = n) : ak InI (ks.map Kd.iv) (pR n l) := by
 subst hn
 refine fC (by simp [pR]) fun i p m hp hm => ?_
 rw [List.getElem?_map] at hp
 obtain ⟨k, hk1, rfl⟩ := Option.map_eq_some_iff.1 hp
 have hi := (List.getElem?_eq_some_iff.1 hk1).1
 unfold pR at hm
 rw [List.getElem?_map, List.getElem?_range hi] at hm
 cases hm
 rcases h with h | rfl
 ·have hl := h.len
  obtain ⟨v, hv⟩ : ∃ v, l[i]? = some v := ⟨_, List.getElem?_eq_getElem (by omega)⟩
  obtain ⟨v', hv', ok⟩ := ak.nth h (n := i) (x := k) (by rw [aK]; exact hk1)
  have e : ah l i = aY v' := by unfold ah; rw [hv']
  rw [e]
  exact Kd.IK ok
 ·have := List.all_eq_true.1 hk k (List.mem_of_getElem? hk1)
  simp only [Bool.and_eq_true, decide_eq_true_eq] at this
  exact this
theorem JK {α : Type} {l : List α} {i : Nat} {d : α} : l.getD i d ∈ l \/ l.getD i d = d := by
 rw [List.getD_eq_getElem?_getD]
 cases h : l[i]? with
 | none => exact .inr rfl
 | some x => exact .inl (List.mem_of_getElem? h)
theorem len_in {w : World} {v : Value} {sz : Nat} {els : List (List Value)} (h : bV w v sz els) : InI ivN (els.length : Int) := ⟨by show (0 : Int) <= _; omega, h.most⟩
structure Fits (D : FnD) (q : At) : Prop where
 i : (q.i : Int) < 9223372036854775807
 k : (q.k : Int) < 9223372036854775807
 m : (q.m : Int) < 9223372036854775807
 t : (q.t : Int) < 9223372036854775807
theorem adS {ks : List Kd} {l : List Value} (h : ak Kd.ok ks l \/ l = []) (hk : (ks.all fun k => decide (k.iv.1 <= 0) && decide (0 <= k.iv.2)) = true) {z k n : Nat} (hz : ks.length = z) (hkn : (k : Int) < 9223372036854775807) : ak InI (ivE ks) (NT z l k n) :=
 ⟨⟨by show (0 : Int) <= _; omega, by show _ <= (9223372036854775807 : Int); omega⟩, ⟨by show (0 : Int) <= _; omega, by show _ <= (9223372036854775807 : Int); omega⟩, rC _, RU h hk hz⟩
theorem F9 {v : Value} (h : aT w v D) (i : Nat) : lq w (D.blk i) \/ D.blk i = b0 := by
 rcases JK (l := D.bs) (i := i) (d := b0) with k | k
 ·exact .inl (h.blk _ k)
 ·exact .inr k
theorem akd {v : Value} (h : aT w v D) (i k : Nat) : ak Kd.ok Dj (D.stm i k) \/ D.stm i k = [] := by
 rcases JK (l := (D.blk i).st) (i := k) (d := []) with hm | hm
 ·rcases F9 h i with e | e
  ·exact .inl (e.skd _ hm)
  ·rw [e] at hm; cases hm
 ·exact .inr hm
theorem akc {v : Value} (h : aT w v D) (i m : Nat) : ak Kd.ok opK (D.opd i m) \/ D.opd i m = [] := by
 rcases JK (l := (D.blk i).ops) (i := m) (d := []) with hm | hm
 ·rcases F9 h i with e | e
  ·exact .inl (e.okd _ hm)
  ·rw [e] at hm; cases hm
 ·exact .inr hm
theorem ajA {v : Value} (h : aT w v D) (t : Nat) : ak Kd.ok [.i .u8, .i .u8] (D.typ t) \/ D.typ t = [] := by
 rcases JK (l := D.ls) (i := t) (d := []) with hm | hm
 ·exact .inl (h.lkd _ hm)
 ·exact .inr hm
theorem agd {v : Value} (h : aT w v D) {q : At} (hq : Fits D q) : ak InI fE (zf D ++ (xsB D q ++ (xsS D q ++ (xsO D q ++ (xsT D q ++ xsC D q))))) := by
 have nS : InI ivN ((D.blk q.i).st.length : Int) := by
  rcases F9 h q.i with e | e
  ·exact len_in e.sts
  ·rw [e]; exact ⟨by decide, by decide⟩
 have nA : InI ivN ((D.blk q.i).ops.length : Int) := by
  rcases F9 h q.i with e | e
  ·exact len_in e.opl
  ·rw [e]; exact ⟨by decide, by decide⟩
 have pre : ak Kd.ok oM (D.blk q.i).pre \/ (D.blk q.i).pre = [] := (F9 h q.i).imp (fun e => e.BO) fun e => by rw [e]; rfl
 have post : ak Kd.ok kT (D.blk q.i).post \/ (D.blk q.i).post = [] := (F9 h q.i).imp (fun e => e.uX) fun e => by rw [e]; rfl
 refine fZ ?_ (fZ ?_ (fZ ?_ (fZ ?_ (fZ ?_ ?_))))
 ·obtain ⟨n, e, h1, h2⟩ := h.pk
  cases e
  exact ⟨⟨h1, h2⟩, rC _, len_in h.locals, by have := len_in h.blocks; rwa [List.length_map] at this, trivial⟩
 ·refine fZ (a := [ivN, ivN, ivB, ivN]) ⟨⟨by show (0 : Int) <= _; omega, by have := hq.i; show _ <= (9223372036854775807 : Int); omega⟩, ⟨by show (0 : Int) <= _; omega, by have := hq.i; show _ <= (9223372036854775807 : Int); omega⟩, rC _, nS, trivial⟩ ?_
  exact fZ (RU pre (by decide) rfl) ⟨nA, RU post (by decide) rfl⟩
 ·exact adS (akd h _ _) (by decide) rfl hq.k
 ·exact adS (akc h _ _) (by decide) rfl hq.m
 ·exact adS (ajA h _) (by decide) rfl hq.t
 ·exact ⟨rC _, rC _, rC _, rC _, rC _, rC _, rC _, rC _, rC _, rC _, rC _, rC _, rC _, rC _, trivial⟩
theorem kQ {v : Value} (h : aT w v D) {q : At} (hq : Fits D q) {iv : List (Int × Int)} {m1 m2 : List Int} (hm : ak InI iv m1) (sig : Nat -> List UInt8) : (Lf.of (fE ++ iv)).Holds (aF (aJ D q (m1 ++ m2))) sig := by
 have hall := fZ (agd h hq) hm
 refine Lf.af6 fun i p hp => ?_
 obtain ⟨x, hx, hi⟩ := ak.nth hall (n := i) (x := p) (by rw [aK]; exact hp)
 have e : aJ D q (m1 ++ m2) = ((zf D ++ (xsB D q ++ (xsS D q ++ (xsO D q ++ (xsT D q ++ xsC D q))))) ++ m1) ++ m2 := by simp [aJ]
 have : aF (aJ D q (m1 ++ m2)) i = x := by
  rw [e]
  unfold aF
  rw [List.getD_eq_getElem?_getD, List.getElem?_append_left (List.getElem?_eq_some_iff.1 hx).1, hx]
  rfl
 rw [this]
 exact hi
noncomputable def Lf.pin (L : Lf) (i : Nat) (c : Int) : Lf := (L.hi i c).lo i c
theorem Lf.Holds.pin {L : Lf} {rho : Nat -> Int} {sig : Nat -> List UInt8} (h : L.Holds rho sig) {i : Nat} {c : Int} (e : rho i = c) : (L.pin i c).Holds rho sig := (h.hi (i := i) (c := c) (by omega)).lo (i := i) (c := c) (by omega)
theorem bM (q q' : At) (more more' : List Int) : Agree (fnB w D q more) (fnB w D q' more') ⟨4, 0, 3⟩ :=
 ⟨rfl, rfl, fun i h => a1j (a := zf D) h, fun _ _ => rfl, fun l h => by
  have : l = 0 \/ l = 1 \/ l = 2 := by have h : l < 3 := h; omega
  rcases this with rfl | rfl | rfl <;> rfl⟩
theorem bK (q q' : At) (h : q.i = q'.i) (more more' : List Int) : Agree (fnB w D q more) (fnB w D q' more') ⟨21, 0, 5⟩ :=
 ⟨rfl, rfl, fun i hi => by
  show aF (aJ D q more) i = aF (aJ D q' more') i
  have e : ∀ (q : At) (more : List Int), aJ D q more = (zf D ++ xsB D q) ++ (xsS D q ++ (xsO D q ++ (xsT D q ++ (xsC D q ++ more)))) := fun q more => by simp [aJ]
  have e2 : xsB D q = xsB D q' := by unfold xsB; rw [h]
  rw [e, e, <- e2]
  exact a1j hi, fun _ _ => rfl, fun l hl => by
  show (afC D q).getD l _ = (afC D q').getD l _
  unfold afC
  rw [h]⟩
def bQ : List S := [.xi .i64 0, .xe [(1, 1)], .rv 0, .rv 1]
def kL : List S := .rv 3 :: (bZ 8 oM ++ .rv 4 :: bZ 18 kT)
def lW : List S := bZ 8 oM ++ .rv 4 :: bZ 18 kT
def kM : List S := bZ 24 Dj
def NZ : List S := bZ 53 opK
def CS : List S := bZ 61 [.i .u8, .i .u8]
theorem afO [Base] {r : Ren} {k : Kd} (hk : k ≠ .s) {v : Value} (h : k.ok v) {i : Nat} (e : Base.rho i = aY v) : VS r (cellT i k) v := by
 cases k with
 | s => exact absurd rfl hk
 | b =>
  obtain ⟨b, rfl⟩ := h
  show Value.bool b = .bool ((decide (Base.rho i = 1)) || false)
  rw [e, Bool.or_false]
  cases b <;> rfl
 | i k =>
  obtain ⟨n, rfl, _⟩ := h
  show Value.int k n = .int k (Base.rho i)
  rw [e]
  rfl
theorem Xc [Base] {r : Ren} : ∀ {ks : List Kd} {vs : List Value} {o : Nat}, (ks.all fun k => match k with | .s => false | _ => true) = true -> ak Kd.ok ks vs -> (∀ j v, vs[j]? = some v -> Base.rho (o + j) = aY v) -> ak (VS r) (bZ o ks) vs
 | [], [], _, _, _, _ => trivial
 | k :: ks, v :: vs, o, hs, h, hr => by
  simp only [List.all_cons, Bool.and_eq_true] at hs
  refine ⟨afO (fun e => by rw [e] at hs; cases hs.1) h.1 (hr 0 v rfl), Xc hs.2 h.2 fun j u hu => ?_⟩
  rw [show o + 1 + j = o + (j + 1) by omega]
  exact hr (j + 1) u hu
 | [], _ :: _, _, _, h, _ => h.elim
 | _ :: _, [], _, _, h, _ => h.elim
theorem Eb {n j : Nat} {l : List Value} {v : Value} (h : j < n) (hv : l[j]? = some v) (rest : List Int) : aF (pR n l ++ rest) j = aY v := by
 unfold aF pR
 rw [List.getD_eq_getElem?_getD, List.getElem?_append_left (by simpa using h), List.getElem?_map, List.getElem?_range h]
 show ah l j = _
 unfold ah
 rw [hv]
theorem ahc (q : At) (more : List Int) {j : Nat} {v : Value} (h : (D.blk q.i).pre[j]? = some v) (hj : j < 9) : aF (aJ D q more) (8 + j) = aY v := by
 have e : aJ D q more = (zf D ++ [(q.i : Int), (q.i : Int) + 1, lK q.i D.bs.length, (D.blk q.i).st.length]) ++ (pR 9 (D.blk q.i).pre ++ ((((D.blk q.i).ops.length : Int) :: pR 3 (D.blk q.i).post) ++ (xsS D q ++ (xsO D q ++ (xsT D q ++ (xsC D q ++ more)))))) := by simp [aJ, xsB, a0P]
 rw [e]
 refine (jM (n := 8) rfl).trans ?_
 exact Eb hj h _
theorem aeW (q : At) (more : List Int) {j : Nat} {v : Value} (h : (D.blk q.i).post[j]? = some v) (hj : j < 3) : aF (aJ D q more) (18 + j) = aY v := by
 have e : aJ D q more = (zf D ++ ([(q.i : Int), (q.i : Int) + 1, lK q.i D.bs.length, (D.blk q.i).st.length] ++ (pR 9 (D.blk q.i).pre ++ [((D.blk q.i).ops.length : Int)]))) ++ (pR 3 (D.blk q.i).post ++ (xsS D q ++ (xsO D q ++ (xsT D q ++ (xsC D q ++ more))))) := by simp [aJ, xsB, a0P]
 rw [e]
 refine (jM (n := 18) rfl).trans ?_
 exact Eb hj h _
theorem afS (q : At) (more : List Int) {j : Nat} {v : Value} (h : (D.stm q.i q.k)[j]? = some v) (hj : j < 26) : aF (aJ D q more) (24 + j) = aY v := by
 have e : aJ D q more = (zf D ++ (xsB D q ++ [(q.k : Int), (q.k : Int) + 1, lK q.k (D.blk q.i).st.length])) ++ (pR 26 (D.stm q.i q.k) ++ (xsO D q ++ (xsT D q ++ (xsC D q ++ more)))) := by simp [aJ, xsS, NT]
 rw [e]
 refine (jM (n := 24) rfl).trans ?_
 exact Eb hj h _
theorem ah1 (q : At) (more : List Int) {j : Nat} {v : Value} (h : (D.opd q.i q.m)[j]? = some v) (hj : j < 5) : aF (aJ D q more) (53 + j) = aY v := by
 have e : aJ D q more = (zf D ++ (xsB D q ++ (xsS D q ++ [(q.m : Int), (q.m : Int) + 1, lK q.m (D.blk q.i).ops.length]))) ++ (pR 5 (D.opd q.i q.m) ++ (xsT D q ++ (xsC D q ++ more))) := by simp [aJ, xsO, NT]
 rw [e]
 refine (jM (n := 53) rfl).trans ?_
 exact Eb hj h _
theorem aho (q : At) (more : List Int) {j : Nat} {v : Value} (h : (D.typ q.t)[j]? = some v) (hj : j < 2) : aF (aJ D q more) (61 + j) = aY v := by
 have e : aJ D q more = (zf D ++ (xsB D q ++ (xsS D q ++ (xsO D q ++ [(q.t : Int), (q.t : Int) + 1, lK q.t D.ls.length])))) ++ (pR 2 (D.typ q.t) ++ (xsC D q ++ more)) := by simp [aJ, xsT, NT]
 rw [e]
 refine (jM (n := 61) rfl).trans ?_
 exact Eb hj h _
def E.ren (f : Nat -> Nat) : E -> E
 | .lt i c => .lt (f i) c
 | .zero l => .zero (l.map fun p => (f p.1, p.2))
 | .and a b => .and (a.ren f) (b.ren f)
 | .or a b => .or (a.ren f) (b.ren f)
 | .not a => .not (a.ren f)
def E.bd (n : Nat) : E -> Bool
 | .lt i c => Nat.blt i n
 | .zero l => l.all fun p => Nat.blt p.1 n
 | .and a b => a.bd n && b.bd n
 | .or a b => a.bd n && b.bd n
 | .not a => a.bd n
theorem E.jY {f : Nat -> Nat} {rho rho' : Nat -> Int} {n : Nat} : ∀ {e : E}, e.bd n = true -> (∀ i, i < n -> rho (f i) = rho' i) -> (e.ren f).num rho = e.num rho'
 | .lt i c, h, k => by
  have h : Nat.blt i n = true := h
  show decide (rho (f i) < c) = decide (rho' i < c)
  rw [k i (by rwa [Nat.blt_eq] at h)]
 | .zero l, h, k => by
  have h : (l.all fun p => Nat.blt p.1 n) = true := h
  show ((l.map fun p => (f p.1, p.2)).all fun p => decide (rho p.1 = p.2)) = l.all fun p => decide (rho' p.1 = p.2)
  rw [List.all_map]
  refine BA fun p hp => ?_
  have := List.all_eq_true.1 h p hp
  show decide (rho (f p.1) = p.2) = _
  rw [k p.1 (by rwa [Nat.blt_eq] at this)]
 | .and a b, h, k => by
  have h : (a.bd n && b.bd n) = true := h
  rw [Bool.and_eq_true] at h
  show ((a.ren f).num rho && (b.ren f).num rho) = (a.num rho' && b.num rho')
  rw [E.jY h.1 k, E.jY h.2 k]
 | .or a b, h, k => by
  have h : (a.bd n && b.bd n) = true := h
  rw [Bool.and_eq_true] at h
  show ((a.ren f).num rho || (b.ren f).num rho) = (a.num rho' || b.num rho')
  rw [E.jY h.1 k, E.jY h.2 k]
 | .not a, h, k => by
  show (!(a.ren f).num rho) = !(a.num rho')
  rw [E.jY (e := a) h k]
theorem E.jh (vs : List Value) : ∀ e : E, e.val vs = e.num (ah vs)
 | .lt i c => rfl
 | .zero l => rfl
 | .and a b => by show (a.val vs && b.val vs) = (a.num _ && b.num _); rw [E.jh vs a, E.jh vs b]
 | .or a b => by show (a.val vs || b.val vs) = (a.num _ || b.num _); rw [E.jh vs a, E.jh vs b]
 | .not a => by show (!a.val vs) = !(a.num _); rw [E.jh vs a]
theorem wS {n j : Nat} {l : List Value} (h : j < n) (rest : List Int) : aF (pR n l ++ rest) j = ah l j := by
 unfold aF pR
 rw [List.getD_eq_getElem?_getD, List.getElem?_append_left (by simpa using h), List.getElem?_map, List.getElem?_range h]
 rfl
theorem yK (q : At) (more : List Int) {e : E} (h : e.bd 26 = true) : (e.ren (24 + ·)).num (aF (aJ D q more)) = e.num (ah (D.stm q.i q.k)) := by
 refine E.jY h fun j hj => ?_
 have e : aJ D q more = (zf D ++ (xsB D q ++ [(q.k : Int), (q.k : Int) + 1, lK q.k (D.blk q.i).st.length])) ++ (pR 26 (D.stm q.i q.k) ++ (xsO D q ++ (xsT D q ++ (xsC D q ++ more)))) := by simp [aJ, xsS, NT]
 rw [e]
 exact (jM (n := 24) rfl).trans (wS hj _)
theorem Zw (q : At) (more : List Int) {e : E} (h : e.bd 5 = true) : (e.ren (53 + ·)).num (aF (aJ D q more)) = e.num (ah (D.opd q.i q.m)) := by
 refine E.jY h fun j hj => ?_
 have e : aJ D q more = (zf D ++ (xsB D q ++ (xsS D q ++ [(q.m : Int), (q.m : Int) + 1, lK q.m (D.blk q.i).ops.length]))) ++ (pR 5 (D.opd q.i q.m) ++ (xsT D q ++ (xsC D q ++ more))) := by simp [aJ, xsO, NT]
 rw [e]
 exact (jM (n := 53) rfl).trans (wS hj _)
theorem Iy (q : At) (more : List Int) {e : E} (h : e.bd 2 = true) : (e.ren (61 + ·)).num (aF (aJ D q more)) = e.num (ah (D.typ q.t)) := by
 refine E.jY h fun j hj => ?_
 have e : aJ D q more = (zf D ++ (xsB D q ++ (xsS D q ++ (xsO D q ++ [(q.t : Int), (q.t : Int) + 1, lK q.t D.ls.length])))) ++ (pR 2 (D.typ q.t) ++ (xsC D q ++ more)) := by simp [aJ, xsT, NT]
 rw [e]
 exact (jM (n := 61) rfl).trans (wS hj _)
def Tabs.app (a b : Tabs) : Tabs := ⟨a.len ++ b.len, a.el ++ b.el, a.add ++ b.add⟩
theorem a5I (a b : List (Nat × Nat)) (k : Nat) : Tabs.lenOf ⟨a ++ b, [], []⟩ k = (Tabs.lenOf ⟨a, [], []⟩ k).or (Tabs.lenOf ⟨b, [], []⟩ k) := by
 induction a with
 | nil => rfl
 | cons p a ih =>
  show (bif Nat.beq p.1 k then some p.2 else Tabs.lenOf ⟨a ++ b, [], []⟩ k) = (bif Nat.beq p.1 k then some p.2 else Tabs.lenOf ⟨a, [], []⟩ k).or _
  cases Nat.beq p.1 k
  ·exact ih
  ·rfl
theorem a99 (a b : List (Nat × N × List S)) (k : Nat) (i : N) : Tabs.DW ⟨[], a ++ b, []⟩ k i = (Tabs.DW ⟨[], a, []⟩ k i).or (Tabs.DW ⟨[], b, []⟩ k i) := by
 induction a with
 | nil => rfl
 | cons p a ih =>
  show (bif Nat.beq p.1 k && p.2.1.eqv i then some p.2.2 else Tabs.DW ⟨[], a ++ b, []⟩ k i) = (bif Nat.beq p.1 k && p.2.1.eqv i then some p.2.2 else Tabs.DW ⟨[], a, []⟩ k i).or _
  cases (Nat.beq p.1 k && p.2.1.eqv i)
  ·exact ih
  ·rfl
theorem a1Z (a b : List (Nat × Int × Nat)) (i : Nat) (c : Int) : Tabs.Hl ⟨[], [], a ++ b⟩ i c = (Tabs.Hl ⟨[], [], a⟩ i c).or (Tabs.Hl ⟨[], [], b⟩ i c) := by
 induction a with
 | nil => rfl
 | cons p a ih =>
  show (bif Nat.beq p.1 i && decide (p.2.1 = c) then some p.2.2 else Tabs.Hl ⟨[], [], a ++ b⟩ i c) = (bif Nat.beq p.1 i && decide (p.2.1 = c) then some p.2.2 else Tabs.Hl ⟨[], [], a⟩ i c).or _
  cases (Nat.beq p.1 i && decide (p.2.1 = c))
  ·exact ih
  ·rfl
theorem or_some {α : Type} {x y : Option α} {z : α} (h : x.or y = some z) : x = some z \/ y = some z := by cases x <;> simp_all
theorem aV [Base] {a b : Tabs} (ha : aZ a) (hb : aZ b) : aZ (a.app b) := by
 refine ⟨fun k j h => ?_, fun k i cs h => ?_, fun i c j h => ?_⟩
 ·rcases or_some ((a5I a.len b.len k).symm.trans h) with h | h
  ·exact ha.len k j h
  ·exact hb.len k j h
 ·rcases or_some ((a99 a.el b.el k i).symm.trans h) with h | h
  ·exact ha.el k i cs h
  ·exact hb.el k i cs h
 ·rcases or_some ((a1Z a.add b.add i c).symm.trans h) with h | h
  ·exact ha.add i c j h
  ·exact hb.add i c j h
theorem Ig {b : Base} {k j n : Nat} {A : Option Addr} {c : Nat} (h : (b.lst k).v = .slice A n c) (hr : b.rho j = n) : @aZ b ⟨[(k, j)], [], []⟩ := by
 refine @aZ.mk b _ (fun l i hh => ?_) (fun _ _ _ h => (by cases h)) (fun _ _ _ h => (by cases h))
 have hh : (bif Nat.beq k l then some j else none) = some i := hh
 cases hb : Nat.beq k l <;> rw [hb] at hh <;> cases hh
 rw [<- Nat.eq_of_beq_eq_true hb]
 exact ⟨A, n, c, h, hr⟩
theorem Iw {b : Base} {i j : Nat} (h : b.rho j = b.rho i + 1) (h1 : -9223372036854775808 <= b.rho j) (h2 : b.rho j <= 9223372036854775807) : @aZ b ⟨[], [], [(i, 1, j)]⟩ := by
 refine @aZ.mk b _ (fun _ _ h => (by cases h)) (fun _ _ _ h => (by cases h)) (fun l c m hh => ?_)
 have hh : (bif Nat.beq i l && decide (1 = c) then some j else none) = some m := hh
 cases hb : (Nat.beq i l && decide (1 = c)) <;> rw [hb] at hh <;> cases hh
 simp only [Bool.and_eq_true, decide_eq_true_eq] at hb
 rw [<- Nat.eq_of_beq_eq_true hb.1, <- hb.2]
 exact ⟨h, h1, h2⟩
theorem Sr {e : Env} {v : Value} {sz k i n : Nat} {els : List (List Value)} {el : List Value} {cs : List S} (h : bV e.w v sz els) (hl : e.b.lst k = ⟨v, els⟩) (hr : e.b.rho i = n) (he : els[n]? = some el) (hs : cs.length = sz) (hc : ak (fun x v => ∀ r, @VS e.b r x v) cs el) :
  @aZ e.b ⟨[], [(k, .x i, cs)], []⟩ := by
 refine @aZ.mk e.b _ (fun _ _ h => (by cases h)) (fun l m ds hh => ?_) (fun _ _ _ h => (by cases h))
 have hh : (bif Nat.beq k l && (N.x i).eqv m then some cs else none) = some ds := hh
 cases hb : (Nat.beq k l && (N.x i).eqv m) <;> rw [hb] at hh <;> cases hh
 simp only [Bool.and_eq_true] at hb
 rw [<- Nat.eq_of_beq_eq_true hb.1, <- N.ug hb.2]
 exact h.el (b := e.b) (i := .x i) rfl rfl hl (n := n) hr he hs hc
def bW : Tabs := ⟨[(0, 2), (1, 3)], [], []⟩
def iG : Tabs := ⟨[(3, 7), (4, 17)], [(1, .x 4, kL)], [(4, 1, 5)]⟩
def a6p : Tabs := ⟨[], [(3, .x 21, kM)], [(21, 1, 22)]⟩
def ae5 : Tabs := ⟨[], [(4, .x 50, NZ)], [(50, 1, 51)]⟩
def RH : Tabs := ⟨[], [(0, .x 58, CS)], [(58, 1, 59)]⟩
variable {v : Value} (h : aT w v D)
include h
theorem aU (q : At) (more : List Int) : @aZ (fnB w D q more) bW := by
 obtain ⟨A, c, e⟩ := h.locals.sl
 obtain ⟨A', c', e'⟩ := h.blocks.sl
 rw [List.length_map] at e'
 exact @aV (fnB w D q more) ⟨[(0, 2)], [], []⟩ ⟨[(1, 3)], [], []⟩ (Ig (n := D.ls.length) e rfl) (Ig (n := D.bs.length) e' rfl)
theorem xw {ks : List Kd} {vs : List Value} {o : Nat} {b : Base} (hs : (ks.all fun k => match k with | .s => false | _ => true) = true) (hk : ak Kd.ok ks vs) (hr : ∀ j v, vs[j]? = some v -> b.rho (o + j) = aY v) : ak (fun x v => ∀ r, @VS b r x v) (bZ o ks) vs := by
 have h1 := fun r => @Xc b r ks vs o hs hk hr
 refine fC (h1 r0).len fun i x v hx hv r => ?_
 obtain ⟨v', hv', ok⟩ := ak.nth (h1 r) (n := i) (x := x) (by rw [aK]; exact hx)
 rw [hv] at hv'
 cases hv'
 exact ok
theorem xI (q : At) (more : List Int) (r : Ren) : @VA (fnB w D q more) r (.g bQ) v := by
 obtain ⟨A, c, e⟩ := h.locals.sl
 obtain ⟨A', c', e'⟩ := h.blocks.sl
 refine ⟨[.int .i64 D.p, .bool D.u, D.lv, D.bv], by rw [h.eq], rfl, ?_, ⟨_, _, _, e, e⟩, ⟨_, _, _, e', e'⟩, trivial⟩
 show Value.bool D.u = .bool (decide (b2i D.u = 1) || false)
 cases D.u <;> rfl
theorem uo {i : Nat} (hi : i < D.bs.length) : lq w (D.blk i) /\ (D.bs.map bH.cells)[i]? = some (D.blk i).cells := by
 have e : D.bs[i]? = some (D.blk i) := by
  unfold FnD.blk
  rw [List.getD_eq_getElem?_getD, List.getElem?_eq_getElem hi]
  rfl
 refine ⟨h.blk _ (List.mem_of_getElem? e), ?_⟩
 rw [List.getElem?_map, e]
 rfl
theorem ES {i : Nat} (hi : i < D.bs.length) (q : At) (hq : q.i = i) (more : List Int) : ak (fun x v => ∀ r, @VS (fnB w D q more) r x v) lW ((D.blk i).pre ++ (D.blk i).a :: (D.blk i).post) := by
 subst hq
 obtain ⟨b, _⟩ := uo h hi
 obtain ⟨A, c, e⟩ := b.opl.sl
 have h1 : ak (fun x v => ∀ r, @VS (fnB w D q more) r x v) (bZ 8 oM) (D.blk q.i).pre := xw h rfl b.BO fun j v hv => ahc q more hv (by have := (List.getElem?_eq_some_iff.1 hv).1; have := b.BO.len; have : oM.length = 9 := rfl; omega)
 have h2 : ak (fun x v => ∀ r, @VS (fnB w D q more) r x v) (bZ 18 kT) (D.blk q.i).post := xw h rfl b.uX fun j v hv => aeW q more hv (by have := (List.getElem?_eq_some_iff.1 hv).1; have := b.uX.len; have : kT.length = 3 := rfl; omega)
 exact fZ h1 ⟨fun r => ⟨A, _, c, e, e⟩, h2⟩
theorem P9 {i : Nat} (hi : i < D.bs.length) (q : At) (hq : q.i = i) (more : List Int) : ak (fun x v => ∀ r, @VS (fnB w D q more) r x v) kL (D.blk i).cells := by
 have h3 := ES h hi q hq more
 subst hq
 obtain ⟨b, _⟩ := uo h hi
 obtain ⟨A, c, e⟩ := b.sts.sl
 exact ⟨fun r => ⟨A, _, c, e, e⟩, h3⟩
theorem dL {q : At} (hi : q.i < D.bs.length) (more : List Int) : @aZ (fnB w D q more) iG := by
 obtain ⟨b, hb⟩ := uo h hi
 obtain ⟨A, c, e⟩ := b.sts.sl
 obtain ⟨A', c', e'⟩ := b.opl.sl
 have hlen : (D.bs.length : Int) <= 9223372036854775807 := by have := h.blocks.most; rwa [List.length_map] at this
 have t1 : @aZ (fnB w D q more) ⟨[(3, 7)], [], []⟩ := Ig (n := (D.blk q.i).st.length) e rfl
 have t2 : @aZ (fnB w D q more) ⟨[(4, 17)], [], []⟩ := Ig (n := (D.blk q.i).ops.length) e' rfl
 have t3 : @aZ (fnB w D q more) ⟨[], [(1, .x 4, kL)], []⟩ := Sr (e := fnE w D q more) h.blocks rfl (n := q.i) rfl hb rfl (P9 h hi q rfl more)
 have t4 : @aZ (fnB w D q more) ⟨[], [], [(4, 1, 5)]⟩ := Iw rfl (show (-9223372036854775808 : Int) <= (q.i : Int) + 1 by omega) (show (q.i : Int) + 1 <= 9223372036854775807 by omega)
 exact @aV (fnB w D q more) ⟨[(3, 7), (4, 17)], [(1, .x 4, kL)], []⟩ _ (@aV (fnB w D q more) ⟨[(3, 7), (4, 17)], [], []⟩ _ (@aV (fnB w D q more) _ _ t1 t2) t3) t4
theorem BM {i k : Nat} (hi : i < D.bs.length) (hk : k < (D.blk i).st.length) : ak Kd.ok Dj (D.stm i k) /\ (D.blk i).st[k]? = some (D.stm i k) := by
 have e : (D.blk i).st[k]? = some (D.stm i k) := by
  unfold FnD.stm
  rw [List.getD_eq_getElem?_getD, List.getElem?_eq_getElem hk]
  rfl
 exact ⟨(uo h hi).1.skd _ (List.mem_of_getElem? e), e⟩
theorem KI {i m : Nat} (hi : i < D.bs.length) (hm : m < (D.blk i).ops.length) : ak Kd.ok opK (D.opd i m) /\ (D.blk i).ops[m]? = some (D.opd i m) := by
 have e : (D.blk i).ops[m]? = some (D.opd i m) := by
  unfold FnD.opd
  rw [List.getD_eq_getElem?_getD, List.getElem?_eq_getElem hm]
  rfl
 exact ⟨(uo h hi).1.okd _ (List.mem_of_getElem? e), e⟩
theorem Y4 {t : Nat} (ht : t < D.ls.length) : ak Kd.ok [.i .u8, .i .u8] (D.typ t) /\ D.ls[t]? = some (D.typ t) := by
 have e : D.ls[t]? = some (D.typ t) := by
  unfold FnD.typ
  rw [List.getD_eq_getElem?_getD, List.getElem?_eq_getElem ht]
  rfl
 exact ⟨h.lkd _ (List.mem_of_getElem? e), e⟩
theorem FC {q : At} (hi : q.i < D.bs.length) (hk : q.k < (D.blk q.i).st.length) (more : List Int) : ak (fun x v => ∀ r, @VS (fnB w D q more) r x v) kM (D.stm q.i q.k) := by
 obtain ⟨ok, _⟩ := BM h hi hk
 exact xw h rfl ok fun j v hv => afS q more hv (by have := (List.getElem?_eq_some_iff.1 hv).1; have := ok.len; have : Dj.length = 26 := rfl; omega)
theorem a4p {q : At} (hi : q.i < D.bs.length) (hm : q.m < (D.blk q.i).ops.length) (more : List Int) : ak (fun x v => ∀ r, @VS (fnB w D q more) r x v) NZ (D.opd q.i q.m) := by
 obtain ⟨ok, _⟩ := KI h hi hm
 exact xw h rfl ok fun j v hv => ah1 q more hv (by have := (List.getElem?_eq_some_iff.1 hv).1; have := ok.len; have : opK.length = 5 := rfl; omega)
theorem QH {q : At} (ht : q.t < D.ls.length) (more : List Int) : ak (fun x v => ∀ r, @VS (fnB w D q more) r x v) CS (D.typ q.t) := by
 obtain ⟨ok, _⟩ := Y4 h ht
 exact xw h rfl ok fun j v hv => aho q more hv (by have := (List.getElem?_eq_some_iff.1 hv).1; have h2 := ok.len; simp only [List.length_cons, List.length_nil] at h2; omega)
theorem Dt {q : At} (hi : q.i < D.bs.length) (hk : q.k < (D.blk q.i).st.length) (more : List Int) : @aZ (fnB w D q more) a6p := by
 have b := (uo h hi).1
 have hl := b.sts.most
 exact @aV (fnB w D q more) ⟨[], [(3, .x 21, kM)], []⟩ _ (Sr (e := fnE w D q more) b.sts rfl (n := q.k) rfl (BM h hi hk).2 rfl (FC h hi hk more))
  (Iw (i := 21) (j := 22) rfl (show (-9223372036854775808 : Int) <= (q.k : Int) + 1 by omega) (show (q.k : Int) + 1 <= 9223372036854775807 by omega))
theorem IB {q : At} (hi : q.i < D.bs.length) (hm : q.m < (D.blk q.i).ops.length) (more : List Int) : @aZ (fnB w D q more) ae5 := by
 have b := (uo h hi).1
 have hl := b.opl.most
 exact @aV (fnB w D q more) ⟨[], [(4, .x 50, NZ)], []⟩ _ (Sr (e := fnE w D q more) b.opl rfl (n := q.m) rfl (KI h hi hm).2 rfl (a4p h hi hm more))
  (Iw (i := 50) (j := 51) rfl (show (-9223372036854775808 : Int) <= (q.m : Int) + 1 by omega) (show (q.m : Int) + 1 <= 9223372036854775807 by omega))
theorem Zz {q : At} (ht : q.t < D.ls.length) (more : List Int) : @aZ (fnB w D q more) RH := by
 have hl := h.locals.most
 exact @aV (fnB w D q more) ⟨[], [(0, .x 58, CS)], []⟩ _ (Sr (e := fnE w D q more) h.locals rfl (n := q.t) rfl (Y4 h ht).2 rfl (QH h ht more))
  (Iw (i := 58) (j := 59) rfl (show (-9223372036854775808 : Int) <= (q.t : Int) + 1 by omega) (show (q.t : Int) + 1 <= 9223372036854775807 by omega))
end
end Go.Proofs.YtglmonlofejcgaaGreatDoor.Am
