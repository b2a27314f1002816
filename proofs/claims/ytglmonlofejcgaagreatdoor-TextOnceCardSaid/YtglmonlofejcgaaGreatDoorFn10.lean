/- fnshape.made answers by madeF. -/
import Derived.Test.YtglmonlofejcgaaGreatDoorFn5
set_option maxRecDepth 100000
noncomputable section
open List renaming range → apu, mem_map → apv, all_eq_true → apw, getElem?_eq_some_iff → apx, mem_range → apy, mem_singleton → apA, getD_eq_getElem?_getD → apC, append_assoc → apD, getElem?_map → apE, getElem?_eq_getElem → apF, replicate → apH, getElem?_range → apI, length_cons → apK
open Bool renaming and_eq_true → apz, or_false → apB
open Nat renaming eq_of_beq_eq_true → apG
open Int renaming toNat_natCast → apJ
set_option linter.unusedVariables false
set_option linter.unusedSectionVars false
namespace Go.Proofs.YtglmonlofejcgaaGreatDoor
namespace Am
open Go.RowKit
theorem F8 {pre post : List Value} {els : List (List Value)} (hp : pre.length = 9) (h : okJ pre els post = true) : els.length <= 8 := by
 have e9 : ∀ l, ah (aU pre els post ++ l) 9 = (els.length : Int) := fun l => by
  unfold ah aU
  rw [apD, List.getElem?_append_right (by omega), hp]
  rfl
 unfold okJ at h
 rw [E.iR] at h
 generalize hl : (lI pre els post).map (Value.int .i64) = l at h
 have e9 := e9 l
 generalize hv : aU pre els post ++ l = vs at h e9
 simp only [a8t, E.num, E.ands, zs, G5, Bool.or_eq_true, apz, decide_eq_true_eq, List.all_cons, List.all_nil, List.all_map] at h
 rcases h with h | h | h | h
 ·have := apw.1 h.2.2.2 1 (by decide)
  simp only [Function.comp, decide_eq_true_eq] at this
  rw [show (8 + 1 : Nat) = 9 from rfl] at this
  omega
 ·have := apw.1 h.2.2.2.2.2 0 (by decide)
  simp only [Function.comp, decide_eq_true_eq] at this
  rw [show (9 + 0 : Nat) = 9 from rfl] at this
  omega
 ·have := apw.1 h.2 8 (by decide)
  simp only [Function.comp, decide_eq_true_eq] at this
  rw [show (1 + 8 : Nat) = 9 from rfl] at this
  omega
 ·have := h.2.2.2.2.2.1
  omega
end Am
namespace made
open Go.RowKit Am
section
variable {w : World} {v : Value} {D : FnD} (h : aV w v D)
include h
theorem afP (hL : D.ls.length <= 16) (hB : D.bs.length <= 24) (hS : ∀ b ∈ D.bs, b.st.length <= 24) : bG f [v] w (.bool (kV D)) := by
 have hS' : ∀ b ∈ D.bs, b.st.length <= 1000 /\ (A8 b = true -> b.ops.length <= 1000) := fun b hb => ⟨by have := hS b hb; omega, fun e => by
  have h1 := (h.blk b hb).EU.len
  have h2 := F8 (by rw [<- h1]; rfl) e
  omega⟩
 have out := fun r (m : List Int) => outer h r (m := m) (fun _ => trivial) (by omega) hS'
 let a : Bool := D.bs.all (WO D.ls.length D.bs.length)
 let m : Bool -> List Int := fun r => [0, b2i (r && a)]
 have lib : ∀ r hb, head.mM D = hb -> ∀ K (ok : aG K (fnB w D (atB 0) (m r)).rho (fnB w D (atB 0) (m r)).sig), @Sound ((fnB w D (atB 0) (m r)).aH K ok) Tryz.prog (aij hb K) := fun r hb e =>
  VY h ⟨_, Tryz.func55, by kernel_rfl, by kernel_rfl⟩ (fun b0 r => vmB b0 r hb) (atB 0) (m r) fun w' hw => e ▸ head.abW hw (by omega)
 have LMh : ∀ r, LM.Holds (aF (aK D (atB 0) (m r))) (fun _ => []) := fun r => lG h (q := atB 0) (gX (by omega)) (iv := [ivB, ivB]) (m1 := [0, b2i (r && a)]) (m2 := []) ⟨⟨by decide, by decide⟩, sU _, trivial⟩ _
 have good : ∀ r hb, head.mM D = hb -> D.bs.all okB = true -> jT Tryz.prog (dH (aij hb) bW fun K => dR [(f, zZ r (.exit 0) sNO K)]) (fnB w D (atB 0) (m r)) := fun r hb e hok =>
  fK (lib r hb e) (aT h _ _) (rows_ok (T := fun K => [(f, zZ r (.exit 0) sNO K)]) fun K ok p hp => by
   obtain rfl := apA.1 hp
   exact ⟨F, Tryz.func33, fun c hc => iM XD ((out r (m r)).1 hok rfl K ok) hc⟩)
 have bad : ∀ r hb, head.mM D = hb -> D.bs.all okB = false -> jT Tryz.prog (dH (aij hb) bW fun K => dR [(f, zZ r .ret sRO K)]) (fnB w D (atB 0) (m r)) := fun r hb e hok =>
  fK (lib r hb e) (aT h _ _) (rows_ok (T := fun K => [(f, zZ r .ret sRO K)]) fun K ok p hp => by
   obtain rfl := apA.1 hp
   exact ⟨F, Tryz.func33, fun c hc => iM XD ((out r (m r)).2 hok K ok) hc⟩)
 have ans : ∀ r x, @VV (fnB w D (atB 0) (m r)) x (V.s (.xe [(78, 1)])) = fun u => u = .bool (r && a) := fun r x => by
  funext u
  show (u = .bool (decide (aF (aK D (atB 0) (m r)) (77 + 1) = 1) || false)) = _
  rw [fQ, apB]
  show (u = .bool (decide (b2i (r && a) = 1))) = _
  rw [eG]
 cases hok : D.bs.all okB with
 | false =>
  have hm : kV D = false := by unfold kV; rw [hok]; simp
  rw [hm]
  cases hb : head.mM D with
  | false => exact jH h aoR (bad false false hb hok) (LMh false) (aQ D _ _) (fun p hp => by cases hp) (fun r x hx => hx)
  | true =>
   by_cases hn : 0 < D.bs.length
   ·exact jH h apf (bad true true hb hok) ((LMh true).lo (i := 3) (c := 1) (show (1 : Int) <= (D.bs.length : Int) by omega)) (aQ D _ _) (fun p hp => by cases hp) (fun r x hx => hx)
   ·exact jH h aoP (bad false true hb hok) ((LMh false).hi (i := 3) (c := 0) (show (D.bs.length : Int) <= 0 by omega)) (aQ D _ _) (fun p hp => by cases hp) (fun r x hx => hx)
 | true =>
  have hm : kV D = (head.mM D && (decide (0 < D.bs.length) && a)) := by unfold kV; rw [hok, Bool.true_and]
  rw [hm]
  cases hb : head.mM D with
  | false => exact jH h aov (good false false hb hok) (LMh false) (aQ D _ _) (fun p hp => by cases hp) (fun r x hx => by rw [ans] at hx; exact hx)
  | true =>
   by_cases hn : 0 < D.bs.length
   ·rw [decide_eq_true hn]
    exact jH h good1 (good true true hb hok) ((LMh true).lo (i := 3) (c := 1) (show (1 : Int) <= (D.bs.length : Int) by omega)) (aQ D _ _) (fun p hp => by cases hp) (fun r x hx => by rw [ans] at hx; exact hx)
   ·rw [decide_eq_false hn]
    exact jH h aox (good false true hb hok) ((LMh false).hi (i := 3) (c := 0) (show (D.bs.length : Int) <= 0 by omega)) (aQ D _ _) (fun p hp => by cases hp) (fun r x hx => by rw [ans] at hx; exact hx)
end
end made
namespace Am
open Go.RowKit
def nG (f : Nat -> Int) : List Int := (apu 16).map f
def bU : List (Nat -> Int) -> List Int
 | [] => []
 | f :: r => nG f ++ bU r
theorem TA (f : Nat -> Int) : (nG f).length = 16 := by simp [nG]
theorem KU : ∀ fs : List (Nat -> Int), (bU fs).length = 16 * fs.length
 | [] => rfl
 | f :: r => by rw [bU, List.length_append, TA, KU r, apK]; omega
theorem Gf : ∀ (fs : List (Nat -> Int)) (tail : List Int) (b j : Nat) (f : Nat -> Int), fs[b]? = some f -> j < 16 -> aF (bU fs ++ tail) (16 * b + j) = f j
 | [], _, b, j, f, h, _ => by simp at h
 | g :: r, tail, 0, j, f, h, hj => by
  cases h
  rw [Nat.mul_zero, Nat.zero_add, bU, apD]
  unfold aF nG
  rw [apC, List.getElem?_append_left (by simpa using hj), apE, apI hj]
  rfl
 | g :: r, tail, b + 1, j, f, h, hj => by
  rw [bU, apD, show 16 * (b + 1) + j = 16 + (16 * b + j) by omega, kC (TA g)]
  exact Gf r tail b j f (by simpa using h) hj
theorem Y2 (fs : List (Nat -> Int)) (tail : List Int) (j : Nat) : aF (bU fs ++ tail) (16 * fs.length + j) = aF tail j := kC (KU fs)
def nm (b j : Nat) : Nat := 77 + (16 * b + j)
def bI (b : Nat) : List S := (apu 16).map fun j => .xi .i64 (nm b j)
def kH (b : Nat) : List S := (apu 16).map fun j => .xe [(nm b j, 1)]
structure Cnt where
 src : Nat
 dst : Nat
 l : Nat
 m : Nat
def trX (T : List Cnt) : xZ := { eU.xt with ld := T.map fun t => (bI t.src, t.l, t.m), sr := T.map fun t => (bI t.src, t.l, t.m + 1, bI t.dst) }
def UU (T : List Cnt) : Fx := ⟨T.map fun t => (t.m, 1, t.m + 1), trX T⟩
def bump (F : Nat -> Int) (l : Int) (j : Nat) : Int := F j + b2i (decide (l = j))
structure abr (rho : Nat -> Int) (t : Cnt) : Prop where
 ex : ∃ F : Nat -> Int, (∀ j, j < 16 -> rho (nm t.src j) = F j) /\ (∀ j, j < 16 -> rho (nm t.dst j) = bump F (rho t.l) j) /\ rho t.m = F (rho t.l).toNat /\ rho (t.m + 1) = rho t.m + 1
 lo : -9223372036854775808 <= rho (t.m + 1)
 hi : rho (t.m + 1) <= 9223372036854775807
theorem qJ {b j : Nat} {c : S} (h : (bI b)[j]? = some c) : j < 16 /\ c = .xi .i64 (nm b j) := by
 have hj : j < 16 := by have := (apx.1 h).1; simpa [bI] using this
 unfold bI at h
 rw [apE, apI hj] at h
 cases h
 exact ⟨hj, rfl⟩
theorem EW {T : List Cnt} {rho : Nat -> Int} (h0 : vT eU rho) (h : ∀ t ∈ T, abr rho t) : vT (UU T) rho := by
 refine ⟨fun i c k hm => ?_, ⟨h0.xt.lf, h0.xt.sm, fun cs i m hm j c hc hj => ?_, fun cs i m ds hm => ?_, h0.xt.eq⟩⟩
 ·have hm : (i, c, k) ∈ T.map fun t => (t.m, (1 : Int), t.m + 1) := hm
  obtain ⟨t, ht, e⟩ := apv.1 hm
  cases e
  have k := h t ht
  obtain ⟨F, _, _, _, e⟩ := k.ex
  exact ⟨e.symm, k.lo, k.hi⟩
 ·have hm : (cs, i, m) ∈ T.map fun t => (bI t.src, t.l, t.m) := hm
  obtain ⟨t, ht, e⟩ := apv.1 hm
  cases e
  obtain ⟨F, h1, _, h3, _⟩ := (h t ht).ex
  obtain ⟨hj', rfl⟩ := qJ hc
  show some (rho (nm t.src j)) = some (rho t.m)
  rw [h1 j hj', h3, hj, apJ]
 ·have hm : (cs, i, m, ds) ∈ T.map fun t => (bI t.src, t.l, t.m + 1, bI t.dst) := hm
  obtain ⟨t, ht, e⟩ := apv.1 hm
  cases e
  obtain ⟨F, h1, h2, h3, h4⟩ := (h t ht).ex
  refine ⟨by simp [bI], fun j c d hc hd => ?_⟩
  obtain ⟨hj, rfl⟩ := qJ hc
  obtain ⟨_, rfl⟩ := qJ hd
  refine ⟨F j, by show some _ = some _; rw [h1 j hj], ?_⟩
  show some (rho (nm t.dst j)) = some _
  rw [h2 j hj]
  unfold bump
  by_cases e : rho t.l = (j : Int)
  ·rw [if_pos e, decide_eq_true e, h4, h3, e, apJ]
   rfl
  ·rw [if_neg e, decide_eq_false e]
   show some (F j + 0) = _
   rw [Int.add_zero]
theorem gV {D : FnD} {q : At} {fs : List (Nat -> Int)} {tail : List Int} {b : Nat} {f : Nat -> Int} (h : fs[b]? = some f) {j : Nat} (hj : j < 16) : aF (aK D q (bU fs ++ tail)) (nm b j) = f j := by
 show aF _ (77 + (16 * b + j)) = _
 rw [fQ, Gf fs tail b j f h hj]
theorem Fa {D : FnD} {q : At} {fs : List (Nat -> Int)} {tail : List Int} {n : Nat} (hn : fs.length = n) (j : Nat) : aF (aK D q (bU fs ++ tail)) (77 + (16 * n + j)) = aF tail j := by
 rw [fQ, <- hn, Y2]
def anm (b : Nat) (es : List E) (pick : List Bool -> Nat) (j : Nat) : Upd := ⟨.xi .i64 (nm b j), es, fun bs => .xi .i64 (nm (pick bs) j)⟩
def og (b : Nat) (es : List E) (pick : List Bool -> Nat) : List Upd := (apu 16).map (anm b es pick)
theorem dI {b1 b2 : Base} {b : Nat} {es : List E} {pick : List Bool -> Nat} (h : ∀ j, j < 16 -> b1.rho (nm (pick (es.map (E.num b1.rho))) j) = b2.rho (nm b j)) : ∀ u ∈ og b es pick, iI b1 b2 u := by
 intro u hu r v hv
 obtain ⟨j, hj, rfl⟩ := apv.1 hu
 have hv : v = .int .i64 (b1.rho (nm (pick (es.map (E.num b1.rho))) j)) := hv
 show v = .int .i64 (b2.rho (nm b j))
 rw [hv, h j (apy.1 hj)]
def a1a (b src l : Nat) (e : E) : List Upd := (apu 16).map fun j => ⟨.xe [(nm b j, 1)], [e], fun bs => bif bs.headD false then .xe [(l, (j : Int)), (nm src j, 1)] else .xe [(nm src j, 1)]⟩
theorem Rw {b1 b2 : Base} {b src l : Nat} {e : E} (h : ∀ j, j < 16 -> (b2.rho (nm b j) = 1 ↔ ((e.num b1.rho = true /\ b1.rho l = (j : Int)) \/ b1.rho (nm src j) = 1))) : ∀ u ∈ a1a b src l e, iI b1 b2 u := by
 intro u hu r v hv
 obtain ⟨j, hj, rfl⟩ := apv.1 hu
 have hj := apy.1 hj
 have hv : @VS b1 r (bif e.num b1.rho then .xe [(l, (j : Int)), (nm src j, 1)] else .xe [(nm src j, 1)]) v := hv
 show v = .bool (decide (b2.rho (nm b j) = 1) || false)
 rw [apB]
 have hk := h j hj
 by_cases he : e.num b1.rho = true
 ·rw [he, cond_true] at hv
  have hv : v = .bool (decide (b1.rho l = (j : Int)) || (decide (b1.rho (nm src j) = 1) || false)) := hv
  rw [hv, apB]
  congr 1
  by_cases h1 : b1.rho l = (j : Int) <;> by_cases h2 : b1.rho (nm src j) = 1 <;> simp [h1, h2, he] at hk |- <;> simp [hk]
 ·rw [Bool.not_eq_true] at he
  rw [he, cond_false] at hv
  have hv : v = .bool (decide (b1.rho (nm src j) = 1) || false) := hv
  rw [hv, apB]
  congr 1
  by_cases h2 : b1.rho (nm src j) = 1 <;> simp [h2, he] at hk |- <;> simp [hk]
def qg (b : Nat) : List Upd := (apu 16).map fun j => isU (.xi .i64 (nm b j)) (.int .i64 0)
theorem uX {b1 b2 : Base} {b : Nat} (h : ∀ j, j < 16 -> b2.rho (nm b j) = 0) : ∀ u ∈ qg b, iI b1 b2 u := by
 intro u hu r v hv
 obtain ⟨j, hj, rfl⟩ := apv.1 hu
 have hv : v = .int .i64 0 := hv
 show v = .int .i64 (b2.rho (nm b j))
 rw [hv, h j (apy.1 hj)]
def DT (b : Nat) : List Upd := (apu 16).map fun j => isU (.xe [(nm b j, 1)]) (.bool false)
theorem IY {b1 b2 : Base} {b : Nat} (h : ∀ j, j < 16 -> b2.rho (nm b j) = 0) : ∀ u ∈ DT b, iI b1 b2 u := by
 intro u hu r v hv
 obtain ⟨j, hj, rfl⟩ := apv.1 hu
 have hv : v = .bool false := hv
 show v = .bool (decide (b2.rho (nm b j) = 1) || false)
 rw [hv, h j (apy.1 hj)]
 rfl
def iT (b src : Nat) : List Upd := og b [] fun _ => src
def lQ (b src : Nat) : List Upd := (apu 16).map fun j => isU (.xe [(nm b j, 1)]) (.xe [(nm src j, 1)])
theorem iO {b1 b2 : Base} {b src : Nat} (h : ∀ j, j < 16 -> b1.rho (nm src j) = b2.rho (nm b j)) : ∀ u ∈ lQ b src, iI b1 b2 u := by
 intro u hu
 obtain ⟨j, hj, rfl⟩ := apv.1 hu
 exact made.Wq (h j (apy.1 hj))
theorem dQ {b1 b2 : Base} {us vs : List Upd} (h : ∀ u ∈ us, iI b1 b2 u) (k : ∀ u ∈ vs, iI b1 b2 u) : ∀ u ∈ us ++ vs, iI b1 b2 u := fun u hu => (List.mem_append.1 hu).elim (h u) (k u)
theorem Nc {P : Program} {b bo : Base} {c : Code} {hd : Nat -> St} {s1 : St} {x : X} (hx : x ≠ .normal) {N : Nat} (step : ∀ k, k < N -> gZ P b b c (hd k) .normal (hd (k + 1))) (last : gZ P b bo c (hd N) x s1) :
  ∀ m k, k + m = N -> ∀ {r : Ren} {B : Nat} {a : Act} {w : World}, @Rel b (hd k) r B a w -> ∀ (f : Frame) (K : List Item) (cs : List Frame),
   ∃ e a' w', Goes bo B (hd k).h r a w x s1 e a' w' /\ Arrives P (lone (f.at a (.code c :: .inLoop c :: K)) cs w) f K cs e a' w'
 | 0, k, hk, r, B, a, w, hr, f, K, cs => by
  obtain rfl : k = N := by omega
  obtain ⟨e, a1, w1, ho, harr⟩ := last.go _ _ _ _ hr f (.inLoop c :: K) cs
  refine ⟨e, a1, w1, ho, .pass (x := .inLoop c) rfl (fun _ _ => .inl ?_) harr⟩
  intro he
  subst he
  cases x <;> simp [Goes, XR] at ho
  exact hx rfl
 | m + 1, k, hk, r, B, a, w, hr, f, K, cs => by
  obtain ⟨e, a1, w1, ⟨h3, r1, h4, h5, h6⟩, harr⟩ := (step k (by omega)).go _ _ _ _ hr f (.inLoop c :: K) cs
  cases e <;> simp only [XR] at h3
  obtain ⟨e2, a2, w2, ⟨k3, r2, k4, k5, k6⟩, harr2⟩ := Nc hx step last m (k + 1) (by omega) h4 f K cs
  exact ⟨e2, a2, w2, ⟨k3, r2, k4, Adv.trans' (Parts.ok hr).dom (Parts.ok h4).dom h5 k5, k6.trans h6⟩, .of_steps (Steps.trans harr (.one step_inLoop)) harr2⟩
theorem Ej {P : Program} {bo b : Base} {c : Code} {d : Bd} {us : List Upd} {hd : Nat -> St} {s1 : St} {x : X} (hx : x ≠ .normal) {N : Nat} (ag : Agree bo b d) (hu : ∀ u ∈ us, iI bo b u)
  (step : ∀ k, k < N -> gZ P b b c (hd k) .normal (hd (k + 1))) (last : gZ P b bo c (hd N) x s1) (tag : Nat) (K : Know) (ok : aG K bo.rho bo.sig) : @aO (bo.aH K ok) P (iW tag d (@thU K us) (hd 0) x s1) c := by
 intro fl B s s' y r a w hr hl
 unfold iW at hl
 cases hc : (Nat.beq c.tag tag && Nat.beq fl 0 && Nat.beq s.h.next (hd 0).h.next && wG d (@thU K us) (hd 0) s) <;> rw [hc] at hl <;> simp only [cond_true, cond_false] at hl
 ·cases hl
 cases hl
 simp only [apz] at hc
 obtain ⟨⟨⟨_, hf⟩, hnx⟩, hfit⟩ := hc
 obtain rfl := apG hf
 have hnx := apG hnx
 obtain ⟨k1, k2⟩ := xJ (ag.aH ok) (@Zy (bo.aH K ok) b us hu) hfit hr
 have hadv := k2 (Parts.ok hr).n hnx (@Adv.refl (bo.aH K ok) 0 s.h r B w (@Rel.i (bo.aH K ok) _ _ _ _ _ hr)) (fun l _ h => absurd h (Nat.not_lt_zero l))
 intro f K' cs
 obtain ⟨e, a', w', ⟨g1, r', g2, g3, g4⟩, harr⟩ := Nc hx step last N 0 (by omega) k1 f K' cs
 exact ⟨e, a', w', ⟨g1, r', Rel.aH bo ok g2, Adv.trans' (Parts.ok hr).dom (Parts.ok k1).dom hadv g3, g4⟩, .of_steps (.one step_loop) harr⟩
end Am
namespace twos
open Go.RowKit Am
def f : FuncId := 34
def F : Func := Tryz.f34
def fO : FuncId := 98
def FO : Func := Tryz.f98
def fV : Code := dW F 0
def bf : Code := dW F 1
def ig : Code := dW F 2
def iG : Code := dW FO 0
def on : S := .fn 61 [(2, 0), (3, 0)]
def hpT (a p s i : Nat) : Hp := [(4, ⟨bI s, true⟩), (3, ⟨bI p, true⟩), (2, ⟨bI a, true⟩), (1, ⟨kH i, true⟩), (0, ⟨bT, true⟩)]
def keep : List (Nat × S) := [(1, .ptr 0 0), (2, .ptr 1 0), (4, .ptr 2 0), (5, .ptr 3 0), (6, .ptr 4 0)]
def RI : List (Nat × S) := keep ++ [(7, on), (16, .rv 1), (17, .xi .i64 3)]
def yR : List (Nat × S) := RI ++ [(18, .xi .i64 4), (9, .ptr 5 0)]
def hpB (a p s i : Nat) : Hp := (5, ⟨lJ, true⟩) :: hpT a p s i
def hdO : St := ⟨iU F.ntmps (RI ++ [(18, .xi .i64 4)]), ⟨hpT 0 1 2 3, 5⟩⟩
def hdI : St := ⟨iU F.ntmps (yR ++ [(23, .rv 3), (24, .xi .i64 7), (25, .xi .i64 21)]), ⟨hpB 0 1 2 3, 6⟩⟩
def sNI : St := ⟨iU F.ntmps yR, ⟨hpB 4 5 6 7, 6⟩⟩
def sNO : St := ⟨iU F.ntmps keep, ⟨hpT 0 1 2 3, 5⟩⟩
def xQ : List E := [isE 0 3, .and (.or (isE 0 2) (isE 0 4)) (.not (isE 20 1)), isE 0 1, .and (isE 0 1) (.or (isE 4 4) (isE 4 5)), ands [isE 0 1, .not (.or (isE 4 4) (isE 4 5)), .not (isE 7 1)], ands [isE 0 1, .not (.or (isE 4 1) (.or (isE 4 4) (isE 4 5))), .not (isE 12 1)]]
def jy : List Bool -> Nat
 | [f, sa, p, rp, ra, rb] => bif f then 1 else bif sa then 2 else bif p then (bif rp then 4 else bif ra then (bif rb then 6 else 5) else bif rb then 7 else 3) else 0
 | _ => 0
def rowOf (s : Nat) : Nat := bif Nat.beq s 0 then 0 else 3 + s
def O5 : E := ands [isE 0 1, isE 4 1, isE 7 3, isE 10 0, isE 11 0]
def Jk : E := ands [isE 0 1, isE 4 4, isE 6 3]
def xM (e : E) : E := e.ren (24 + ·)
def aob : E := ands [xM Jk, isE 26 0, isE 27 0, .not (isE 75 1)]
def trI : List Cnt := [⟨0, 4, 49, 285⟩, ⟨0, 5, 46, 287⟩, ⟨0, 6, 25, 289⟩, ⟨6, 7, 41, 291⟩, ⟨6, 8, 33, 293⟩, ⟨8, 9, 38, 295⟩, ⟨6, 10, 38, 297⟩, ⟨1, 11, 33, 299⟩, ⟨2, 12, 25, 301⟩]
def usI : List Upd := isU (.xi .i64 21) (.xi .i64 22) :: (og 0 (xQ.map xM) (fun bs => rowOf (jy bs)) ++ (og 1 [xM O5] (fun bs => bif bs.headD false then 11 else 1) ++ (og 2 [aob] (fun bs => bif bs.headD false then 12 else 2) ++ a1a 3 3 25 (xM Jk))))
def a8f (k : Nat) (t : HT) : HT := .by k 1 t (.by k 2 t t)
def am1 : HT := .by 31 1 .leaf (.by 31 2 .leaf (.by 31 3 .leaf (.by 31 4 (.both 34 1 (.both 35 1 .leaf)) .leaf)))
def ap5 : HT := .by 30 3 .leaf (.by 30 4 (.both 26 1 (.both 27 1 (.both 75 1 .leaf))) .leaf)
def asT : HT := .on 28 1 .leaf (.on 28 2 am1 (.on 28 3 (a8f 31 (a8f 36 .leaf)) (.on 28 4 (a8f 31 (a8f 36 .leaf)) (.on 28 5 ap5 (.on 28 6 .leaf .leaf)))))
def stT : HT := .on 24 1 .leaf (.on 24 2 asT (.on 24 3 (a8f 44 .leaf) (.on 24 4 .leaf (.on 24 5 (a8f 44 .leaf) .leaf))))
def lV (L : Lf) (i : Nat) : Lf := (L.lo i 0).hi i 15
def LI (L : Lf) : Lf := lV (lV (lV (lV (lV (lV L 49) 25) 33) 38) 41) 46
def L1 : Lf := LI (((Lf.of (fJ ++ [])).pin 6 1).pin 23 1)
def L3 : Lf := ((Lf.of (fJ ++ [])).pin 6 1).pin 23 0
def tbI : Tabs := bW.app (iQ.app a6G)
theorem kE : aJ (dU (dH iq tbI aZ) f (UU trI) [(a5K, true)] usI ⟨21, 0, 5⟩ bf hdI .normal hdI) stT L1 = true := by kernel_rfl
theorem KJ : aJ (dU (dH iq (bW.app iQ) aZ) f eU [] (iT 4 0 ++ (iT 5 1 ++ (iT 6 2 ++ lQ 7 3))) ⟨21, 0, 5⟩ bf hdI (.exit 2) sNI) .leaf L3 = true := by kernel_rfl
def hdA : St := ⟨iU FO.ntmps [(1, .bool true), (2, on), (8, .rv 4), (9, .xi .i64 17), (10, .xi .i64 50)], ⟨[(3, ⟨bI 1, true⟩), (2, ⟨bI 0, true⟩), (4, ⟨bI 4, true⟩), (1, ⟨kH 5, true⟩), (0, ⟨bT, true⟩)], 8⟩⟩
def sNA : St := ⟨iU FO.ntmps [], ⟨hpT 10 11 6 7, 8⟩⟩
def trA : List Cnt := [⟨0, 2, 55, 173⟩, ⟨1, 3, 55, 175⟩]
def F9 : E := .not (isE 53 1)
def YD : E := ands [isE 53 3, isE 56 0, isE 57 0]
def usA : List Upd := isU (.xi .i64 50) (.xi .i64 51) :: (og 0 [F9] (fun bs => bif bs.headD false then 2 else 0) ++ (og 1 [YD] (fun bs => bif bs.headD false then 3 else 1) ++ (iT 4 4 ++ lQ 5 5)))
def aoF : HT := .by 53 1 .leaf (.by 53 2 .leaf (.by 53 3 .leaf (.by 53 4 (.both 56 1 (.both 57 1 .leaf)) .leaf)))
def LA : Lf := lV (((Lf.of (fJ ++ [])).pin 6 1).pin 52 1) 55
def LA0 : Lf := ((Lf.of (fJ ++ [])).pin 6 1).pin 52 0
theorem EL : aJ (dU (dH iq (bW.app (iQ.app ahq)) aZ) fO (UU trA) [] usA ⟨21, 0, 5⟩ iG hdA .normal hdA) aoF LA = true := by kernel_rfl
theorem N7 : aJ (dU (dH iq (bW.app iQ) aZ) fO eU [] (iT 10 0 ++ (iT 11 1 ++ (iT 6 4 ++ lQ 7 5))) ⟨21, 0, 5⟩ iG hdA (.exit 0) sNA) .leaf LA0 = true := by kernel_rfl
def trO : List Cnt := [⟨4, 8, 11, 269⟩, ⟨4, 9, 18, 271⟩]
def us0 : List Upd := isU (.xi .i64 21) (.int .i64 0) :: (iT 0 0 ++ (iT 1 1 ++ (iT 2 2 ++ lQ 3 3)))
def us1 : List Upd := isU (.xi .i64 50) (.int .i64 0) :: (iT 0 9 ++ (iT 1 5 ++ (iT 4 6 ++ lQ 5 7)))
def nK (K : Know) : Loops := iW 8 ⟨21, 0, 5⟩ (@thU K us0) hdI (.exit 2) sNI
def rowA (K : Know) : Loops := iW 2 ⟨21, 0, 5⟩ (@thU K us1) hdA (.exit 0) sNA
def a2H (K : Know) : FuncId -> Loops := dR [(f, nK K), (fO, rowA K)]
def brN : E := .and (isE 8 2) (.not (isE 9 1))
def caN : E := isE 8 4
def usO : List Upd := isU (.xi .i64 4) (.xi .i64 5) :: (og 0 [brN, caN] (fun bs => bif bs.headD false then 8 else bif (bs.drop 1).headD false then 10 else 4) ++ (og 1 [caN] (fun bs => bif bs.headD false then 11 else 5) ++ (iT 2 6 ++ lQ 3 7)))
def outT : HT := .on 8 2 .leaf (.on 8 3 (.by 9 1 .leaf (.by 9 2 .leaf .leaf)) (.on 8 4 .leaf (.on 8 5 .leaf .leaf)))
def LO : Lf := lV (lV ((Lf.of (fJ ++ [])).pin 6 1) 11) 18
def LO0 : Lf := (Lf.of (fJ ++ [])).pin 6 0
theorem Ns : aJ (dU (dH iq (bW.app iQ) a2H) f (UU trO) [] usO ⟨4, 0, 3⟩ fV hdO .normal hdO) outT LO = true := by kernel_rfl
theorem KR : aJ (dU (dH iq bW aZ) f eU [] (iT 0 0 ++ (iT 1 1 ++ (iT 2 2 ++ lQ 3 3))) ⟨4, 0, 3⟩ fV hdO (.exit 0) sNO) .leaf LO0 = true := by kernel_rfl
def frT : Fr := upd sNO.fr 75 (V.g (kH 3))
def hdT (t : Nat) : St := ⟨upd frT 76 (V.s (.int .i64 t)), ⟨hpT 0 1 2 3, 5⟩⟩
def sNT : St := ⟨frT, ⟨hpT 0 1 2 3, 5⟩⟩
def sRT : St := ⟨upd frT 3 (V.s (.bool false)), ⟨hpT 0 1 2 3, 5⟩⟩
def a2E (t : Nat) : E := imp (isE (nm 3 t) 1) (ands [.lt 0 t, isE (nm 0 t) 2, isE (nm 1 t) 1, isE (nm 2 t) 1])
def a3w (t : Nat) : HT := .by (nm 3 t) 1 .leaf (.by 0 t (.by (nm 0 t) 2 .leaf (.by (nm 0 t) 3 (.by (nm 1 t) 1 .leaf (.by (nm 1 t) 2 (.by (nm 2 t) 1 .leaf (.by (nm 2 t) 2 .leaf .leaf)) .leaf)) .leaf)) .leaf)
def Jl : Int × Int := (-9223372036854775808, 9223372036854775807)
def LT : Lf := Lf.of (fJ ++ (apH 48 Jl ++ apH 16 ivB))
def adz (t : Nat) : Bool := aJ (dU (dH iq bW aZ) f eU [(a2E t, true)] [] ⟨141, 0, 3⟩ ig (hdT t) .normal (hdT (t + 1))) (a3w t) LT
def amF (t : Nat) : Bool := aJ (dU (dH iq bW aZ) f eU [(a2E t, false)] [] ⟨141, 0, 3⟩ ig (hdT t) .ret sRT) (a3w t) LT
theorem stepT : ((apu 16).all adz) = true := by kernel_rfl
theorem afg : ((apu 16).all amF) = true := by kernel_rfl
theorem XK : aJ (dU (dH iq bW aZ) f eU [] [] ⟨141, 0, 3⟩ ig (hdT 16) (.exit 4) sNT) .leaf LT = true := by kernel_rfl
def ao5 (K : Know) : Loops := iW 5 ⟨4, 0, 3⟩ (@thU K (isU (.xi .i64 4) (.int .i64 0) :: (qg 0 ++ (qg 1 ++ (qg 2 ++ DT 3))))) hdO (.exit 0) sNO
def rowT (x : X) (s1 : St) (K : Know) : Loops := iW 19 ⟨141, 0, 3⟩ (@thU K []) (hdT 0) x s1
def adZ (x : X) (s1 : St) (K : Know) : FuncId -> Loops := dR [(f, ao5 K), (f, rowT x s1 K)]
def als (r : Bool) : V := .t [.g (kH 3), .s (.bool r)]
theorem anM : aJ (kX (dH iq bW (adZ (.exit 4) sNT)) f eU [] [] (fun _ => als true) [.g bT]) .leaf LT = true := by kernel_rfl
theorem vF : aJ (kX (dH iq bW (adZ .ret sRT)) f eU [] [] (fun _ => als false) [.g bT]) .leaf LT = true := by kernel_rfl
theorem XD : fM (F.body.getD .skip) 0 5 = true := by kernel_rfl
theorem VI : fM fV 0 8 = true := by kernel_rfl
theorem DR : fM (F.body.getD .skip) 1 8 = true := by kernel_rfl
theorem aan : fM (F.body.getD .skip) 2 19 = true := by kernel_rfl
theorem Va : fM (FO.body.getD .skip) 0 2 = true := by kernel_rfl
end twos
namespace Am
open Go.RowKit
def acc {α : Type} (f : α -> Int) : List α -> Int
 | [] => 0
 | x :: r => f x + acc f r
theorem a2a {α : Type} (f : α -> Int) : ∀ a b : List α, acc f (a ++ b) = acc f a + acc f b
 | [], b => by simp [acc]
 | x :: a, b => by rw [List.cons_append, acc, acc, a2a f a b]; omega
theorem qW {α : Type} (f : α -> Int) (l : List α) (d : α) {k : Nat} (hk : k < l.length) : acc f (l.take (k + 1)) = acc f (l.take k) + f (l.getD k d) := by
 rw [List.take_succ_eq_append_getElem hk, a2a, apC, apF hk]
 simp [acc]
theorem sQ {α : Type} (f : α -> Int) (c : Nat) : ∀ l : List α, (∀ x ∈ l, 0 <= f x /\ f x <= c) -> 0 <= acc f l /\ acc f l <= ((c * l.length : Nat) : Int)
 | [], _ => by simp [acc]
 | x :: r, h => by
  obtain ⟨h1, h2⟩ := h x (by simp)
  obtain ⟨h3, h4⟩ := sQ f c r fun y hy => h y (by simp [hy])
  rw [acc, apK, Nat.mul_succ]
  omega
theorem gI (b : Bool) : 0 <= b2i b /\ b2i b <= 1 := by cases b <;> decide
def cnt (ls : List Int) (j : Nat) : Int := acc (fun l => b2i (decide (l = (j : Int)))) ls
theorem Dw {F : Nat -> Int} {l : Int} {M : Int} (h : ∀ j, 0 <= F j /\ F j <= M) : ∀ j, 0 <= bump F l j /\ bump F l j <= M + 1 := fun j => by
 have := h j
 have := gI (decide (l = (j : Int)))
 unfold bump
 omega
theorem jG {D : FnD} {q : At} {fs : List (Nat -> Int)} {tail : List Int} {t : Cnt} {n N : Nat} {F : Nat -> Int} (hn : fs.length = N) (h1 : fs[t.src]? = some F) (h2 : fs[t.dst]? = some (bump F (aF (aK D q (bU fs ++ tail)) t.l))) (hm : t.m = 77 + (16 * N + n))
  (e0 : aF tail n = F (aF (aK D q (bU fs ++ tail)) t.l).toNat) (e1 : aF tail (n + 1) = F (aF (aK D q (bU fs ++ tail)) t.l).toNat + 1) {M : Int} (hb : ∀ j, 0 <= F j /\ F j <= M) (hM : M <= 1000000) : abr (aF (aK D q (bU fs ++ tail))) t := by
 have m0 : aF (aK D q (bU fs ++ tail)) t.m = F (aF (aK D q (bU fs ++ tail)) t.l).toNat := by rw [hm, Fa hn, e0]
 have m1 : aF (aK D q (bU fs ++ tail)) (t.m + 1) = F (aF (aK D q (bU fs ++ tail)) t.l).toNat + 1 := by
  rw [hm, show 77 + (16 * N + n) + 1 = 77 + (16 * N + (n + 1)) by omega, Fa hn, e1]
 have hb := hb (aF (aK D q (bU fs ++ tail)) t.l).toNat
 exact ⟨⟨F, fun j hj => gV h1 hj, fun j hj => gV h2 hj, m0, by rw [m1, m0]⟩, by rw [m1]; omega, by rw [m1]; omega⟩
def noT (giv : List (E × Bool)) (L : Lf) : Bool := @N9 (L.jq ⟨[], xZ.nought⟩) giv
theorem cannot {giv : List (E × Bool)} {t : HT} {L0 : Lf} {rho : Nat -> Int} (h : aJ (noT giv) t L0 = true) (h0 : L0.Holds rho (fun _ => [])) (hg : ∀ p ∈ giv, p.1.num rho = p.2) : False := by
 obtain ⟨L, hL, ht⟩ := oO h h0
 have ok : aG (L.jq ⟨[], xZ.nought⟩) rho (fun _ => []) := Lf.okX hL ⟨fun _ _ _ h => (by cases h), vX.nought _⟩
 let b : Base := Base.known (L.jq ⟨[], xZ.nought⟩) ok 0 default
 have := @Et b giv hg
 unfold noT at ht
 rw [show @N9 (L.jq ⟨[], xZ.nought⟩) giv = false from this] at ht
 cases ht
theorem amk {k : Kd} {v : Value} (h : k.ok v) (hk : k ≠ .s) : -9223372036854775808 <= bf v /\ bf v <= 18446744073709551615 := by
 cases k with
 | s => exact absurd rfl hk
 | b => obtain ⟨b, rfl⟩ := h; cases b <;> decide
 | i k =>
  obtain ⟨n, rfl, h1, h2⟩ := h
  have : -9223372036854775808 <= k.min /\ k.max <= 18446744073709551615 := by cases k <;> decide
  show -9223372036854775808 <= n /\ n <= _
  omega
def ivU (n : Nat) : List (Int × Int) := apH n (-9223372036854775808, 18446744073709551615)
theorem Gw {n : Nat} {ks : List Kd} {us : List Value} (h : ak Kd.ok ks us) (hs : (ks.all fun k => match k with | .s => false | _ => true) = true) : (Lf.of (ivU n)).Holds (ah us) (fun _ => []) :=
 Lf.adx fun i p hp => by
  have hi := (apx.1 hp).1
  rw [ivU, List.length_replicate] at hi
  unfold ivU at hp
  rw [List.getElem?_replicate, if_pos hi] at hp
  cases hp
  cases hu : us[i]? with
  | none => unfold ah; rw [hu]; exact ⟨by decide, by decide⟩
  | some u =>
   have hl := h.len
   have hlt := (apx.1 hu).1
   obtain ⟨u', hu', ok⟩ := ak.nth h (n := i) (x := ks[i]'(by omega)) (by rw [aN]; exact apF _)
   rw [hu] at hu'
   cases hu'
   unfold ah
   rw [hu]
   refine amk ok fun e => ?_
   have := apw.1 hs (ks[i]'(by omega)) (List.getElem_mem _)
   rw [e] at this
   cases this
def a2R (e : E) (n c : Nat) : Bool := aJ (noT [(e, true)]) .leaf ((Lf.of (ivU n)).lo c 16) && aJ (noT [(e, true)]) .leaf ((Lf.of (ivU n)).hi c (-1))
theorem Yu {e : E} {n c : Nat} (hr : a2R e n c = true) {ks : List Kd} {us : List Value} (h : ak Kd.ok ks us) (hs : (ks.all fun k => match k with | .s => false | _ => true) = true) (hv : e.num (ah us) = true) : 0 <= ah us c /\ ah us c <= 15 := by
 unfold a2R at hr
 rw [apz] at hr
 have hg : ∀ p ∈ [(e, true)], p.1.num (ah us) = p.2 := fun p hp => by obtain rfl := apA.1 hp; exact hv
 constructor
 ·apply Decidable.byContradiction
  intro hc
  exact cannot hr.2 ((Gw h hs).hi (by omega)) hg
 ·apply Decidable.byContradiction
  intro hc
  exact cannot hr.1 ((Gw h hs).lo (by omega)) hg
theorem ao7 : ([25, 1, 9, 14, 17, 22].all (a2R dn 26)) = true := by kernel_rfl
theorem EI {st : List Value} (h : ak Kd.ok vW st) (hv : dn.val st = true) {c : Nat} (hc : c ∈ [25, 1, 9, 14, 17, 22]) : 0 <= ah st c /\ ah st c <= 15 :=
 Yu (apw.1 ao7 c hc) h rfl ((E.iR _ _).symm.trans hv)
theorem aok : a2R (aY 0) 5 2 = true := by kernel_rfl
theorem MX {op : List Value} (h : ak Kd.ok opK op) (hv : (aY 0).val op = true) : 0 <= ah op 2 /\ ah op 2 <= 15 := Yu aok h rfl ((E.iR _ _).symm.trans hv)
def amn (a b : E) : E := .or (.and a b) (.and (.not a) (.not b))
def jmG : List (E × Bool) := [(a8t, true), (amn (isE 14 1) (aY 1), true), (amn (isE 15 1) (dS 10), true)]
def jmT : HT := .both 14 1 (.both 14 2 (.both 15 1 (.both 15 2 .leaf)))
def MB (L : Lf) : Bool := aJ (noT jmG) jmT L
theorem ap0 : (MB ((Lf.of (ivU 16)).lo 3 16) && (MB ((Lf.of (ivU 16)).hi 3 (-1)) && (MB ((Lf.of (ivU 16)).lo 10 16) && MB ((Lf.of (ivU 16)).hi 10 (-1))))) = true := by kernel_rfl
theorem ape : MB (((Lf.of (ivU 16)).pin 13 0).lo 9 1) = true := by kernel_rfl
theorem tX {a b : E} {rho : Nat -> Int} (h : a.num rho = b.num rho) : (amn a b).num rho = true := by
 show ((a.num rho && b.num rho) || (!a.num rho && !b.num rho)) = true
 rw [h]
 cases b.num rho <;> rfl
theorem Fp {w : World} {v : Value} {pre : List Value} {sv : Value} {post : List Value} {els : List (List Value)} (hj : dO w v pre sv post els) (h : okJ pre els post = true) :
  (0 <= ah pre 3 /\ ah pre 3 <= 15) /\ (0 <= ah post 0 /\ ah post 0 <= 15) /\ ((els.all fun el => (aY 0).val el) = true \/ els.length = 0) := by
 have hl := iF hj
 have lp := fH hj
 let us : List Value := aU pre els post ++ (lI pre els post).map (Value.int .i64)
 have hk : ak Kd.ok (kJ ++ [.i .i64, .i .i64, .i .i64]) us := (qj hj).app ⟨⟨_, rfl, by have := gI (els.all fun el => (aY 0).val el); show (-9223372036854775808 : Int) <= _; omega, by have := gI (els.all fun el => (aY 0).val el); show _ <= (9223372036854775807 : Int); omega⟩, ⟨_, rfl, by have := gI ((aY 1).val (aU pre els post)); show (-9223372036854775808 : Int) <= _; omega, by have := gI ((aY 1).val (aU pre els post)); show _ <= (9223372036854775807 : Int); omega⟩, ⟨_, rfl, by have := gI ((dS 10).val (aU pre els post)); show (-9223372036854775808 : Int) <= _; omega, by have := gI ((dS 10).val (aU pre els post)); show _ <= (9223372036854775807 : Int); omega⟩, trivial⟩
 have h0 : (Lf.of (ivU 16)).Holds (ah us) (fun _ => []) := Gw hk rfl
 have ea : ∀ i, i < 13 -> ah us i = ah (aU pre els post) i := fun i hi => jE (by omega)
 have eb : ∀ j m, (lI pre els post)[j]? = some m -> ah us (13 + j) = m := fun j m hm => by
  show ah (aU pre els post ++ _) _ = _
  rw [kG hl]
  unfold ah
  rw [apE, hm]
  rfl
 have e13 : ah us 13 = b2i (els.all fun el => (aY 0).val el) := eb 0 _ rfl
 have e14 : ah us 14 = b2i ((aY 1).val (aU pre els post)) := eb 1 _ rfl
 have e15 : ah us 15 = b2i ((dS 10).val (aU pre els post)) := eb 2 _ rfl
 have sm : ∀ e : E, e.bd 13 = true -> e.num (ah us) = e.val (aU pre els post) := fun e he => by
  rw [E.iR]
  exact (E.jM (f := fun i => i) he ea ▸ by
   congr 1
   clear he
   induction e with
   | lt i c => rfl
   | zero l => simp [E.ren]
   | and a b ha hb => rw [E.ren, <- ha, <- hb]
   | or a b ha hb => rw [E.ren, <- ha, <- hb]
   | not a ha => rw [E.ren, <- ha])
 have one : ∀ i c, (isE i c).num (ah us) = decide (ah us i = c) := fun i c => by show (decide _ && true) = _; rw [Bool.and_true]
 have hg : ∀ p ∈ jmG, p.1.num (ah us) = p.2 := fun p hp => by
  simp only [jmG, List.mem_cons, List.not_mem_nil, or_false] at hp
  rcases hp with rfl | rfl | rfl
  ·unfold okJ at h
   rw [E.iR] at h
   exact h
  ·refine tX ?_
   rw [one, e14, made.eG, sm _ rfl]
  ·refine tX ?_
   rw [one, e15, made.eG, sm _ rfl]
 have c3 : ah us 3 = ah pre 3 := (ea 3 (by decide)).trans (by unfold aU; exact jE (by omega))
 have c10 : ah us 10 = ah post 0 := (ea 10 (by decide)).trans (by
  unfold aU
  rw [show 10 = 9 + 1 from rfl, kG lp]
  rfl)
 have c9 : ah us 9 = els.length := (ea 9 (by decide)).trans (jg hj)
 have r1 := ap0
 simp only [apz] at r1
 obtain ⟨r1, r2, r3, r4⟩ := r1
 refine ⟨⟨?_, ?_⟩, ⟨?_, ?_⟩, ?_⟩
 ·apply Decidable.byContradiction; intro hc; exact cannot r2 (h0.hi (by omega)) hg
 ·apply Decidable.byContradiction; intro hc; exact cannot r1 (h0.lo (by omega)) hg
 ·apply Decidable.byContradiction; intro hc; exact cannot r4 (h0.hi (by omega)) hg
 ·apply Decidable.byContradiction; intro hc; exact cannot r3 (h0.lo (by omega)) hg
 ·cases hb : (els.all fun el => (aY 0).val el) with
  | true => exact .inl rfl
  | false =>
   refine .inr (Decidable.byContradiction fun hc => ?_)
   rw [hb] at e13
   exact cannot ape ((h0.pin (i := 13) (c := 0) e13).lo (i := 9) (c := 1) (by rw [c9]; omega)) hg
end Am
end Go.Proofs.YtglmonlofejcgaaGreatDoor
