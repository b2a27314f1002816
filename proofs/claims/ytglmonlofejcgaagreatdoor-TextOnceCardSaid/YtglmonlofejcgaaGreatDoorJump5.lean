/- Texts of operands and rvalues, out of their cells. -/
import Derived.Test.YtglmonlofejcgaaGreatDoorTextVU
import Derived.Test.YtglmonlofejcgaaGreatDoorJump4
set_option maxRecDepth 100000
noncomputable section
open Bool renaming and_eq_true → apu, or_eq_true → apv, not_eq_true' → apw
open Nat renaming blt → apx, le_of_ble_eq_true → apy
open List renaming range → apz, getElem?_map → apA, all_eq_true → apB
set_option linter.unusedSectionVars false
set_option linter.unusedVariables false
namespace Go.Proofs.YtglmonlofejcgaaGreatDoor
namespace Am
open Go.RowKit
def jh (us : List Value) (o : Nat) : Opd := ⟨ah us o, ah us (o + 1), ah us (o + 2), decide (ah us (o + 3) = 1), ah us (o + 4)⟩
def OD (us : List Value) (o : Nat) : Rv := ⟨ah us o, jh us (o + 3), jh us (o + 8), ah us (o + 1), ah us (o + 2), ah us (o + 13), decide (ah us (o + 14) = 1), ah us (o + 15)⟩
theorem UH {us : List Value} {o : Nat} (h : (dS o).val us = true) (h0 : 0 <= ah us (o + 2)) : InP (ah us o) (ah us (o + 2)) := by
 simp only [dS, E.ands, E.val, apu, apw, decide_eq_true_eq, decide_eq_false_iff_not] at h
 exact ⟨by omega, by omega, h0, by omega⟩
theorem Lh {us : List Value} {o n : Nat} (h : (E.zero (zs o n)).val us = true) : ∀ i, i < n -> ah us (o + i) = 0 := by
 intro i hi
 simp only [E.val, zs, List.all_map, apB, List.mem_range, Function.comp, decide_eq_true_eq] at h
 exact h i hi
theorem eY {us : List Value} {i : Nat} {c : Int} (h : (E.zero [(i, c)]).val us = true) : ah us i = c := by
 simpa [E.val] using h
theorem UE {us : List Value} {o : Nat} (h : (aY o).val us = true) (hn : I64 (ah us (o + 1))) (h0 : 0 <= ah us (o + 4)) : (jh us o).Ok := by
 have h : ((E.zero [(o, 1)]).val us && (E.zero (zs (o + 2) 3)).val us || ((E.zero [(o, 2)]).val us || (E.zero [(o, 3)]).val us) && ((E.zero [(o + 1, 0)]).val us && (dS (o + 2)).val us)) = true := h
 simp only [apv, apu] at h
 rcases h with ⟨h1, h2⟩ | ⟨h1, h2, h3⟩
 ·have z := Lh h2
  have z0 := z 0 (by decide)
  have z1 := z 1 (by decide)
  have z2 := z 2 (by decide)
  refine .inl ⟨eY h1, hn, z0, ?_, z2⟩
  show decide (ah us (o + 3) = 1) = false
  rw [show o + 3 = o + 2 + 1 by omega, z1]
  rfl
 ·refine .inr ⟨?_, eY h2, UH h3 h0⟩
  rcases h1 with h1 | h1
  ·exact .inl (eY h1)
  ·exact .inr (eY h1)
theorem Dq {us : List Value} {o : Nat} (h : (E.zero (zs o 5)).val us = true) : jh us o = Opd.no := by
 have z := Lh h
 unfold jh
 rw [z 1 (by decide), z 2 (by decide), z 3 (by decide), z 4 (by decide), show ah us o = 0 from z 0 (by decide)]
 rfl
structure RvR (us : List Value) (o : Nat) : Prop where
 n : I64 (ah us (o + 4))
 m : I64 (ah us (o + 9))
 f : 0 <= ah us (o + 7)
 g : 0 <= ah us (o + 12)
 p : 0 <= ah us (o + 15)
theorem amd {us : List Value} {o : Nat} (h : (nM o).val us = true) (k : RvR us o) : (OD us o).Ok := by
 have hA : (aY (o + 3)).val us = true -> (jh us (o + 3)).Ok := fun h => UE h k.n k.f
 have hB : (aY (o + 8)).val us = true -> (jh us (o + 8)).Ok := fun h => UE h k.m k.g
 have hP : (dS (o + 13)).val us = true -> InP (ah us (o + 13)) (ah us (o + 15)) := fun h => UH h k.p
 have bare : (E.zero (zs (o + 13) 3)).val us = true -> ah us (o + 13) = 0 /\ decide (ah us (o + 14) = 1) = false /\ ah us (o + 15) = 0 := fun h => by
  have z := Lh h
  refine ⟨z 0 (by decide), ?_, z 2 (by decide)⟩
  rw [show o + 14 = o + 13 + 1 by omega, z 1 (by decide)]
  rfl
 simp only [nM, E.ands] at h
 rw [E.val, apv] at h
 rcases h with h | h
 ·simp only [E.val, apu] at h
  obtain ⟨h1, h2, h3, h4, h5, h6⟩ := h
  obtain ⟨b1, b2, b3⟩ := bare h4
  exact .inl ⟨eY h1, hA h2, Dq h3, eY h5, eY h6, b1, b2, b3⟩
 rw [E.val, apv] at h
 rcases h with h | h
 ·simp only [E.val, apu, apw, decide_eq_true_eq, decide_eq_false_iff_not] at h
  obtain ⟨h1, h2, h3, h4, h5, h6, h7⟩ := h
  obtain ⟨b1, b2, b3⟩ := bare h4
  exact .inr (.inl ⟨eY h1, hA h2, hB h3, ⟨by show 1 <= ah us (o + 1); omega, by show ah us (o + 1) <= 6; omega⟩, eY h7, b1, b2, b3⟩)
 rw [E.val, apv] at h
 rcases h with h | h
 ·simp only [E.val, apu] at h
  obtain ⟨h1, h2, h3, h4, h5, h6⟩ := h
  obtain ⟨b1, b2, b3⟩ := bare h4
  exact .inr (.inr (.inl ⟨eY h1, hA h2, hB h3, eY h5, eY h6, b1, b2, b3⟩))
 rw [E.val, apv] at h
 rcases h with h | h
 ·simp only [E.val, apu, apw, decide_eq_true_eq, decide_eq_false_iff_not] at h
  obtain ⟨h1, h2, h3, h4, h5, h6, h7⟩ := h
  exact .inr (.inr (.inr (.inl ⟨eY h1, Dq h2, Dq h3, eY h5, ⟨by show 1 <= ah us (o + 2); omega, by show ah us (o + 2) <= 3; omega⟩, hP h4⟩)))
 ·simp only [E.val, apu] at h
  obtain ⟨h1, h2, h3, h4, h5, h6⟩ := h
  exact .inr (.inr (.inr (.inr ⟨eY h1, Dq h2, Dq h3, eY h5, eY h6, hP h4⟩)))
def tu (l : List UInt8) : List Nat := l.map UInt8.toNat
def a5S (ks : List Kd) (x : S) : Option (List Nat) := match x with
 | .int _ m => some (tu (bM m))
 | .xi .i64 i => bif Fz (nth ks i) then some [256 + i] else none
 | _ => none
def Zx (ks : List Kd) (pls : List Pl) (L : Lf) (xs : List S) (o : Nat) : Option (List Nat) :=
 ob (nth xs o) fun x => ob (nth xs (o + 1)) fun y => ob (nth xs (o + 2)) fun z => ob (GI L [x, y, z] ks.length pls) fun h => some [h]
def Pg (x : S) : Option Int := match x with | .int _ n => some n | _ => none
def opX (ks : List Kd) (pls : List Pl) (L : Lf) (xs : List S) (o : Nat) : Option (List Nat) :=
 ob (nth xs o) fun k => ob (Pg k) fun k =>
  bif decide (k = 1) then ob (nth xs (o + 1)) (a5S ks)
  else bif decide (k = 2) then ob (Zx ks pls L xs (o + 2)) fun p => some (tu Tz ++ p)
  else bif decide (k = 3) then ob (Zx ks pls L xs (o + 2)) fun p => some (tu RN ++ p)
  else none
def rvX (ks : List Kd) (pls : List Pl) (L : Lf) (xs : List S) (o : Nat) : Option (List Nat) :=
 ob (nth xs o) fun k => ob (Pg k) fun k =>
  bif decide (k = 1) then opX ks pls L xs (o + 3)
  else bif decide (k = 2) then ob (opX ks pls L xs (o + 3)) fun a => ob (nth xs (o + 1)) fun s => ob (Pg s) fun s => ob (opX ks pls L xs (o + 8)) fun b => some (a ++ (32 :: (sgn s).toNat :: 32 :: b))
  else bif decide (k = 3) then ob (opX ks pls L xs (o + 3)) fun a => ob (opX ks pls L xs (o + 8)) fun b => some (40 :: (a ++ (44 :: 32 :: (b ++ [41]))))
  else bif decide (k = 4) || decide (k = 5) then ob (nth xs (o + 2)) fun s => ob (Pg s) fun s => ob (Zx ks pls L xs (o + 13)) fun p => some (tu (Oj k s) ++ p)
  else none
theorem jI (sig : Nat -> List UInt8) : ∀ l : List UInt8, bH sig (tu l) = l
 | [] => rfl
 | c :: l => by
  have h : apx c.toNat 256 = true := by
   have := c.toNat_lt
   rw [Nat.blt_eq]
   exact this
  show (bif apx c.toNat 256 then [UInt8.ofNat c.toNat] else sig (c.toNat - 256)) ++ bH sig (tu l) = _
  rw [h, jI sig l]
  simp
section
variable [Base] {r : Ren} {L : Lf} {ks : List Kd} {pls : List Pl} {xs : List S} {us : List Value}
theorem yZ {x : S} {k : Int} (h : Pg x = some k) {v : Value} (hv : VS r x v) : bf v = k := by
 unfold Pg at h
 split at h
 ·cases h; cases hv; rfl
 ·cases h
theorem BG (ha : ak (VS r) xs us) {i : Nat} {x : S} (h : nth xs i = some x) : ∃ v, us[i]? = some v /\ VS r x v /\ ah us i = bf v := by
 obtain ⟨v, hv, hx⟩ := ak.nth ha h
 exact ⟨v, hv, hx, Ol hv⟩
theorem a2V (d : Dec ks Base.rho Base.sig) {x : S} {l : List Nat} (h : a5S ks x = some l) {v : Value} (hv : VS r x v) : bH Base.sig l = bM (bf v) := by
 unfold a5S at h
 split at h
 ·cases h; cases hv
  exact jI _ _
 ·rename_i i
  cases hi : Fz (nth ks i) <;> rw [hi] at h <;> simp only [cond_true, cond_false] at h
  ·cases h
  ·cases h; cases hv
   rw [gU]
   exact (d i (E8 hi)).1
 ·cases h
theorem zU (hL : L.Holds Base.rho Base.sig) (e : PlE ks.length pls Base.rho Base.sig) (ha : ak (VS r) xs us) {o : Nat} {l : List Nat} (h : Zx ks pls L xs o = some l) :
  bH Base.sig l = bn (ah us o) (decide (ah us (o + 1) = 1)) (ah us (o + 2)) := by
 obtain ⟨x, hx, h⟩ := aj h
 obtain ⟨y, hy, h⟩ := aj h
 obtain ⟨z, hz, h⟩ := aj h
 obtain ⟨n, hn, h⟩ := aj h
 cases h
 obtain ⟨u1, k1, v1, c1⟩ := BG ha hx
 obtain ⟨u2, k2, v2, c2⟩ := BG ha hy
 obtain ⟨u3, k3, v3, c3⟩ := BG ha hz
 obtain ⟨j, p, hj, rfl, hp, hok⟩ := zV hn
 have hv : ak (VS r) ((plT p).map L.nS) [u1, u2, u3] := by
  rw [hp]
  exact ⟨v1, v2, v3, trivial⟩
 have hu := V8 hL hv
 simp only [List.cons.injEq, and_true] at hu
 obtain ⟨e1, e2, e3⟩ := hu
 rw [gU, e j p hj (VB hL hok), c1, c2, c3, e1, e2, e3]
 simp only [bf]
 congr 1
 cases hd : decide (Base.rho p.2.1 = 1) <;> rfl
theorem vg (hL : L.Holds Base.rho Base.sig) (d : Dec ks Base.rho Base.sig) (e : PlE ks.length pls Base.rho Base.sig) (ha : ak (VS r) xs us) {o : Nat} {l : List Nat} (h : opX ks pls L xs o = some l) :
  bH Base.sig l = opT (jh us o) := by
 obtain ⟨x, hx, h⟩ := aj h
 obtain ⟨k, hk, h⟩ := aj h
 obtain ⟨u, k1, v1, c1⟩ := BG ha hx
 rw [yZ hk v1] at c1
 unfold opT
 rw [show (jh us o).k = k from c1]
 cases h1 : decide (k = 1) <;> rw [h1] at h <;> simp only [cond_true, cond_false] at h
 ·simp only [decide_eq_false_iff_not] at h1
  rw [if_neg h1]
  cases h2 : decide (k = 2) <;> rw [h2] at h <;> simp only [cond_true, cond_false] at h
  ·simp only [decide_eq_false_iff_not] at h2
   rw [if_neg h2]
   cases h3 : decide (k = 3) <;> rw [h3] at h <;> simp only [cond_true, cond_false] at h
   ·cases h
   ·obtain ⟨p, hp, h⟩ := aj h
    cases h
    rw [dD, jI, zU hL e ha hp]
    rfl
  ·simp only [decide_eq_true_eq] at h2
   rw [if_pos h2]
   obtain ⟨p, hp, h⟩ := aj h
   cases h
   rw [dD, jI, zU hL e ha hp]
   rfl
 ·simp only [decide_eq_true_eq] at h1
  rw [if_pos h1]
  obtain ⟨y, hy, h⟩ := aj h
  obtain ⟨u2, k2, v2, c2⟩ := BG ha hy
  rw [a2V d h v2, <- c2]
  rfl
theorem nR {sig : Nat -> List UInt8} {n : Nat} (h : n < 256) (l : List Nat) : bH sig (n :: l) = UInt8.ofNat n :: bH sig l := by
 show (bif apx n 256 then [UInt8.ofNat n] else sig (n - 256)) ++ bH sig l = _
 rw [show apx n 256 = true by rw [Nat.blt_eq]; exact h]
 rfl
theorem amS (hL : L.Holds Base.rho Base.sig) (d : Dec ks Base.rho Base.sig) (e : PlE ks.length pls Base.rho Base.sig) (ha : ak (VS r) xs us) {o : Nat} {l : List Nat} (h : rvX ks pls L xs o = some l) :
  bH Base.sig l = rvT (OD us o) := by
 obtain ⟨x, hx, h⟩ := aj h
 obtain ⟨k, hk, h⟩ := aj h
 obtain ⟨u, k1, v1, c1⟩ := BG ha hx
 rw [yZ hk v1] at c1
 unfold rvT
 rw [show (OD us o).k = k from c1]
 cases h1 : decide (k = 1) <;> rw [h1] at h <;> simp only [cond_true, cond_false] at h
 case true =>
  simp only [decide_eq_true_eq] at h1
  rw [if_pos h1, vg hL d e ha h]
  rfl
 simp only [decide_eq_false_iff_not] at h1
 rw [if_neg h1]
 cases h2 : decide (k = 2) <;> rw [h2] at h <;> simp only [cond_true, cond_false] at h
 case true =>
  simp only [decide_eq_true_eq] at h2
  obtain ⟨a, hA, h⟩ := aj h
  obtain ⟨s, hs, h⟩ := aj h
  obtain ⟨n, hn, h⟩ := aj h
  obtain ⟨b, hb, h⟩ := aj h
  cases h
  obtain ⟨u2, k2, v2, c2⟩ := BG ha hs
  rw [yZ hn v2] at c2
  rw [if_pos h2, dD, vg hL d e ha hA, nR (by decide), nR (UInt8.toNat_lt _), nR (by decide), vg hL d e ha hb]
  rw [show (OD us o).op = n from c2]
  simp [OD]
 simp only [decide_eq_false_iff_not] at h2
 rw [if_neg h2]
 cases h3 : decide (k = 3) <;> rw [h3] at h <;> simp only [cond_true, cond_false] at h
 case true =>
  simp only [decide_eq_true_eq] at h3
  obtain ⟨a, hA, h⟩ := aj h
  obtain ⟨b, hb, h⟩ := aj h
  cases h
  rw [if_pos h3, nR (by decide), dD, vg hL d e ha hA, nR (by decide), nR (by decide), dD, vg hL d e ha hb]
  rfl
 simp only [decide_eq_false_iff_not] at h3
 rw [if_neg h3]
 cases h4 : (decide (k = 4) || decide (k = 5)) <;> rw [h4] at h <;> simp only [cond_true, cond_false] at h
 ·cases h
 obtain ⟨s, hs, h⟩ := aj h
 obtain ⟨n, hn, h⟩ := aj h
 obtain ⟨p, hp, h⟩ := aj h
 cases h
 obtain ⟨u2, k2, v2, c2⟩ := BG ha hs
 rw [yZ hn v2] at c2
 rw [dD, jI, zU hL e ha hp, show (OD us o).bo = n from c2]
 rfl
theorem a1v {l : List Nat} {u : Value} (h : VS r (S.vG l) u) : u = .string ⟨(bH Base.sig l).toArray⟩ := by
 unfold S.vG at h
 cases hp : l.all (fun n => apx n 256) with
 | false => rw [hp] at h; exact h
 | true =>
  rw [hp] at h
  have h : u = .string ⟨(l.map UInt8.ofNat).toArray⟩ := h
  rw [qZ _ hp]
  exact h
end
def Texts (P : Program) (Q : World -> Prop) (F : FuncId) (ks : List Kd) (e : E) (T : List Value -> List UInt8) (val : List UInt8 -> Value) : Prop :=
 ∀ us, ak Kd.ok ks us -> e.val us = true -> ∀ w : World, Q w -> Calls P F #[.agg us.toArray] w fun x w' => x = .returned (val (T us)) /\ Below w.heap.size w w'
def vS1 (l : List UInt8) : Value := .string ⟨l.toArray⟩
def vS2 (l : List UInt8) : Value := .tuple #[.string ⟨l.toArray⟩, .int .i64 0]
def mS1 (x : S) : V := V.s x
def mS2 (x : S) : V := .t [.s x, .s (.int .i64 0)]
theorem Vj (b0 : Base) (r : Ren) (l : List Nat) (u : Value) (h : @VV b0 r (mS1 (S.vG l)) u) : u = vS1 (bH b0.sig l) := @a1v b0 r l u h
theorem VE (b0 : Base) (r : Ren) (l : List Nat) (u : Value) (h : @VV b0 r (mS2 (S.vG l)) u) : u = vS2 (bH b0.sig l) := by
 obtain ⟨us, rfl, h⟩ := h
 match us, h with
 | [x, y], ⟨h1, h2, _⟩ =>
  rw [@a1v b0 r l x h1, show y = .int .i64 0 from h2]
  rfl
def y5 (e : E) (ks : List Kd) (mk : S -> V) (exp : Option (List Nat)) (L : Lf) (r : R) : Bool :=
 Option.rec false (fun b => bif b then Option.rec false (fun l => vY (mk (S.vG l)) r) exp else true) (@E.abs (L.know (fD 0 ks)) ((bV 0 ks).map L.nS) e)
def pq (ks : List Kd) (L : Lf) : List S := (bV 0 ks).map L.nS
section
variable {F : FuncId} {ks : List Kd} {e : E} {T : List Value -> List UInt8} {val : List UInt8 -> Value} {pls : List Pl}
def aog (ks : List Kd) (pls : List Pl) (L : Lf) : aS := fun f a h fl => orR (ZI (L.know (fD 0 ks)) f a h fl) (amL L ks pls noO f a h fl)
def runT (F : FuncId) (ks : List Kd) (pls : List Pl) (L : Lf) : R := @runs (L.know (fD 0 ks)) (mY Tryz.prog) (nC Tryz.prog) (aog ks pls L) 30 15 F [.g (pq ks L)] ⟨[], 0⟩ 0
theorem F7 {mk : S -> V} (hmk : ∀ (b0 : Base) r l u, @VV b0 r (mk (S.vG l)) u -> u = val (bH b0.sig l)) (exp : Lf -> List S -> Option (List Nat))
  (hexp : ∀ (b0 : Base) (L : Lf) (r : Ren) (xs : List S) (us : List Value) (l : List Nat), L.Holds b0.rho b0.sig -> Dec ks b0.rho b0.sig -> PlE ks.length pls b0.rho b0.sig -> @ak _ _ (@VS b0 r) xs us -> exp L xs = some l -> bH b0.sig l = T us)
  (hpl : pls.all (fun p => decide (p.1 < ks.length) && decide (p.2.1 < ks.length) && decide (p.2.2 < ks.length)) = true) {sp : Sp}
  (hrun : ((sp.leaves (Lf.KI [(true, ks)] pls.length)).all fun L => y5 e ks mk (exp L (pq ks L)) L (runT F ks pls L)) = true) : Texts Tryz.prog dL F ks e T val := by
 intro us hk he w hw
 have hg : Gps [(true, ks)] [.agg us.toArray] us := ⟨us, [], (List.append_nil _).symm, ⟨hk, .inl ⟨rfl, rfl⟩⟩, rfl⟩
 have hks : eu [(true, ks)] = ks := by simp [eu]
 have hlen : us.length = ks.length := by have := hk.len; omega
 have kk := MV hg (JL us pls)
 have d := QJ hg (plX us pls)
 have ee : PlE ks.length pls (dw (jP us (plX us pls))) (fG (jP us (plX us pls))) := by
  rw [<- hlen]
  exact al8 (by rw [hlen]; exact hpl)
 rw [hks] at kk d
 have hl : (plX us pls).length = pls.length := by simp [plX]
 have hst := Lf.QZ hg (JL us pls)
 rw [hl] at hst
 obtain ⟨L, hm, hL⟩ := sp.cover hst
 have hp := apB.1 hrun L hm
 letI b0 : Base := base0 w (Lf.ok hL kk)
 have ha' : ak (VA r0) [.g (bV 0 ks)] [.agg us.toArray] :=
  yS (cs := jP us (plX us pls)) rfl rfl ((plX us pls).map fun x => .string ⟨x.toArray⟩) (gs := [(true, ks)]) (pre := []) (cs' := us) rfl hg
 have ha := Lf.yh hL ha'
 unfold y5 at hp
 cases hb : @E.abs (L.know (fD 0 ks)) ((bV 0 ks).map L.nS) e with
 | none => rw [hb] at hp; cases hp
 | some b =>
  rw [hb] at hp
  have ha2 := ha
  obtain ⟨⟨us', e1, hus⟩, _⟩ := ha2
  have e1 : Value.agg us.toArray = .agg us'.toArray := e1
  obtain rfl : us = us' := by simpa using e1
  have hbv := E.qA hus hb
  rw [he] at hbv
  subst hbv
  have hp : (Option.rec false (fun l => vY (mk (S.vG l)) (runT F ks pls L)) (exp L (pq ks L)) : Bool) = true := hp
  cases hx : exp L (pq ks L) with
  | none => rw [hx] at hp; cases hp
  | some l =>
   rw [hx] at hp
   obtain ⟨h', hr⟩ := zD hp
   have hS : Sound Tryz.prog (@runs (L.know (fD 0 ks)) (mY Tryz.prog) (nC Tryz.prog) (aog ks pls L) 30 15) :=
    @CJ w _ _ _ (Lf.ok hL kk) _ (@dZ (base0 w (Lf.ok hL kk)) _ _ _ (EK (base0 w (Lf.ok hL kk))) (NI hL kk d ee hw (YR _))) 30 15
   refine (iC w hw.size (fun _ _ => rfl) hS ha hr).mono fun x w' ⟨u, r', e1, e2, e3⟩ => ⟨?_, e3⟩
   rw [e1, hmk b0 _ _ _ e2, hexp b0 L r0 _ _ _ hL d ee hus hx]
end
def tlP : List Pl := [(0, (1, 2))]
def tlT : Sp := .cut 0 0 .leaf (.cut 0 16 (.cut 2 3 .leaf .leaf) .leaf)
theorem a1k : Texts Tryz.prog dL 70 kPl (dS 0) (fun us => bn (ah us 0) (decide (ah us 1 = 1)) (ah us 2)) vS2 := F7 VE (pls := tlP) (fun L xs => Zx kPl tlP L xs 0) (fun b0 L r xs us l hL d e ha h => @zU b0 r L kPl tlP xs us hL e ha 0 l h) (by kernel_rfl) (sp := tlT) (by kernel_rfl)
theorem a0j : Texts Tryz.prog dL 113 kPl (dS 0) (fun us => bn (ah us 0) (decide (ah us 1 = 1)) (ah us 2)) vS1 := F7 Vj (pls := tlP) (fun L xs => Zx kPl tlP L xs 0) (fun b0 L r xs us l hL d e ha h => @zU b0 r L kPl tlP xs us hL e ha 0 l h) (by kernel_rfl) (sp := tlT) (by kernel_rfl)
def tpP : List Pl := [(2, (3, 4))]
def anj : Lf := Lf.KI [(true, kOp)] tpP.length
def ajp : Sp := (.cut 0 1 .leaf (.cut 0 2 (.conj [(2, 0), (3, 0), (4, 0)] .leaf .leaf) (.cut 0 3 (.cut 1 0 .leaf (.cut 1 1 (.cut 2 0 .leaf (.cut 2 16 (.cut 4 3 .leaf .leaf) .leaf)) .leaf)) (.cut 0 4 (.cut 1 0 .leaf (.cut 1 1 (.cut 2 0 .leaf (.cut 2 16 (.cut 4 3 .leaf .leaf) .leaf)) .leaf)) .leaf))))
def a0V (L : Lf) : Bool := y5 (aY 0) kOp mS2 ((fun L xs => opX kOp tpP L xs 0) L (pq kOp L)) L (runT 69 kOp tpP L)
theorem ahl : (ajp.leaves anj).all a0V = true := by kernel_rfl
theorem LY : Texts Tryz.prog dL 69 kOp (aY 0) (fun us => opT (jh us 0)) vS2 := F7 VE (pls := tpP) (fun L xs => (fun L xs => opX kOp tpP L xs 0) L xs) (fun b0 L r xs us l hL d e ha h => @vg b0 r L kOp tpP xs us hL d e ha 0 l h) (by kernel_rfl) (sp := ajp) ahl
def a0p (L : Lf) : Bool := y5 (aY 0) kOp mS1 ((fun L xs => opX kOp tpP L xs 0) L (pq kOp L)) L (runT 115 kOp tpP L)
theorem aaY : (ajp.leaves anj).all a0p = true := by kernel_rfl
theorem Pz : Texts Tryz.prog dL 115 kOp (aY 0) (fun us => opT (jh us 0)) vS1 := F7 Vj (pls := tpP) (fun L xs => (fun L xs => opX kOp tpP L xs 0) L xs) (fun b0 L r xs us l hL d e ha h => @vg b0 r L kOp tpP xs us hL d e ha 0 l h) (by kernel_rfl) (sp := ajp) aaY
def iZ (sep : List UInt8) : List (List UInt8) -> List UInt8
 | [] => []
 | [x] => x
 | x :: y :: r => x ++ sep ++ iZ sep (y :: r)
theorem Nl (sep : List UInt8) : ∀ ss : List (List UInt8), iZ sep ss = Lib.join ss sep
 | [] => by simp [iZ, Lib.join]
 | [x] => by simp [iZ, Lib.join]
 | x :: y :: r => by
  have ih := Nl sep (y :: r)
  unfold Lib.join at ih |-
  rw [iZ, ih]
  simp [List.intercalate, List.intersperse]
theorem dL.all {w w0 : World} (k : dL w0) (h : ∀ b, b < 3 -> w.heap[b]? = w0.heap[b]?) : dL w := by
 refine ⟨?_, k.here h⟩
 have hs := k.size
 have h3 : w0.heap[2]? = some w0.heap[2] := Array.getElem?_eq_getElem (by omega)
 have := (Array.getElem?_eq_some_iff.1 ((h 2 (by decide)).trans h3)).1
 omega
def EF (sep : List Nat) : List (List Nat) -> List Nat
 | [] => []
 | [x] => x
 | x :: y :: r => x ++ (sep ++ EF sep (y :: r))
def a0i (K : Know) : aS := fun f args h _ => bif f == 74 then (match args with
 | [.s (.sl l o n 1 _), .s sep] => ob sep.txt fun sp => ob (h.read l o n) fun cs => ob (qL S.txt cs) fun ss => ob (@mxX K (EF sp ss)) fun m => bif Nat.ble m 1000000 && Nat.ble n 1000000 then some (V.s (S.vG (EF sp ss)), h) else none
 | [.s .wH, .s sep] => ob sep.txt fun _ => some (V.s (.str []), h)
 | _ => none) else none
theorem vV [Base] (sig : Nat -> List UInt8) (sep : List Nat) : ∀ ss : List (List Nat), bH sig (EF sep ss) = iZ (bH sig sep) (ss.map (bH sig))
 | [] => rfl
 | [x] => rfl
 | x :: y :: r => by
  have ih := vV sig sep (y :: r)
  rw [EF, dD, dD, ih]
  simp only [List.map_cons, iZ, List.append_assoc]
theorem aiY (b0 : Base) {r : Ren} (l : List Nat) : @VS b0 r (S.vG l) (.string ⟨(bH b0.sig l).toArray⟩) := by
 unfold S.vG
 cases h : l.all (fun n => apx n 256)
 ·rfl
 ·show _ = Value.string _
  rw [qZ b0.sig h]
theorem a3r (b0 : Base) {r : Ren} : ∀ {cs : List S} {ss : List (List Nat)} {us : List Value}, qL S.txt cs = some ss -> ak (@VS b0 r) cs us -> us = ss.map fun l => Value.string ⟨(bH b0.sig l).toArray⟩
 | [], ss, [], h, _ => by cases h; rfl
 | [], _, _ :: _, _, h => h.elim
 | _ :: _, _, [], _, h => h.elim
 | c :: cs, ss, u :: us, h, k => by
  rw [kT] at h
  obtain ⟨l, hl, h⟩ := aj h
  obtain ⟨q, hq, h⟩ := aj h
  cases h
  rw [List.map_cons, @jW b0 _ _ _ hl _ k.1, a3r b0 hq k.2]
theorem XA (b0 : Base) : @Sound b0 Tryz.prog (a0i b0.toKnow) := by
 intro f args h fl v h' e
 unfold a0i at e
 cases hf : (f == 74) <;> rw [hf] at e <;> simp only [cond_true, cond_false] at e
 ·cases e
 obtain rfl : f = 74 := by simpa using hf
 refine ⟨⟨_, Tryz.func74, by kernel_rfl, by kernel_rfl⟩, fun r B w vs hi ha => ?_⟩
 split at e
 ·rename_i l o n c sepS
  obtain ⟨sep, hsep, e⟩ := aj e
  obtain ⟨cs, hcs, e⟩ := aj e
  obtain ⟨ss, hss, e⟩ := aj e
  obtain ⟨m, hm, e⟩ := aj e
  cases hb : (Nat.ble m 1000000 && Nat.ble n 1000000) <;> rw [hb] at e <;> simp only [cond_true, cond_false] at e
  ·cases e
  cases e
  simp only [apu] at hb
  have hb1 := apy hb.1
  have hb2 := apy hb.2
  obtain ⟨u1, u2, rfl, hu1, hu2⟩ := FI ha
  have hu2 := @jW b0 _ _ _ hsep _ hu2
  subst hu2
  obtain ⟨cc, rfl, hl, _, hn, _⟩ := CO hu1
  obtain ⟨us, k1, k2, k3⟩ := UY hi hcs
  obtain rfl := a3r b0 hss k1
  have hlen : ss.length = n := by simpa using k2
  have hmx : (iZ (bH b0.sig sep) (ss.map (bH b0.sig))).length <= m := by rw [<- vV]; exact a0H hm
  have hres : ∀ r', VV r' (V.s (S.vG (EF sep ss))) (.string ⟨(Lib.join (ss.map (bH b0.sig)) (bH b0.sig sep)).toArray⟩) := fun r' => by
   have := aiY b0 (r := r') (EF sep ss)
   rw [vV, Nl] at this
   exact this
  rw [Nl] at hmx
  rcases Nat.eq_zero_or_pos n with h0 | h0
  ·subst h0
   have : ss = [] := List.eq_nil_of_length_eq_zero hlen
   subst this
   refine (Tryz.strings_Join_none _ _ _ w).mono fun e w' ⟨e1, e2⟩ => ⟨_, e1, Post.below hi (by rw [e2]; exact Below.refl _ _) (hres r)⟩
  ·have hcell : ∀ (j : Nat) x, (ss.map fun l => (⟨(bH b0.sig l).toArray⟩ : ByteArray))[j]? = some x -> w.cell? ⟨r.blk l, r.off l + o + j, none⟩ = some (.string x) := fun j x hx => by
    simp only [apA, Option.map_eq_some_iff] at hx
    obtain ⟨s, hs, rfl⟩ := hx
    have := k3 j (.string ⟨(bH b0.sig s).toArray⟩) (by simp [hs])
    rw [<- this]
    simp [Ren.at, Nat.add_assoc]
   have hblk : r.blk l < w.heap.size := by
    obtain ⟨s, hs⟩ : ∃ s, ss[0]? = some s := ⟨ss[0], by rw [List.getElem?_eq_getElem]⟩
    have := hcell 0 _ (by rw [apA, hs]; rfl)
    unfold World.cell? at this
    by_cases hlt : r.blk l < w.heap.size
    ·exact hlt
    ·rw [Array.getElem?_eq_none (Nat.le_of_not_lt hlt)] at this
     cases this
   have hmap : ((ss.map fun l => (⟨(bH b0.sig l).toArray⟩ : ByteArray)).map fun x => x.data.toList) = ss.map (bH b0.sig) := by simp [List.map_map, Function.comp_def]
   have hj := Tryz.strings_Join (r.blk l) (r.off l + o) cc (ss.map fun l => ⟨(bH b0.sig l).toArray⟩) ⟨(bH b0.sig sep).toArray⟩ w hcell hblk (by simp; omega) (by simp; omega) (by rw [hmap]; show (Lib.join _ (bH b0.sig sep).toArray.toList).length <= _; simp; omega)
   rw [hmap] at hj
   simp only [List.length_map, hlen] at hj
   refine Calls.mono hj fun e w' ⟨e1, e2⟩ => ⟨_, e1, Post.below hi e2 ?_⟩
   have := hres r
   simpa using this
 ·obtain ⟨u1, u2, rfl, hu1, hu2⟩ := FI ha
  rename_i sep
  obtain ⟨sp, hsep, e⟩ := aj e
  cases hu1; cases e
  have hu2 := @jW b0 _ _ _ hsep _ hu2
  subst hu2
  exact (Tryz.strings_Join_none _ _ _ w).mono fun e w' ⟨e1, e2⟩ => ⟨_, e1, Post.below hi (by rw [e2]; exact Below.refl _ _) rfl⟩
 ·cases e
def a9W : List Nat := [103, 111, 116, 111, 32, 98]
def Vr : List Nat := [98, 114, 97, 110, 99, 104, 32]
def bN : List Nat := [32, 98]
def a3b : List Nat := [114, 101, 116, 117, 114, 110]
def afd : List Nat := [97, 98, 111, 114, 116]
def fN : List Nat := [32, 58, 61, 32, 102]
def ahc : List Nat := [40]
def a1l : List Nat := [44, 32]
def a0r : List Nat := [41, 32, 98]
def ajC (c n : Nat) : List Nat := match c with
 | 1 => a9W ++ [256 + 15]
 | 2 => Vr ++ ([256 + 13] ++ (bN ++ ([256 + 15] ++ (bN ++ [256 + 16]))))
 | 3 => a3b
 | 4 => [256 + 14] ++ (fN ++ ([256 + 17] ++ (ahc ++ (EF a1l ((apz n).map fun i => [256 + (18 + i)]) ++ (a0r ++ [256 + 15])))))
 | _ => afd
def LT (c n : Nat) : Lf := bif Nat.beq c 4 then qG (qG (Lf.l9 [(true, kJ)] (List.replicate (5 + n) (0, 30)) []) 0 4) 9 n else qG (Lf.l9 [(true, kJ)] (List.replicate (5 + n) (0, 30)) []) 0 c
def elT (n i : Nat) : List S := bV (18 + n + 5 * i) opK
def tbT (n : Nat) : Tabs := ⟨[(0, 9)], (apz n).map fun (i : Nat) => ((0 : Nat), N.c (i : Int), elT n i), []⟩
def cjT (c n : Nat) : List S := uY.map (LT c n).nS
def aaT (c n : Nat) : List aS :=
 [kU 72 [.g (cjT c n)] (m8 true), kU 107 [.g (cjT c n)] (mB true)] ++
 [(7, 15), (8, 16), (6, 17)].flatMap fun (p : Nat × Nat) => [kU 36 [.s (.xi .i64 p.1)] (mS1 (.xs [256 + p.2])), kU 111 [.s (.xi .i64 p.1)] (mS1 (.xs [256 + p.2]))]
def ad6 (c n : Nat) : List aS := [kU 69 [.g (clL (LT c n) 1 opK)] (mS2 (.xs [256 + 13])), kU 115 [.g (clL (LT c n) 1 opK)] (mS1 (.xs [256 + 13]))]
def ach (c n : Nat) : List aS := [kU 70 [.g (clL (LT c n) 10 kPl)] (mS2 (.xs [256 + 14])), kU 113 [.g (clL (LT c n) 10 kPl)] (mS1 (.xs [256 + 14]))]
def amN (n : Nat) : List aS := (apz n).flatMap fun (i : Nat) => [kU 69 [.g (elT n i)] (mS2 (.xs [256 + (18 + i)])), kU 115 [.g (elT n i)] (mS1 (.xs [256 + (18 + i)]))]
def a3x (c n : Nat) : List aS := aaT c n ++ (bif Nat.beq c 2 then ad6 c n else bif Nat.beq c 4 then ach c n ++ (amN n ++ [a0i ((LT c n).know (Fq 13 (5 + n)))]) else [])
def akK (F : FuncId) (c n : Nat) : R := @rC ((LT c n).know (Fq 13 (5 + n))) (mY Tryz.prog) (nC Tryz.prog) (Jp (a3x c n)) (tbT n) (fun _ _ _ _ => none) 30 15 F (([.g uY] : List A).map (LT c n).nA) ⟨[], 0⟩ 0
def UL (F : FuncId) (c n : Nat) : Bool := vY (mS2 (S.vG (ajC c n))) (akK F c n)
theorem a0k : ([1, 2, 3, 5].all fun c => UL 40 c 0) = true := by kernel_rfl
theorem YA : ((apz 9).all fun n => UL 40 4 n) = true := by kernel_rfl
end Am
end Go.Proofs.YtglmonlofejcgaaGreatDoor
