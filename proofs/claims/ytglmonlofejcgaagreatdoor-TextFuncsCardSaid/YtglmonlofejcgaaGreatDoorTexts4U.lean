/- Numbers that are not written out, as digits: strconv.Itoa, strconv.FormatInt, and the reference's Digits, as oracles of the machine. Increasing: the numbers of the truth values that are true, in order. All oracles of a law over places: texts of places, Increasing, numbers to digits, and one more. Texts of operands and rvalues, out of their cells; functions of one struct that answer with a text. -/
import Derived.Test.YtglmonlofejcgaaGreatDoorTextVU
import Derived.Test.YtglmonlofejcgaaGreatDoorDigits
import Derived.Test.YtglmonlofejcgaaGreatDoorReg
import Derived.Test.YtglmonlofejcgaaGreatDoorProg
import Derived.Test.YtglmonlofejcgaaGreatDoorAmC
import Derived.Test.YtglmonlofejcgaaGreatDoorTests4
set_option linter.unusedSectionVars false
set_option linter.unusedVariables false
namespace Go.Proofs.YtglmonlofejcgaaGreatDoor.Am
open Go.RowKit
def EG (k : Option Kd) : Bool := match k with | some (.i .i64) => true | _ => false
noncomputable def Rt (ks : List Kd) (args : List A) : Option V := match args with
 | [.s (.xi .i64 i)] => bif EG (nth ks i) then some (.a (.s (.xs [256 + i]))) else none
 | _ => none
noncomputable def aj6 (ks : List Kd) (args : List A) : Option V := match args with
 | [.s (.xi .i64 i), .s (.int .i64 b)] => bif EG (nth ks i) && b == 10 then some (.a (.s (.xs [256 + i]))) else none
 | _ => none
noncomputable def af7 (ks : List Kd) : aS := qj 36 (Rt ks)
noncomputable def ait (ks : List Kd) : aS := qj 101 (aj6 ks)
noncomputable def aiF (ks : List Kd) : aS := qj 111 (Rt ks)
theorem D5 {ks : List Kd} {i : Nat} (h : EG (nth ks i) = true) : nth ks i = some (.i .i64) := by
 unfold EG at h
 split at h
 ·assumption
 ·cases h
section
variable {w0 : World} {K : Know} {rho : Nat -> Int} {sig : Nat -> List UInt8} (ok : aG K rho sig) {ks : List Kd}
theorem VP (d : Dec ks rho sig) (k : gq w0) : @Sound (base0 w0 ok) Tryz.prog (af7 ks) := by
 letI : Base := base0 w0 ok
 refine iV ⟨_, Tryz.func36, by kernel_rfl, by kernel_rfl⟩ fun args v hg r vs ha w hw => ?_
 unfold Rt at hg
 split at hg
 ·rename_i i
  obtain ⟨u, rfl, hu⟩ := Dc ha
  cases hu
  cases hi : EG (nth ks i) <;> rw [hi] at hg <;> cases hg
  obtain ⟨e, h0, h1⟩ := d i (D5 hi)
  refine (Tryz.strconv_Itoa (rho i) h0 h1 w (k.here hw)).mono fun e' w' ⟨e1, n', os, e2⟩ => ⟨_, e1, ?_, ?_⟩
  ·show _ = _
   rw [gK, show Base.sig i = dD (rho i) from e]
   exact congrArg (fun l : List UInt8 => Value.string ⟨l.toArray⟩) (vJ (rho i) h0 h1).symm
  ·rw [e2]; exact Lib.below_grow _ _ (Nat.le_refl _) _ _
 ·cases hg
theorem Xq (d : Dec ks rho sig) (k : gq w0) : @Sound (base0 w0 ok) Tryz.prog (ait ks) := by
 letI : Base := base0 w0 ok
 refine iV ⟨_, Tryz.func101, by kernel_rfl, by kernel_rfl⟩ fun args v hg r vs ha w hw => ?_
 unfold aj6 at hg
 split at hg
 ·rename_i i b
  obtain ⟨u, u', rfl, hu, hu'⟩ := Dp ha
  cases hu
  cases hu'
  cases hi : (EG (nth ks i) && b == 10) <;> rw [hi] at hg <;> cases hg
  simp only [Bool.and_eq_true, beq_iff_eq] at hi
  obtain ⟨hi, rfl⟩ := hi
  obtain ⟨e, h0, h1⟩ := d i (D5 hi)
  refine (Tryz.strconv_FormatInt_10 (rho i) h0 h1 w (k.here hw)).mono fun e' w' ⟨e1, n', os, e2⟩ => ⟨_, e1, ?_, ?_⟩
  ·show _ = _
   rw [gK, show Base.sig i = dD (rho i) from e]
   exact congrArg (fun l : List UInt8 => Value.string ⟨l.toArray⟩) (vJ (rho i) h0 h1).symm
  ·rw [e2]; exact Lib.below_grow _ _ (Nat.le_refl _) _ _
 ·cases hg
theorem Xp (d : Dec ks rho sig) : @Sound (base0 w0 ok) Tryz.prog (aiF ks) := by
 letI : Base := base0 w0 ok
 refine iV ⟨_, Tryz.func111, by kernel_rfl, by kernel_rfl⟩ fun args v hg r vs ha w hw => ?_
 unfold Rt at hg
 split at hg
 ·rename_i i
  obtain ⟨u, rfl, hu⟩ := Dc ha
  cases hu
  cases hi : EG (nth ks i) <;> rw [hi] at hg <;> cases hg
  obtain ⟨e, h0, h1⟩ := d i (D5 hi)
  refine (FH (rho i) h0 h1 w).mono fun e' w' ⟨e1, e2⟩ => ⟨_, e1, ?_, e2⟩
  show _ = _
  rw [gK, show Base.sig i = dD (rho i) from e]
 ·cases hg
noncomputable def aiO (ks : List Kd) : aS := fun f a h fl => orR (numO f a h fl) (orR (af7 ks f a h fl) (orR (ait ks f a h fl) (aiF ks f a h fl)))
theorem Yq (d : Dec ks rho sig) (k : gq w0) : @Sound (base0 w0 ok) Tryz.prog (aiO ks) :=
 @dU (base0 w0 ok) _ _ _ (OU ok k) (@dU (base0 w0 ok) _ _ _ (VP ok d k) (@dU (base0 w0 ok) _ _ _ (Xq ok d k) (Xp ok d)))
end
end Go.Proofs.YtglmonlofejcgaaGreatDoor.Am
namespace Go.Proofs.YtglmonlofejcgaaGreatDoor
open Go.RowKit Am
namespace Am
end Am
end Go.Proofs.YtglmonlofejcgaaGreatDoor
namespace Go.Proofs.YtglmonlofejcgaaGreatDoor.Am
open Go.RowKit
noncomputable def ajr (L : Lf) (ks : List Kd) (pls : List Pl) (more : aS) : aS := fun f a h fl =>
 orR (more f a h fl) (orR (plO L ks.length pls f a h fl) (aiO ks f a h fl))
section
variable {w0 : World} {rho : Nat -> Int} {sig : Nat -> List UInt8} {L : Lf} {ks : List Kd} {pls : List Pl}
theorem Lm (hL : L.Holds rho sig) (kk : Lens (eG 0 ks) rho sig) (d : Dec ks rho sig) (e : PlE ks.length pls rho sig) (k : gq w0) {more : aS} (hm : @Sound (base0 w0 (Lf.ok hL kk)) Tryz.prog more) :
  @Sound (base0 w0 (Lf.ok hL kk)) Tryz.prog (ajr L ks pls more) :=
 @dU (base0 w0 (Lf.ok hL kk)) _ _ _ hm (@dU (base0 w0 (Lf.ok hL kk)) _ _ _ (aaG (Lf.ok hL kk) hL e k) (Yq (Lf.ok hL kk) d k))
end
noncomputable def noO : aS := fun _ _ _ _ => none
theorem VD (b : Base) : @Sound b Tryz.prog noO := fun _ _ _ _ _ _ h => by cases h
end Go.Proofs.YtglmonlofejcgaaGreatDoor.Am
namespace Go.Proofs.YtglmonlofejcgaaGreatDoor.Am
open Go.RowKit
def D8 (us : List Value) (o : Nat) : Opd := ⟨ah us o, ah us (o + 1), ah us (o + 2), decide (ah us (o + 3) = 1), ah us (o + 4)⟩
def a4u (us : List Value) (o : Nat) : Rv := ⟨ah us o, D8 us (o + 3), D8 us (o + 8), ah us (o + 1), ah us (o + 2), ah us (o + 13), decide (ah us (o + 14) = 1), ah us (o + 15)⟩
noncomputable def rJ (l : List UInt8) : List Nat := l.map UInt8.toNat
noncomputable def a6k (ks : List Kd) (x : S) : Option (List Nat) := match x with
 | .int _ m => some (rJ (dD m))
 | .xi .i64 i => bif EG (nth ks i) then some [256 + i] else none
 | _ => none
noncomputable def Y1 (ks : List Kd) (pls : List Pl) (L : Lf) (xs : List S) (o : Nat) : Option (List Nat) :=
 ob (nth xs o) fun x => ob (nth xs (o + 1)) fun y => ob (nth xs (o + 2)) fun z => ob (FW L [x, y, z] ks.length pls) fun h => some [h]
noncomputable def MC (x : S) : Option Int := match x with | .int _ n => some n | _ => none
noncomputable def opX (ks : List Kd) (pls : List Pl) (L : Lf) (xs : List S) (o : Nat) : Option (List Nat) :=
 ob (nth xs o) fun k => ob (MC k) fun k =>
  bif decide (k = 1) then ob (nth xs (o + 1)) (a6k ks)
  else bif decide (k = 2) then ob (Y1 ks pls L xs (o + 2)) fun p => some (rJ a1F ++ p)
  else bif decide (k = 3) then ob (Y1 ks pls L xs (o + 2)) fun p => some (rJ a1k ++ p)
  else none
noncomputable def rvX (ks : List Kd) (pls : List Pl) (L : Lf) (xs : List S) (o : Nat) : Option (List Nat) :=
 ob (nth xs o) fun k => ob (MC k) fun k =>
  bif decide (k = 1) then opX ks pls L xs (o + 3)
  else bif decide (k = 2) then ob (opX ks pls L xs (o + 3)) fun a => ob (nth xs (o + 1)) fun s => ob (MC s) fun s => ob (opX ks pls L xs (o + 8)) fun b => some (a ++ (32 :: (sgn s).toNat :: 32 :: b))
  else bif decide (k = 3) then ob (opX ks pls L xs (o + 3)) fun a => ob (opX ks pls L xs (o + 8)) fun b => some (40 :: (a ++ (44 :: 32 :: (b ++ [41]))))
  else bif decide (k = 4) || decide (k = 5) then ob (nth xs (o + 2)) fun s => ob (MC s) fun s => ob (Y1 ks pls L xs (o + 13)) fun p => some (rJ (ahB k s) ++ p)
  else none
theorem jC (sig : Nat -> List UInt8) : ∀ l : List UInt8, bI sig (rJ l) = l
 | [] => rfl
 | c :: l => by
  have h : Nat.blt c.toNat 256 = true := by
   have := c.toNat_lt
   rw [Nat.blt_eq]
   exact this
  show (bif Nat.blt c.toNat 256 then [UInt8.ofNat c.toNat] else sig (c.toNat - 256)) ++ bI sig (rJ l) = _
  rw [h, jC sig l]
  simp
section
variable [Base] {r : Ren} {L : Lf} {ks : List Kd} {pls : List Pl} {xs : List S} {us : List Value}
theorem xg {x : S} {k : Int} (h : MC x = some k) {v : Value} (hv : VS r x v) : aY v = k := by
 unfold MC at h
 split at h
 ·cases h; cases hv; rfl
 ·cases h
theorem AU (ha : ak (VS r) xs us) {i : Nat} {x : S} (h : nth xs i = some x) : ∃ v, us[i]? = some v /\ VS r x v /\ ah us i = aY v := by
 obtain ⟨v, hv, hx⟩ := ak.nth ha h
 exact ⟨v, hv, hx, JR hv⟩
theorem a1L (d : Dec ks Base.rho Base.sig) {x : S} {l : List Nat} (h : a6k ks x = some l) {v : Value} (hv : VS r x v) : bI Base.sig l = dD (aY v) := by
 unfold a6k at h
 split at h
 ·cases h; cases hv
  exact jC _ _
 ·rename_i i
  cases hi : EG (nth ks i) <;> rw [hi] at h <;> simp only [cond_true, cond_false] at h
  ·cases h
  ·cases h; cases hv
   rw [gK]
   exact (d i (D5 hi)).1
 ·cases h
theorem yU (hL : L.Holds Base.rho Base.sig) (e : PlE ks.length pls Base.rho Base.sig) (ha : ak (VS r) xs us) {o : Nat} {l : List Nat} (h : Y1 ks pls L xs o = some l) :
  bI Base.sig l = iH (ah us o) (decide (ah us (o + 1) = 1)) (ah us (o + 2)) := by
 obtain ⟨x, hx, h⟩ := aj h
 obtain ⟨y, hy, h⟩ := aj h
 obtain ⟨z, hz, h⟩ := aj h
 obtain ⟨n, hn, h⟩ := aj h
 cases h
 obtain ⟨u1, k1, v1, c1⟩ := AU ha hx
 obtain ⟨u2, k2, v2, c2⟩ := AU ha hy
 obtain ⟨u3, k3, v3, c3⟩ := AU ha hz
 obtain ⟨j, p, hj, rfl, hp, hok⟩ := yX hn
 have hv : ak (VS r) ((plT p).map L.nS) [u1, u2, u3] := by
  rw [hp]
  exact ⟨v1, v2, v3, trivial⟩
 have hu := SI hL hv
 simp only [List.cons.injEq, and_true] at hu
 obtain ⟨e1, e2, e3⟩ := hu
 rw [gK, e j p hj (TS hL hok), c1, c2, c3, e1, e2, e3]
 simp only [aY]
 congr 1
 cases hd : decide (Base.rho p.2.1 = 1) <;> rfl
theorem tV (hL : L.Holds Base.rho Base.sig) (d : Dec ks Base.rho Base.sig) (e : PlE ks.length pls Base.rho Base.sig) (ha : ak (VS r) xs us) {o : Nat} {l : List Nat} (h : opX ks pls L xs o = some l) :
  bI Base.sig l = opT (D8 us o) := by
 obtain ⟨x, hx, h⟩ := aj h
 obtain ⟨k, hk, h⟩ := aj h
 obtain ⟨u, k1, v1, c1⟩ := AU ha hx
 rw [xg hk v1] at c1
 unfold opT
 rw [show (D8 us o).k = k from c1]
 cases h1 : decide (k = 1) <;> rw [h1] at h <;> simp only [cond_true, cond_false] at h
 ·simp only [decide_eq_false_iff_not] at h1
  rw [if_neg h1]
  cases h2 : decide (k = 2) <;> rw [h2] at h <;> simp only [cond_true, cond_false] at h
  ·simp only [decide_eq_false_iff_not] at h2
   rw [if_neg h2]
   cases h3 : decide (k = 3) <;> rw [h3] at h <;> simp only [cond_true, cond_false] at h
   ·cases h
   ·obtain ⟨p, hp, h⟩ := aj h
    cases h
    rw [dw, jC, yU hL e ha hp]
    rfl
  ·simp only [decide_eq_true_eq] at h2
   rw [if_pos h2]
   obtain ⟨p, hp, h⟩ := aj h
   cases h
   rw [dw, jC, yU hL e ha hp]
   rfl
 ·simp only [decide_eq_true_eq] at h1
  rw [if_pos h1]
  obtain ⟨y, hy, h⟩ := aj h
  obtain ⟨u2, k2, v2, c2⟩ := AU ha hy
  rw [a1L d h v2, <- c2]
  rfl
theorem mP {sig : Nat -> List UInt8} {n : Nat} (h : n < 256) (l : List Nat) : bI sig (n :: l) = UInt8.ofNat n :: bI sig l := by
 show (bif Nat.blt n 256 then [UInt8.ofNat n] else sig (n - 256)) ++ bI sig l = _
 rw [show Nat.blt n 256 = true by rw [Nat.blt_eq]; exact h]
 rfl
theorem ajD (hL : L.Holds Base.rho Base.sig) (d : Dec ks Base.rho Base.sig) (e : PlE ks.length pls Base.rho Base.sig) (ha : ak (VS r) xs us) {o : Nat} {l : List Nat} (h : rvX ks pls L xs o = some l) :
  bI Base.sig l = rvT (a4u us o) := by
 obtain ⟨x, hx, h⟩ := aj h
 obtain ⟨k, hk, h⟩ := aj h
 obtain ⟨u, k1, v1, c1⟩ := AU ha hx
 rw [xg hk v1] at c1
 unfold rvT
 rw [show (a4u us o).k = k from c1]
 cases h1 : decide (k = 1) <;> rw [h1] at h <;> simp only [cond_true, cond_false] at h
 case true =>
  simp only [decide_eq_true_eq] at h1
  rw [if_pos h1, tV hL d e ha h]
  rfl
 simp only [decide_eq_false_iff_not] at h1
 rw [if_neg h1]
 cases h2 : decide (k = 2) <;> rw [h2] at h <;> simp only [cond_true, cond_false] at h
 case true =>
  simp only [decide_eq_true_eq] at h2
  obtain ⟨a, hA, h⟩ := aj h
  obtain ⟨s, hs, h⟩ := aj h
  obtain ⟨n, hn, h⟩ := aj h
  obtain ⟨b, hb, h⟩ := aj h
  cases h
  obtain ⟨u2, k2, v2, c2⟩ := AU ha hs
  rw [xg hn v2] at c2
  rw [if_pos h2, dw, tV hL d e ha hA, mP (by decide), mP (UInt8.toNat_lt _), mP (by decide), tV hL d e ha hb]
  rw [show (a4u us o).op = n from c2]
  simp [a4u]
 simp only [decide_eq_false_iff_not] at h2
 rw [if_neg h2]
 cases h3 : decide (k = 3) <;> rw [h3] at h <;> simp only [cond_true, cond_false] at h
 case true =>
  simp only [decide_eq_true_eq] at h3
  obtain ⟨a, hA, h⟩ := aj h
  obtain ⟨b, hb, h⟩ := aj h
  cases h
  rw [if_pos h3, mP (by decide), dw, tV hL d e ha hA, mP (by decide), mP (by decide), dw, tV hL d e ha hb]
  rfl
 simp only [decide_eq_false_iff_not] at h3
 rw [if_neg h3]
 cases h4 : (decide (k = 4) || decide (k = 5)) <;> rw [h4] at h <;> simp only [cond_true, cond_false] at h
 ·cases h
 obtain ⟨s, hs, h⟩ := aj h
 obtain ⟨n, hn, h⟩ := aj h
 obtain ⟨p, hp, h⟩ := aj h
 cases h
 obtain ⟨u2, k2, v2, c2⟩ := AU ha hs
 rw [xg hn v2] at c2
 rw [dw, jC, yU hL e ha hp, show (a4u us o).bo = n from c2]
 rfl
theorem a04 {l : List Nat} {u : Value} (h : VS r (S.uI l) u) : u = .string ⟨(bI Base.sig l).toArray⟩ := by
 unfold S.uI at h
 cases hp : l.all (fun n => Nat.blt n 256) with
 | false => rw [hp] at h; exact h
 | true =>
  rw [hp] at h
  have h : u = .string ⟨(l.map UInt8.ofNat).toArray⟩ := h
  rw [qG _ hp]
  exact h
end
def Texts (P : Program) (Q : World -> Prop) (F : FuncId) (ks : List Kd) (e : E) (T : List Value -> List UInt8) (val : List UInt8 -> Value) : Prop :=
 ∀ us, ak Kd.ok ks us -> e.val us = true -> ∀ w : World, Q w -> Calls P F #[.agg us.toArray] w fun x w' => x = .returned (val (T us)) /\ Below w.heap.size w w'
def vS1 (l : List UInt8) : Value := .string ⟨l.toArray⟩
def vS2 (l : List UInt8) : Value := .tuple #[.string ⟨l.toArray⟩, .int .i64 0]
def mS1 (x : S) : V := V.s x
def mS2 (x : S) : V := .t [.s x, .s (.int .i64 0)]
theorem SS (b0 : Base) (r : Ren) (l : List Nat) (u : Value) (h : @VV b0 r (mS1 (S.uI l)) u) : u = vS1 (bI b0.sig l) := @a04 b0 r l u h
theorem U2 (b0 : Base) (r : Ren) (l : List Nat) (u : Value) (h : @VV b0 r (mS2 (S.uI l)) u) : u = vS2 (bI b0.sig l) := by
 obtain ⟨us, rfl, h⟩ := h
 match us, h with
 | [x, y], ⟨h1, h2, _⟩ =>
  rw [@a04 b0 r l x h1, show y = .int .i64 0 from h2]
  rfl
noncomputable def wF (e : E) (ks : List Kd) (mk : S -> V) (exp : Option (List Nat)) (L : Lf) (r : R) : Bool :=
 Option.rec false (fun b => bif b then Option.rec false (fun l => vg (mk (S.uI l)) r) exp else true) (@E.abs (L.know (eG 0 ks)) ((bZ 0 ks).map L.nS) e)
noncomputable def nU (ks : List Kd) (L : Lf) : List S := (bZ 0 ks).map L.nS
section
variable {F : FuncId} {ks : List Kd} {e : E} {T : List Value -> List UInt8} {val : List UInt8 -> Value} {pls : List Pl}
noncomputable def alq (ks : List Kd) (pls : List Pl) (L : Lf) : aS := fun f a h fl => orR (Y2 (L.know (eG 0 ks)) f a h fl) (ajr L ks pls noO f a h fl)
noncomputable def runT (F : FuncId) (ks : List Kd) (pls : List Pl) (L : Lf) : R := @runs (L.know (eG 0 ks)) (lM Tryz.prog) (lZ Tryz.prog) (alq ks pls L) 30 15 F [.g (nU ks L)] ⟨[], 0⟩ 0
theorem D7 {mk : S -> V} (hmk : ∀ (b0 : Base) r l u, @VV b0 r (mk (S.uI l)) u -> u = val (bI b0.sig l)) (exp : Lf -> List S -> Option (List Nat))
  (hexp : ∀ (b0 : Base) (L : Lf) (r : Ren) (xs : List S) (us : List Value) (l : List Nat), L.Holds b0.rho b0.sig -> Dec ks b0.rho b0.sig -> PlE ks.length pls b0.rho b0.sig -> @ak _ _ (@VS b0 r) xs us -> exp L xs = some l -> bI b0.sig l = T us)
  (hpl : pls.all (fun p => decide (p.1 < ks.length) && decide (p.2.1 < ks.length) && decide (p.2.2 < ks.length)) = true) {sp : Sp}
  (hrun : ((sp.leaves (Lf.JG [(true, ks)] pls.length)).all fun L => wF e ks mk (exp L (nU ks L)) L (runT F ks pls L)) = true) : Texts Tryz.prog gq F ks e T val := by
 intro us hk he w hw
 have hg : Gps [(true, ks)] [.agg us.toArray] us := ⟨us, [], (List.append_nil _).symm, ⟨hk, .inl ⟨rfl, rfl⟩⟩, rfl⟩
 have hks : dY [(true, ks)] = ks := by simp [dY]
 have hlen : us.length = ks.length := by have := hk.len; omega
 have kk := NJ hg (Ic us pls)
 have d := PO hg (plX us pls)
 have ee : PlE ks.length pls (dh (jF us (plX us pls))) (fD (jF us (plX us pls))) := by
  rw [<- hlen]
  exact aiM (by rw [hlen]; exact hpl)
 rw [hks] at kk d
 have hl : (plX us pls).length = pls.length := by simp [plX]
 have hst := Lf.PG hg (Ic us pls)
 rw [hl] at hst
 obtain ⟨L, hm, hL⟩ := sp.cover hst
 have hp := List.all_eq_true.1 hrun L hm
 letI b0 : Base := base0 w (Lf.ok hL kk)
 have ha' : ak (VA r0) [.g (bZ 0 ks)] [.agg us.toArray] :=
  xK (cs := jF us (plX us pls)) rfl rfl ((plX us pls).map fun x => .string ⟨x.toArray⟩) (gs := [(true, ks)]) (pre := []) (cs' := us) rfl hg
 have ha := Lf.yj hL ha'
 unfold wF at hp
 cases hb : @E.abs (L.know (eG 0 ks)) ((bZ 0 ks).map L.nS) e with
 | none => rw [hb] at hp; cases hp
 | some b =>
  rw [hb] at hp
  have ha2 := ha
  obtain ⟨⟨us', e1, hus⟩, _⟩ := ha2
  have e1 : Value.agg us.toArray = .agg us'.toArray := e1
  obtain rfl : us = us' := by simpa using e1
  have hbv := E.qC hus hb
  rw [he] at hbv
  subst hbv
  have hp : (Option.rec false (fun l => vg (mk (S.uI l)) (runT F ks pls L)) (exp L (nU ks L)) : Bool) = true := hp
  cases hx : exp L (nU ks L) with
  | none => rw [hx] at hp; cases hp
  | some l =>
   rw [hx] at hp
   obtain ⟨h', hr⟩ := yO hp
   have hS : Sound Tryz.prog (@runs (L.know (eG 0 ks)) (lM Tryz.prog) (lZ Tryz.prog) (alq ks pls L) 30 15) :=
    @Bq w _ _ _ (Lf.ok hL kk) _ (@dU (base0 w (Lf.ok hL kk)) _ _ _ (CV (base0 w (Lf.ok hL kk))) (Lm hL kk d ee hw (VD _))) 30 15
   refine (gY w hw.size (fun _ _ => rfl) hS ha hr).mono fun x w' ⟨u, r', e1, e2, e3⟩ => ⟨?_, e3⟩
   rw [e1, hmk b0 _ _ _ e2, hexp b0 L r0 _ _ _ hL d ee hus hx]
end
end Go.Proofs.YtglmonlofejcgaaGreatDoor.Am
