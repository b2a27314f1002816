/- Texts of numbers, places and operands: what they are made of, and that each is the text of one alone. (No program in sight.) Texts of operands and rvalues, out of their cells; functions of one struct that answer with a text. OperandText, Text and the reference's Written: the texts of operands and rvalues. strings.Join as an oracle of the machine. alive of chapter 06 answers true, whoever calls. Jumps' texts: strings.Join over strings that are not written out; the runs of jump.Text and the reference's. Jumps' texts: the runs of jump.Text and the reference's. -/
import Derived.Test.YtglmonlofejcgaaDoorOrcU
import Derived.Test.YtglmonlofejcgaaDoorTests4
import Derived.Test.YtglmonlofejcgaaDoorSeat
import Derived.Test.YtglmonlofejcgaaDoorAmC
import Derived.Test.YtglmonlofejcgaaDoorJump4
namespace Go.Proofs.YtglmonlofejcgaaDoor.Am
open Go.RowKit
theorem toNat_48 {u : Nat} (h : u < 10) : (UInt8.ofNat (48 + u)).toNat = 48 + u := by
 rw [UInt8.toNat_ofNat']
 omega
def isDig (c : UInt8) : Bool := Nat.ble 48 c.toNat && Nat.ble c.toNat 57
theorem isDig_48 {u : Nat} (h : u < 10) : isDig (UInt8.ofNat (48 + u)) = true := by
 unfold isDig
 rw [toNat_48 h]
 simp
 omega
theorem decF_dig : ∀ (f u : Nat) (acc : List UInt8), acc.all isDig = true → (decF f u acc).all isDig = true
 | 0, _, _, h => h
 | f + 1, u, acc, h => by
  rw [decF]
  cases hu : Nat.blt u 10 with
  | true =>
   have hu : u < 10 := by simpa [Nat.blt_eq] using hu
   simp only [cond_true, List.all_cons, isDig_48 hu, h, Bool.and_self]
  | false =>
   exact decF_dig f _ _ (by simp only [List.all_cons, isDig_48 (Nat.mod_lt u (by decide : 0 < 10)), h, Bool.and_self])
def I64 (n : Int) : Prop := -9223372036854775808 ≤ n ∧ n ≤ 9223372036854775807
def isNum (c : UInt8) : Bool := isDig c || c == 45
theorem decT_num (n : Int) : (decT n).all isNum = true := by
 have key : ∀ l : List UInt8, l.all isDig = true → l.all isNum = true := fun l h => by
  simp only [List.all_eq_true] at h ⊢
  exact fun c hc => by simp [isNum, h c hc]
 cases n with
 | ofNat u => exact key _ (decF_dig 20 u [] rfl)
 | negSucc u => simp only [decT, List.all_cons, key _ (decF_dig 20 (u + 1) [] rfl), Bool.and_true]; decide
def isPlc (c : UInt8) : Bool := isNum c || c == 42 || c == 120 || c == 46
def fldT (f : Int) : List UInt8 := if f = 1 then [46, 49] else if f = 2 then [46, 50] else []
theorem placeT_eq (l : Int) (d : Bool) (f : Int) : placeT l d f = (bif d then [42] else []) ++ (120 :: (decT l ++ fldT f)) := by
 unfold placeT fldT
 simp
theorem placeT_plc (l : Int) (d : Bool) (f : Int) : (placeT l d f).all isPlc = true := by
 have h1 : (decT l).all isPlc = true := by
  have := decT_num l
  simp only [List.all_eq_true] at this ⊢
  exact fun c hc => by simp [isPlc, this c hc]
 have h2 : (fldT f).all isPlc = true := by
  unfold fldT
  split
  ·decide
  ·split <;> decide
 rw [placeT_eq]
 simp only [List.all_append, List.all_cons, h1, h2, Bool.and_true]
 cases d <;> decide
structure Opd where
 k : Int
 n : Int
 l : Int
 d : Bool
 f : Int
def Opd.Ok (o : Opd) : Prop := (o.k = 1 ∧ I64 o.n ∧ o.l = 0 ∧ o.d = false ∧ o.f = 0) ∨ ((o.k = 2 ∨ o.k = 3) ∧ o.n = 0 ∧ InP o.l o.f)
def copyT : List UInt8 := [99, 111, 112, 121, 32]
def moveT : List UInt8 := [109, 111, 118, 101, 32]
def opT (o : Opd) : List UInt8 := if o.k = 1 then decT o.n else if o.k = 2 then copyT ++ placeT o.l o.d o.f else moveT ++ placeT o.l o.d o.f
structure Rv where
 k : Int
 a : Opd
 b : Opd
 op : Int
 bo : Int
 l : Int
 d : Bool
 f : Int
def Opd.no : Opd := ⟨0, 0, 0, false, 0⟩
def Rv.Ok (r : Rv) : Prop :=
 (r.k = 1 ∧ r.a.Ok ∧ r.b = Opd.no ∧ r.op = 0 ∧ r.bo = 0 ∧ r.l = 0 ∧ r.d = false ∧ r.f = 0) ∨
 (r.k = 2 ∧ r.a.Ok ∧ r.b.Ok ∧ (1 ≤ r.op ∧ r.op ≤ 6) ∧ r.bo = 0 ∧ r.l = 0 ∧ r.d = false ∧ r.f = 0) ∨
 (r.k = 3 ∧ r.a.Ok ∧ r.b.Ok ∧ r.op = 0 ∧ r.bo = 0 ∧ r.l = 0 ∧ r.d = false ∧ r.f = 0) ∨
 (r.k = 4 ∧ r.a = Opd.no ∧ r.b = Opd.no ∧ r.op = 0 ∧ (1 ≤ r.bo ∧ r.bo ≤ 3) ∧ InP r.l r.f) ∨
 (r.k = 5 ∧ r.a = Opd.no ∧ r.b = Opd.no ∧ r.op = 0 ∧ r.bo = 0 ∧ InP r.l r.f)
def sgn (op : Int) : UInt8 := if op = 1 then 43 else if op = 2 then 45 else if op = 3 then 42 else if op = 4 then 47 else if op = 5 then 60 else 61
def borT (k bo : Int) : List UInt8 := if k = 5 then [38, 114, 97, 119, 32] else if bo = 1 then [38] else if bo = 2 then [38, 109, 117, 116, 32] else [38, 116, 119, 111, 32]
def rvT (r : Rv) : List UInt8 :=
 if r.k = 1 then opT r.a
 else if r.k = 2 then opT r.a ++ (32 :: sgn r.op :: 32 :: opT r.b)
 else if r.k = 3 then 40 :: (opT r.a ++ (44 :: 32 :: (opT r.b ++ [41])))
 else borT r.k r.bo ++ placeT r.l r.d r.f
inductive Rv.As (r : Rv) : Prop where
 | use (h : r = ⟨1, r.a, Opd.no, 0, 0, 0, false, 0⟩) (a : r.a.Ok)
 | bin (h : r = ⟨2, r.a, r.b, r.op, 0, 0, false, 0⟩) (a : r.a.Ok) (b : r.b.Ok) (o : 1 ≤ r.op ∧ r.op ≤ 6)
 | pair (h : r = ⟨3, r.a, r.b, 0, 0, 0, false, 0⟩) (a : r.a.Ok) (b : r.b.Ok)
 | ref (h : r = ⟨r.k, Opd.no, Opd.no, 0, r.bo, r.l, r.d, r.f⟩) (k : (r.k = 4 ∧ 1 ≤ r.bo ∧ r.bo ≤ 3) ∨ (r.k = 5 ∧ r.bo = 0)) (p : InP r.l r.f)
end Go.Proofs.YtglmonlofejcgaaDoor.Am
namespace Go.Proofs.YtglmonlofejcgaaDoor.Am
open Go.RowKit
set_option linter.unusedSectionVars false
set_option linter.unusedVariables false
def opdAt (us : List Value) (o : Nat) : Opd := ⟨cellI us o, cellI us (o + 1), cellI us (o + 2), decide (cellI us (o + 3) = 1), cellI us (o + 4)⟩
def rvAt (us : List Value) (o : Nat) : Rv := ⟨cellI us o, opdAt us (o + 3), opdAt us (o + 8), cellI us (o + 1), cellI us (o + 2), cellI us (o + 13), decide (cellI us (o + 14) = 1), cellI us (o + 15)⟩
noncomputable def bytesX (l : List UInt8) : List Nat := l.map UInt8.toNat
noncomputable def numX (ks : List Kd) (x : S) : Option (List Nat) := match x with
 | .int _ m => some (bytesX (decT m))
 | .xi .i64 i => bif isI64 (nth ks i) then some [256 + i] else none
 | _ => none
noncomputable def plcX (ks : List Kd) (pls : List Pl) (L : Lf) (xs : List S) (o : Nat) : Option (List Nat) :=
 ob (nth xs o) fun x => ob (nth xs (o + 1)) fun y => ob (nth xs (o + 2)) fun z => ob (findPl L [x, y, z] ks.length pls) fun h => some [h]
noncomputable def kindX (x : S) : Option Int := match x with | .int _ n => some n | _ => none
noncomputable def opX (ks : List Kd) (pls : List Pl) (L : Lf) (xs : List S) (o : Nat) : Option (List Nat) :=
 ob (nth xs o) fun k => ob (kindX k) fun k =>
  bif decide (k = 1) then ob (nth xs (o + 1)) (numX ks)
  else bif decide (k = 2) then ob (plcX ks pls L xs (o + 2)) fun p => some (bytesX copyT ++ p)
  else bif decide (k = 3) then ob (plcX ks pls L xs (o + 2)) fun p => some (bytesX moveT ++ p)
  else none
noncomputable def rvX (ks : List Kd) (pls : List Pl) (L : Lf) (xs : List S) (o : Nat) : Option (List Nat) :=
 ob (nth xs o) fun k => ob (kindX k) fun k =>
  bif decide (k = 1) then opX ks pls L xs (o + 3)
  else bif decide (k = 2) then ob (opX ks pls L xs (o + 3)) fun a => ob (nth xs (o + 1)) fun s => ob (kindX s) fun s => ob (opX ks pls L xs (o + 8)) fun b => some (a ++ (32 :: (sgn s).toNat :: 32 :: b))
  else bif decide (k = 3) then ob (opX ks pls L xs (o + 3)) fun a => ob (opX ks pls L xs (o + 8)) fun b => some (40 :: (a ++ (44 :: 32 :: (b ++ [41]))))
  else bif decide (k = 4) || decide (k = 5) then ob (nth xs (o + 2)) fun s => ob (kindX s) fun s => ob (plcX ks pls L xs (o + 13)) fun p => some (bytesX (borT k s) ++ p)
  else none
theorem strX_bytes (sig : Nat → List UInt8) : ∀ l : List UInt8, strX sig (bytesX l) = l
 | [] => rfl
 | c :: l => by
  have h : Nat.blt c.toNat 256 = true := by
   have := c.toNat_lt
   rw [Nat.blt_eq]
   exact this
  show (bif Nat.blt c.toNat 256 then [UInt8.ofNat c.toNat] else sig (c.toNat - 256)) ++ strX sig (bytesX l) = _
  rw [h, strX_bytes sig l]
  simp
section
variable [Base] {r : Ren} {L : Lf} {ks : List Kd} {pls : List Pl} {xs : List S} {us : List Value}
theorem kindX_ok {x : S} {k : Int} (h : kindX x = some k) {v : Value} (hv : VS r x v) : codeI v = k := by
 unfold kindX at h
 split at h
 ·cases h; cases hv; rfl
 ·cases h
theorem cellX (ha : All2 (VS r) xs us) {i : Nat} {x : S} (h : nth xs i = some x) : ∃ v, us[i]? = some v ∧ VS r x v ∧ cellI us i = codeI v := by
 obtain ⟨v, hv, hx⟩ := All2.nth ha h
 exact ⟨v, hv, hx, cellI_at hv⟩
theorem numX_ok (d : Dec ks Base.rho Base.sig) {x : S} {l : List Nat} (h : numX ks x = some l) {v : Value} (hv : VS r x v) : strX Base.sig l = decT (codeI v) := by
 unfold numX at h
 split at h
 ·cases h; cases hv
  exact strX_bytes _ _
 ·rename_i i
  cases hi : isI64 (nth ks i) <;> rw [hi] at h <;> simp only [cond_true, cond_false] at h
  ·cases h
  ·cases h; cases hv
   rw [strX_one]
   exact (d i (isI64_ok hi)).1
 ·cases h
theorem plcX_ok (hL : L.Holds Base.rho Base.sig) (e : PlE ks.length pls Base.rho Base.sig) (ha : All2 (VS r) xs us) {o : Nat} {l : List Nat} (h : plcX ks pls L xs o = some l) :
  strX Base.sig l = placeT (cellI us o) (decide (cellI us (o + 1) = 1)) (cellI us (o + 2)) := by
 obtain ⟨x, hx, h⟩ := ob_some h
 obtain ⟨y, hy, h⟩ := ob_some h
 obtain ⟨z, hz, h⟩ := ob_some h
 obtain ⟨n, hn, h⟩ := ob_some h
 cases h
 obtain ⟨u1, k1, v1, c1⟩ := cellX ha hx
 obtain ⟨u2, k2, v2, c2⟩ := cellX ha hy
 obtain ⟨u3, k3, v3, c3⟩ := cellX ha hz
 obtain ⟨j, p, hj, rfl, hp, hok⟩ := findPl_ok hn
 have hv : All2 (VS r) ((plT p).map L.nS) [u1, u2, u3] := by
  rw [hp]
  exact ⟨v1, v2, v3, trivial⟩
 have hu := pl_vals hL hv
 simp only [List.cons.injEq, and_true] at hu
 obtain ⟨e1, e2, e3⟩ := hu
 rw [strX_one, e j p hj (okPl_in hL hok), c1, c2, c3, e1, e2, e3]
 simp only [codeI]
 congr 1
 cases hd : decide (Base.rho p.2.1 = 1) <;> rfl
theorem opX_ok (hL : L.Holds Base.rho Base.sig) (d : Dec ks Base.rho Base.sig) (e : PlE ks.length pls Base.rho Base.sig) (ha : All2 (VS r) xs us) {o : Nat} {l : List Nat} (h : opX ks pls L xs o = some l) :
  strX Base.sig l = opT (opdAt us o) := by
 obtain ⟨x, hx, h⟩ := ob_some h
 obtain ⟨k, hk, h⟩ := ob_some h
 obtain ⟨u, k1, v1, c1⟩ := cellX ha hx
 rw [kindX_ok hk v1] at c1
 unfold opT
 rw [show (opdAt us o).k = k from c1]
 cases h1 : decide (k = 1) <;> rw [h1] at h <;> simp only [cond_true, cond_false] at h
 ·simp only [decide_eq_false_iff_not] at h1
  rw [if_neg h1]
  cases h2 : decide (k = 2) <;> rw [h2] at h <;> simp only [cond_true, cond_false] at h
  ·simp only [decide_eq_false_iff_not] at h2
   rw [if_neg h2]
   cases h3 : decide (k = 3) <;> rw [h3] at h <;> simp only [cond_true, cond_false] at h
   ·cases h
   ·obtain ⟨p, hp, h⟩ := ob_some h
    cases h
    rw [strX_append, strX_bytes, plcX_ok hL e ha hp]
    rfl
  ·simp only [decide_eq_true_eq] at h2
   rw [if_pos h2]
   obtain ⟨p, hp, h⟩ := ob_some h
   cases h
   rw [strX_append, strX_bytes, plcX_ok hL e ha hp]
   rfl
 ·simp only [decide_eq_true_eq] at h1
  rw [if_pos h1]
  obtain ⟨y, hy, h⟩ := ob_some h
  obtain ⟨u2, k2, v2, c2⟩ := cellX ha hy
  rw [numX_ok d h v2, ← c2]
  rfl
theorem strX_cons {sig : Nat → List UInt8} {n : Nat} (h : n < 256) (l : List Nat) : strX sig (n :: l) = UInt8.ofNat n :: strX sig l := by
 show (bif Nat.blt n 256 then [UInt8.ofNat n] else sig (n - 256)) ++ strX sig l = _
 rw [show Nat.blt n 256 = true by rw [Nat.blt_eq]; exact h]
 rfl
theorem rvX_ok (hL : L.Holds Base.rho Base.sig) (d : Dec ks Base.rho Base.sig) (e : PlE ks.length pls Base.rho Base.sig) (ha : All2 (VS r) xs us) {o : Nat} {l : List Nat} (h : rvX ks pls L xs o = some l) :
  strX Base.sig l = rvT (rvAt us o) := by
 obtain ⟨x, hx, h⟩ := ob_some h
 obtain ⟨k, hk, h⟩ := ob_some h
 obtain ⟨u, k1, v1, c1⟩ := cellX ha hx
 rw [kindX_ok hk v1] at c1
 unfold rvT
 rw [show (rvAt us o).k = k from c1]
 cases h1 : decide (k = 1) <;> rw [h1] at h <;> simp only [cond_true, cond_false] at h
 case true =>
  simp only [decide_eq_true_eq] at h1
  rw [if_pos h1, opX_ok hL d e ha h]
  rfl
 simp only [decide_eq_false_iff_not] at h1
 rw [if_neg h1]
 cases h2 : decide (k = 2) <;> rw [h2] at h <;> simp only [cond_true, cond_false] at h
 case true =>
  simp only [decide_eq_true_eq] at h2
  obtain ⟨a, hA, h⟩ := ob_some h
  obtain ⟨s, hs, h⟩ := ob_some h
  obtain ⟨n, hn, h⟩ := ob_some h
  obtain ⟨b, hb, h⟩ := ob_some h
  cases h
  obtain ⟨u2, k2, v2, c2⟩ := cellX ha hs
  rw [kindX_ok hn v2] at c2
  rw [if_pos h2, strX_append, opX_ok hL d e ha hA, strX_cons (by decide), strX_cons (UInt8.toNat_lt _), strX_cons (by decide), opX_ok hL d e ha hb]
  rw [show (rvAt us o).op = n from c2]
  simp [rvAt]
 simp only [decide_eq_false_iff_not] at h2
 rw [if_neg h2]
 cases h3 : decide (k = 3) <;> rw [h3] at h <;> simp only [cond_true, cond_false] at h
 case true =>
  simp only [decide_eq_true_eq] at h3
  obtain ⟨a, hA, h⟩ := ob_some h
  obtain ⟨b, hb, h⟩ := ob_some h
  cases h
  rw [if_pos h3, strX_cons (by decide), strX_append, opX_ok hL d e ha hA, strX_cons (by decide), strX_cons (by decide), strX_append, opX_ok hL d e ha hb]
  rfl
 simp only [decide_eq_false_iff_not] at h3
 rw [if_neg h3]
 cases h4 : (decide (k = 4) || decide (k = 5)) <;> rw [h4] at h <;> simp only [cond_true, cond_false] at h
 ·cases h
 obtain ⟨s, hs, h⟩ := ob_some h
 obtain ⟨n, hn, h⟩ := ob_some h
 obtain ⟨p, hp, h⟩ := ob_some h
 cases h
 obtain ⟨u2, k2, v2, c2⟩ := cellX ha hs
 rw [kindX_ok hn v2] at c2
 rw [strX_append, strX_bytes, plcX_ok hL e ha hp, show (rvAt us o).bo = n from c2]
 rfl
theorem ofXs_ok {l : List Nat} {u : Value} (h : VS r (S.ofXs l) u) : u = .string ⟨(strX Base.sig l).toArray⟩ := by
 unfold S.ofXs at h
 cases hp : l.all (fun n => Nat.blt n 256) with
 | false => rw [hp] at h; exact h
 | true =>
  rw [hp] at h
  have h : u = .string ⟨(l.map UInt8.ofNat).toArray⟩ := h
  rw [strX_plain _ hp]
  exact h
end
def Texts (P : Program) (Q : World → Prop) (F : FuncId) (ks : List Kd) (e : E) (T : List Value → List UInt8) (val : List UInt8 → Value) : Prop :=
 ∀ us, All2 Kd.ok ks us → e.val us = true → ∀ w : World, Q w → Calls P F #[.agg us.toArray] w fun x w' => x = .returned (val (T us)) ∧ Below w.heap.size w w'
def vS1 (l : List UInt8) : Value := .string ⟨l.toArray⟩
def vS2 (l : List UInt8) : Value := .tuple #[.string ⟨l.toArray⟩, .int .i64 0]
def mS1 (x : S) : V := V.s x
def mS2 (x : S) : V := .t [.s x, .s (.int .i64 0)]
theorem mS2_ok (b0 : Base) (r : Ren) (l : List Nat) (u : Value) (h : @VV b0 r (mS2 (S.ofXs l)) u) : u = vS2 (strX b0.sig l) := by
 obtain ⟨us, rfl, h⟩ := h
 match us, h with
 | [x, y], ⟨h1, h2, _⟩ =>
  rw [@ofXs_ok b0 r l x h1, show y = .int .i64 0 from h2]
  rfl
noncomputable def textAt (e : E) (ks : List Kd) (mk : S → V) (exp : Option (List Nat)) (L : Lf) (r : R) : Bool :=
 Option.rec false (fun b => bif b then Option.rec false (fun l => sayV (mk (S.ofXs l)) r) exp else true) (@E.abs (L.know (strsT 0 ks)) ((cellsT 0 ks).map L.nS) e)
noncomputable def cellsL (ks : List Kd) (L : Lf) : List S := (cellsT 0 ks).map L.nS
section
variable {F : FuncId} {ks : List Kd} {e : E} {T : List Value → List UInt8} {val : List UInt8 → Value} {pls : List Pl}
noncomputable def libT (ks : List Kd) (pls : List Pl) (L : Lf) : Oracle := fun f a h fl => orR (valid4 (L.know (strsT 0 ks)) f a h fl) (orcX L ks pls noO f a h fl)
noncomputable def runT (F : FuncId) (ks : List Kd) (pls : List Pl) (L : Lf) : R := @runs (L.know (strsT 0 ks)) (tyOf Tryd.prog) (fnOf Tryd.prog) (libT ks pls L) 30 15 F [.g (cellsL ks L)] ⟨[], 0⟩ 0
theorem texts_of {mk : S → V} (hmk : ∀ (b0 : Base) r l u, @VV b0 r (mk (S.ofXs l)) u → u = val (strX b0.sig l)) (exp : Lf → List S → Option (List Nat))
  (hexp : ∀ (b0 : Base) (L : Lf) (r : Ren) (xs : List S) (us : List Value) (l : List Nat), L.Holds b0.rho b0.sig → Dec ks b0.rho b0.sig → PlE ks.length pls b0.rho b0.sig → @All2 _ _ (@VS b0 r) xs us → exp L xs = some l → strX b0.sig l = T us)
  (hpl : pls.all (fun p => decide (p.1 < ks.length) && decide (p.2.1 < ks.length) && decide (p.2.2 < ks.length)) = true) {sp : Sp}
  (hrun : ((sp.leaves (Lf.startX [(true, ks)] pls.length)).all fun L => textAt e ks mk (exp L (cellsL ks L)) L (runT F ks pls L)) = true) : Texts Tryd.prog TabOk F ks e T val := by
 intro us hk he w hw
 have hg : Gps [(true, ks)] [.agg us.toArray] us := ⟨us, [], (List.append_nil _).symm, ⟨hk, .inl ⟨rfl, rfl⟩⟩, rfl⟩
 have hks : kindsT [(true, ks)] = ks := by simp [kindsT]
 have hlen : us.length = ks.length := by have := hk.len; omega
 have kk := lens_withX hg (plX_len us pls)
 have d := dec_withX hg (plX us pls)
 have ee : PlE ks.length pls (rhoOf (withX us (plX us pls))) (sigOf (withX us (plX us pls))) := by
  rw [← hlen]
  exact plX_E (by rw [hlen]; exact hpl)
 rw [hks] at kk d
 have hl : (plX us pls).length = pls.length := by simp [plX]
 have hst := Lf.startX_ok hg (plX_len us pls)
 rw [hl] at hst
 obtain ⟨L, hm, hL⟩ := sp.cover hst
 have hp := List.all_eq_true.1 hrun L hm
 letI b0 : Base := base0 w (Lf.ok hL kk)
 have ha' : All2 (VA r0) [.g (cellsT 0 ks)] [.agg us.toArray] :=
  argsT_ok (cs := withX us (plX us pls)) rfl rfl ((plX us pls).map fun x => .string ⟨x.toArray⟩) (gs := [(true, ks)]) (pre := []) (cs' := us) rfl hg
 have ha := Lf.nAs_ok hL ha'
 unfold textAt at hp
 cases hb : @E.abs (L.know (strsT 0 ks)) ((cellsT 0 ks).map L.nS) e with
 | none => rw [hb] at hp; cases hp
 | some b =>
  rw [hb] at hp
  have ha2 := ha
  obtain ⟨⟨us', e1, hus⟩, _⟩ := ha2
  have e1 : Value.agg us.toArray = .agg us'.toArray := e1
  obtain rfl : us = us' := by simpa using e1
  have hbv := E.abs_ok hus hb
  rw [he] at hbv
  subst hbv
  have hp : (Option.rec false (fun l => sayV (mk (S.ofXs l)) (runT F ks pls L)) (exp L (cellsL ks L)) : Bool) = true := hp
  cases hx : exp L (cellsL ks L) with
  | none => rw [hx] at hp; cases hp
  | some l =>
   rw [hx] at hp
   obtain ⟨h', hr⟩ := sayV_is hp
   have hS : Sound Tryd.prog (@runs (L.know (strsT 0 ks)) (tyOf Tryd.prog) (fnOf Tryd.prog) (libT ks pls L) 30 15) :=
    @sound_runs w _ _ _ (Lf.ok hL kk) _ (@sound_or (base0 w (Lf.ok hL kk)) _ _ _ (sound_valid4 (base0 w (Lf.ok hL kk))) (sound_orcX hL kk d ee hw (sound_no _))) 30 15
   refine (calls_flat w hw.size (fun _ _ => rfl) hS ha hr).mono fun x w' ⟨u, r', e1, e2, e3⟩ => ⟨?_, e3⟩
   rw [e1, hmk b0 _ _ _ e2, hexp b0 L r0 _ _ _ hL d ee hus hx]
end
end Go.Proofs.YtglmonlofejcgaaDoor.Am
namespace Go.Proofs.YtglmonlofejcgaaDoor.Am
open Go.RowKit
set_option maxRecDepth 100000
def tlP : List Pl := [(0, (1, 2))]
def tlT : Sp := .cut 0 0 .leaf (.cut 0 16 (.cut 2 3 .leaf .leaf) .leaf)
theorem tplA_texts : Texts Tryd.prog TabOk 31 kPl (okPlE 0) (fun us => placeT (cellI us 0) (decide (cellI us 1 = 1)) (cellI us 2)) vS2 := texts_of mS2_ok (pls := tlP) (fun L xs => plcX kPl tlP L xs 0) (fun b0 L r xs us l hL d e ha h => @plcX_ok b0 r L kPl tlP xs us hL e ha 0 l h) (by kernel_rfl) (sp := tlT) (by kernel_rfl)
def tpP : List Pl := [(2, (3, 4))]
noncomputable def tp0L : Lf := Lf.startX [(true, kOp)] tpP.length
def tp0T : Sp := (.cut 0 1 .leaf (.cut 0 2 (.conj [(2, 0), (3, 0), (4, 0)] .leaf .leaf) (.cut 0 3 (.cut 1 0 .leaf (.cut 1 1 (.cut 2 0 .leaf (.cut 2 16 (.cut 4 3 .leaf .leaf) .leaf)) .leaf)) (.cut 0 4 (.cut 1 0 .leaf (.cut 1 1 (.cut 2 0 .leaf (.cut 2 16 (.cut 4 3 .leaf .leaf) .leaf)) .leaf)) .leaf))))
noncomputable def goodT_topA (L : Lf) : Bool := textAt (okOpE 0) kOp mS2 ((fun L xs => opX kOp tpP L xs 0) L (cellsL kOp L)) L (runT 30 kOp tpP L)
theorem topA_tp0 : (tp0T.leaves tp0L).all goodT_topA = true := by kernel_rfl
theorem topA_texts : Texts Tryd.prog TabOk 30 kOp (okOpE 0) (fun us => opT (opdAt us 0)) vS2 := texts_of mS2_ok (pls := tpP) (fun L xs => (fun L xs => opX kOp tpP L xs 0) L xs) (fun b0 L r xs us l hL d e ha h => @opX_ok b0 r L kOp tpP xs us hL d e ha 0 l h) (by kernel_rfl) (sp := tp0T) topA_tp0
end Go.Proofs.YtglmonlofejcgaaDoor.Am
namespace Go.Proofs.YtglmonlofejcgaaDoor.Am
open Go.RowKit
def joinK (sep : List UInt8) : List (List UInt8) → List UInt8
 | [] => []
 | [x] => x
 | x :: y :: r => x ++ sep ++ joinK sep (y :: r)
theorem joinK_eq (sep : List UInt8) : ∀ ss : List (List UInt8), joinK sep ss = Lib.join ss sep
 | [] => by simp [joinK, Lib.join]
 | [x] => by simp [joinK, Lib.join]
 | x :: y :: r => by
  have ih := joinK_eq sep (y :: r)
  unfold Lib.join at ih ⊢
  rw [joinK, ih]
  simp [List.intercalate, List.intersperse]
end Go.Proofs.YtglmonlofejcgaaDoor.Am
namespace Go.Proofs.YtglmonlofejcgaaDoor.Am
open Go.RowKit
theorem TabOk.all {w w0 : World} (k : TabOk w0) (h : ∀ b, b < 3 → w.heap[b]? = w0.heap[b]?) : TabOk w := by
 refine ⟨?_, k.here h⟩
 have hs := k.size
 have h3 : w0.heap[2]? = some w0.heap[2] := Array.getElem?_eq_getElem (by omega)
 have := (Array.getElem?_eq_some_iff.1 ((h 2 (by decide)).trans h3)).1
 omega
end Go.Proofs.YtglmonlofejcgaaDoor.Am
namespace Go.Proofs.YtglmonlofejcgaaDoor.Am
open Go.RowKit
set_option maxRecDepth 100000
set_option linter.unusedVariables false
set_option linter.unusedSectionVars false
def joinN (sep : List Nat) : List (List Nat) → List Nat
 | [] => []
 | [x] => x
 | x :: y :: r => x ++ (sep ++ joinN sep (y :: r))
noncomputable def joinXO (K : Know) : Oracle := fun f args h _ => bif f == 32 then (match args with
 | [.s (.sl l o n 1 _), .s sep] => ob sep.txt fun sp => ob (h.read l o n) fun cs => ob (mapO S.txt cs) fun ss => ob (@mxX K (joinN sp ss)) fun m => bif Nat.ble m 1000000 && Nat.ble n 1000000 then some (V.s (S.ofXs (joinN sp ss)), h) else none
 | [.s .nils, .s sep] => ob sep.txt fun _ => some (V.s (.str []), h)
 | _ => none) else none
theorem strX_joinN [Base] (sig : Nat → List UInt8) (sep : List Nat) : ∀ ss : List (List Nat), strX sig (joinN sep ss) = joinK (strX sig sep) (ss.map (strX sig))
 | [] => rfl
 | [x] => rfl
 | x :: y :: r => by
  have ih := strX_joinN sig sep (y :: r)
  rw [joinN, strX_append, strX_append, ih]
  simp only [List.map_cons, joinK, List.append_assoc]
theorem ofXs_vs (b0 : Base) {r : Ren} (l : List Nat) : @VS b0 r (S.ofXs l) (.string ⟨(strX b0.sig l).toArray⟩) := by
 unfold S.ofXs
 cases h : l.all (fun n => Nat.blt n 256)
 ·rfl
 ·show _ = Value.string _
  rw [strX_plain b0.sig h]
theorem txts_ok (b0 : Base) {r : Ren} : ∀ {cs : List S} {ss : List (List Nat)} {us : List Value}, mapO S.txt cs = some ss → All2 (@VS b0 r) cs us → us = ss.map fun l => Value.string ⟨(strX b0.sig l).toArray⟩
 | [], ss, [], h, _ => by cases h; rfl
 | [], _, _ :: _, _, h => h.elim
 | _ :: _, _, [], _, h => h.elim
 | c :: cs, ss, u :: us, h, k => by
  rw [mapO_cons] at h
  obtain ⟨l, hl, h⟩ := ob_some h
  obtain ⟨q, hq, h⟩ := ob_some h
  cases h
  rw [List.map_cons, @txt_ok b0 _ _ _ hl _ k.1, txts_ok b0 hq k.2]
theorem sound_joinX (b0 : Base) : @Sound b0 Tryd.prog (joinXO b0.toKnow) := by
 intro f args h fl v h' e
 unfold joinXO at e
 cases hf : (f == 32) <;> rw [hf] at e <;> simp only [cond_true, cond_false] at e
 ·cases e
 obtain rfl : f = 32 := by simpa using hf
 refine ⟨⟨_, Tryd.func32, by kernel_rfl, by kernel_rfl⟩, fun r B w vs hi ha => ?_⟩
 split at e
 ·rename_i l o n c sepS
  obtain ⟨sep, hsep, e⟩ := ob_some e
  obtain ⟨cs, hcs, e⟩ := ob_some e
  obtain ⟨ss, hss, e⟩ := ob_some e
  obtain ⟨m, hm, e⟩ := ob_some e
  cases hb : (Nat.ble m 1000000 && Nat.ble n 1000000) <;> rw [hb] at e <;> simp only [cond_true, cond_false] at e
  ·cases e
  cases e
  simp only [Bool.and_eq_true] at hb
  have hb1 := Nat.le_of_ble_eq_true hb.1
  have hb2 := Nat.le_of_ble_eq_true hb.2
  obtain ⟨u1, u2, rfl, hu1, hu2⟩ := all2_two ha
  have hu2 := @txt_ok b0 _ _ _ hsep _ hu2
  subst hu2
  obtain ⟨cc, rfl, hl, _, hn, _⟩ := sl_val hu1
  obtain ⟨us, k1, k2, k3⟩ := read_ok hi hcs
  obtain rfl := txts_ok b0 hss k1
  have hlen : ss.length = n := by simpa using k2
  have hmx : (joinK (strX b0.sig sep) (ss.map (strX b0.sig))).length ≤ m := by rw [← strX_joinN]; exact mxX_ok hm
  have hres : ∀ r', VV r' (V.s (S.ofXs (joinN sep ss))) (.string ⟨(Lib.join (ss.map (strX b0.sig)) (strX b0.sig sep)).toArray⟩) := fun r' => by
   have := ofXs_vs b0 (r := r') (joinN sep ss)
   rw [strX_joinN, joinK_eq] at this
   exact this
  rw [joinK_eq] at hmx
  rcases Nat.eq_zero_or_pos n with h0 | h0
  ·subst h0
   have : ss = [] := List.eq_nil_of_length_eq_zero hlen
   subst this
   refine (Tryd.strings_Join_none _ _ _ w).mono fun e w' ⟨e1, e2⟩ => ⟨_, e1, Post.below hi (by rw [e2]; exact Below.refl _ _) (hres r)⟩
  ·have hcell : ∀ (j : Nat) x, (ss.map fun l => (⟨(strX b0.sig l).toArray⟩ : ByteArray))[j]? = some x → w.cell? ⟨r.blk l, r.off l + o + j, none⟩ = some (.string x) := fun j x hx => by
    simp only [List.getElem?_map, Option.map_eq_some_iff] at hx
    obtain ⟨s, hs, rfl⟩ := hx
    have := k3 j (.string ⟨(strX b0.sig s).toArray⟩) (by simp [hs])
    rw [← this]
    simp [Ren.at, Nat.add_assoc]
   have hblk : r.blk l < w.heap.size := by
    obtain ⟨s, hs⟩ : ∃ s, ss[0]? = some s := ⟨ss[0], by rw [List.getElem?_eq_getElem]⟩
    have := hcell 0 _ (by rw [List.getElem?_map, hs]; rfl)
    unfold World.cell? at this
    by_cases hlt : r.blk l < w.heap.size
    ·exact hlt
    ·rw [Array.getElem?_eq_none (Nat.le_of_not_lt hlt)] at this
     cases this
   have hmap : ((ss.map fun l => (⟨(strX b0.sig l).toArray⟩ : ByteArray)).map fun x => x.data.toList) = ss.map (strX b0.sig) := by simp [List.map_map, Function.comp_def]
   have hj := Tryd.strings_Join (r.blk l) (r.off l + o) cc (ss.map fun l => ⟨(strX b0.sig l).toArray⟩) ⟨(strX b0.sig sep).toArray⟩ w hcell hblk (by simp; omega) (by simp; omega) (by rw [hmap]; show (Lib.join _ (strX b0.sig sep).toArray.toList).length ≤ _; simp; omega)
   rw [hmap] at hj
   simp only [List.length_map, hlen] at hj
   refine Calls.mono hj fun e w' ⟨e1, e2⟩ => ⟨_, e1, Post.below hi e2 ?_⟩
   have := hres r
   simpa using this
 ·obtain ⟨u1, u2, rfl, hu1, hu2⟩ := all2_two ha
  rename_i sep
  obtain ⟨sp, hsep, e⟩ := ob_some e
  cases hu1; cases e
  have hu2 := @txt_ok b0 _ _ _ hsep _ hu2
  subst hu2
  exact (Tryd.strings_Join_none _ _ _ w).mono fun e w' ⟨e1, e2⟩ => ⟨_, e1, Post.below hi (by rw [e2]; exact Below.refl _ _) rfl⟩
 ·cases e
end Go.Proofs.YtglmonlofejcgaaDoor.Am
namespace Go.Proofs.YtglmonlofejcgaaDoor.Am
open Go.RowKit
set_option maxRecDepth 100000
set_option linter.unusedVariables false
set_option linter.unusedSectionVars false
def gotoN : List Nat := [103, 111, 116, 111, 32, 98]
def branchN : List Nat := [98, 114, 97, 110, 99, 104, 32]
def bN : List Nat := [32, 98]
def returnN : List Nat := [114, 101, 116, 117, 114, 110]
def abortN : List Nat := [97, 98, 111, 114, 116]
def fN : List Nat := [32, 58, 61, 32, 102]
def openN : List Nat := [40]
def commaN : List Nat := [44, 32]
def closeN : List Nat := [41, 32, 98]
def expJ (c n : Nat) : List Nat := match c with
 | 1 => gotoN ++ [256 + 15]
 | 2 => branchN ++ ([256 + 13] ++ (bN ++ ([256 + 15] ++ (bN ++ [256 + 16]))))
 | 3 => returnN
 | 4 => [256 + 14] ++ (fN ++ ([256 + 17] ++ (openN ++ (joinN commaN ((List.range n).map fun i => [256 + (18 + i)]) ++ (closeN ++ [256 + 15])))))
 | _ => abortN
noncomputable def LT (c n : Nat) : Lf := bif Nat.beq c 4 then onlyB (onlyB (Lf.startB [(true, kJ)] (List.replicate (5 + n) (0, 30)) []) 0 4) 9 n else onlyB (Lf.startB [(true, kJ)] (List.replicate (5 + n) (0, 30)) []) 0 c
def elT (n i : Nat) : List S := cellsT (18 + n + 5 * i) opK
def tbT (n : Nat) : Tabs := ⟨[(0, 9)], (List.range n).map fun (i : Nat) => ((0 : Nat), N.c (i : Int), elT n i), []⟩
noncomputable def cjT (c n : Nat) : List S := cellsJ.map (LT c n).nS
noncomputable def rowsT0 (c n : Nat) : List Oracle :=
 [rowG 27 [.g (cjT c n)] (m8 true), rowG 69 [.g (cjT c n)] (mB true)] ++
 [(7, 15), (8, 16), (6, 17)].flatMap fun (p : Nat × Nat) => [rowG 29 [.s (.xi .i64 p.1)] (mS1 (.xs [256 + p.2]))]
noncomputable def rowsTA (c n : Nat) : List Oracle := [rowG 30 [.g (clL (LT c n) 1 opK)] (mS2 (.xs [256 + 13]))]
noncomputable def rowsTD (c n : Nat) : List Oracle := [rowG 31 [.g (clL (LT c n) 10 kPl)] (mS2 (.xs [256 + 14]))]
noncomputable def rowsTE (n : Nat) : List Oracle := (List.range n).flatMap fun (i : Nat) => [rowG 30 [.g (elT n i)] (mS2 (.xs [256 + (18 + i)]))]
noncomputable def rowsT (c n : Nat) : List Oracle := rowsT0 c n ++ (bif Nat.beq c 2 then rowsTA c n else bif Nat.beq c 4 then rowsTD c n ++ (rowsTE n ++ [joinXO ((LT c n).know (strsB 13 (5 + n)))]) else [])
noncomputable def runTJ (F : FuncId) (c n : Nat) : R := @runsL ((LT c n).know (strsB 13 (5 + n))) (tyOf Tryd.prog) (fnOf Tryd.prog) (orcs (rowsT c n)) (tbT n) (fun _ _ _ _ => none) 30 15 F (([.g cellsJ] : List A).map (LT c n).nA) ⟨[], 0⟩ 0
noncomputable def goodTJ (F : FuncId) (c n : Nat) : Bool := sayV (mS2 (S.ofXs (expJ c n))) (runTJ F c n)
theorem textA_runs : ([1, 2, 3, 5].all fun c => goodTJ 14 c 0) = true := by kernel_rfl
theorem textA_calls : ((List.range 9).all fun n => goodTJ 14 4 n) = true := by kernel_rfl
end Go.Proofs.YtglmonlofejcgaaDoor.Am
