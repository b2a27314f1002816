/- Texts of numbers, places and operands: what they are made of, and that each is the text of one alone. (No program in sight.) Texts of operands and rvalues, out of their cells; functions of one struct that answer with a text. -/
import Derived.Test.YtglmonlofejcgaaDoorOrcU
import Derived.Test.YtglmonlofejcgaaDoorTests4
namespace Go.Proofs.YtglmonlofejcgaaDoor.Am
open Go.RowKit

/-! digits -/
def unG (a : Nat) (c : UInt8) : Nat := 10 * a + (c.toNat - 48)
theorem toNat_48 {u : Nat} (h : u < 10) : (UInt8.ofNat (48 + u)).toNat = 48 + u := by
  rw [UInt8.toNat_ofNat']
  omega
theorem decF_back : ∀ (f u : Nat) (acc : List UInt8), u < 10 ^ f → (decF f u acc).foldl unG 0 = acc.foldl unG u
  | 0, u, acc, h => by
    have : u = 0 := by simp at h; exact h
    subst this
    rfl
  | f + 1, u, acc, h => by
    rw [decF]
    cases hu : Nat.blt u 10 with
    | true =>
      have hu : u < 10 := by simpa [Nat.blt_eq] using hu
      simp only [cond_true, List.foldl_cons, unG, toNat_48 hu]
      congr 1
      omega
    | false =>
      simp only [cond_false]
      rw [decF_back f (u / 10) _ (by rw [Nat.pow_succ] at h; omega)]
      simp only [List.foldl_cons, unG, toNat_48 (Nat.mod_lt u (by decide : 0 < 10))]
      congr 1
      omega
def isDig (c : UInt8) : Bool := Nat.ble 48 c.toNat && Nat.ble c.toNat 57
theorem isDig_48 {u : Nat} (h : u < 10) : isDig (UInt8.ofNat (48 + u)) = true := by
  unfold isDig
  rw [toNat_48 h]
  simp
  omega
theorem decF_dig : ∀ (f u : Nat) (acc : List UInt8), acc.all isDig = true → (decF f u acc).all isDig = true
  | 0, _, _, h => h
  | f + 1, u, acc, h => by
    rw [decF]
    cases hu : Nat.blt u 10 with
    | true =>
      have hu : u < 10 := by simpa [Nat.blt_eq] using hu
      simp only [cond_true, List.all_cons, isDig_48 hu, h, Bool.and_self]
    | false =>
      exact decF_dig f _ _ (by simp only [List.all_cons, isDig_48 (Nat.mod_lt u (by decide : 0 < 10)), h, Bool.and_self])
def I64 (n : Int) : Prop := -9223372036854775808 ≤ n ∧ n ≤ 9223372036854775807
/-- a byte of a number's text: a digit, or '-' -/
def isNum (c : UInt8) : Bool := isDig c || c == 45
theorem decT_num (n : Int) : (decT n).all isNum = true := by
  have key : ∀ l : List UInt8, l.all isDig = true → l.all isNum = true := fun l h => by
    simp only [List.all_eq_true] at h ⊢
    exact fun c hc => by simp [isNum, h c hc]
  cases n with
  | ofNat u => exact key _ (decF_dig 20 u [] rfl)
  | negSucc u => simp only [decT, List.all_cons, key _ (decF_dig 20 (u + 1) [] rfl), Bool.and_true]; decide
theorem decT_inj {n m : Int} (hn : I64 n) (hm : I64 m) (h : decT n = decT m) : n = m := by
  unfold I64 at hn hm
  have no : ∀ (u v : Nat), decF 20 u [] = 45 :: decF 20 v [] → False := fun u v e => by
    have := decF_dig 20 u [] rfl
    rw [e] at this
    simp only [List.all_cons, Bool.and_eq_true] at this
    exact absurd this.1 (by decide)
  have back : ∀ u, u < 10 ^ 20 → (decF 20 u []).foldl unG 0 = u := fun u hu => decF_back 20 u [] hu
  cases n with
  | ofNat u =>
    cases m with
    | ofNat v =>
      have h : decF 20 u [] = decF 20 v [] := h
      have e := congrArg (List.foldl unG 0) h
      rw [back u (by simp only [Int.ofNat_eq_natCast] at hn; omega), back v (by simp only [Int.ofNat_eq_natCast] at hm; omega)] at e
      rw [e]
    | negSucc v => exact (no _ _ h).elim
  | negSucc u =>
    cases m with
    | ofNat v => exact (no _ _ h.symm).elim
    | negSucc v =>
      have h : 45 :: decF 20 (u + 1) [] = 45 :: decF 20 (v + 1) [] := h
      have e := congrArg (List.foldl unG 0) (List.cons.inj h).2
      rw [back (u + 1) (by omega), back (v + 1) (by omega)] at e
      rw [show u = v by omega]
/-! what is before the first byte of another kind -/
def stop (p : UInt8 → Bool) (l : List UInt8) : Prop := ∀ c r, l = c :: r → p c = false
theorem stop_cons {p : UInt8 → Bool} {c : UInt8} (r : List UInt8) (h : p c = false) : stop p (c :: r) := fun _ _ e => by cases e; exact h
theorem cut_eq {p : UInt8 → Bool} : ∀ {a b s t : List UInt8}, a.all p = true → b.all p = true → stop p s → stop p t → a ++ s = b ++ t → a = b ∧ s = t
  | [], [], _, _, _, _, _, _, e => ⟨rfl, e⟩
  | [], y :: b, s, t, _, hb, hs, _, e => by
    have := hs y (b ++ t) e
    simp only [List.all_cons, Bool.and_eq_true] at hb
    rw [hb.1] at this
    cases this
  | x :: a, [], s, t, ha, _, _, ht, e => by
    have := ht x (a ++ s) e.symm
    simp only [List.all_cons, Bool.and_eq_true] at ha
    rw [ha.1] at this
    cases this
  | x :: a, y :: b, s, t, ha, hb, hs, ht, e => by
    simp only [List.all_cons, Bool.and_eq_true] at ha hb
    simp only [List.cons_append, List.cons.injEq] at e
    obtain ⟨h1, h2⟩ := cut_eq ha.2 hb.2 hs ht e.2
    exact ⟨by rw [e.1, h1], h2⟩

/-! places -/
/-- a byte of a place's text -/
def isPlc (c : UInt8) : Bool := isNum c || c == 42 || c == 120 || c == 46
def fldT (f : Int) : List UInt8 := if f = 1 then [46, 49] else if f = 2 then [46, 50] else []
theorem placeT_eq (l : Int) (d : Bool) (f : Int) : placeT l d f = (bif d then [42] else []) ++ (120 :: (decT l ++ fldT f)) := by
  unfold placeT fldT
  simp
theorem placeT_plc (l : Int) (d : Bool) (f : Int) : (placeT l d f).all isPlc = true := by
  have h1 : (decT l).all isPlc = true := by
    have := decT_num l
    simp only [List.all_eq_true] at this ⊢
    exact fun c hc => by simp [isPlc, this c hc]
  have h2 : (fldT f).all isPlc = true := by
    unfold fldT
    split
    · decide
    · split <;> decide
  rw [placeT_eq]
  simp only [List.all_append, List.all_cons, h1, h2, Bool.and_true]
  cases d <;> decide
/-! operands -/
/-- an operand: its kind, number, place -/
structure Opd where
  k : Int
  n : Int
  l : Int
  d : Bool
  f : Int
/-- a valid one -/
def Opd.Ok (o : Opd) : Prop := (o.k = 1 ∧ I64 o.n ∧ o.l = 0 ∧ o.d = false ∧ o.f = 0) ∨ ((o.k = 2 ∨ o.k = 3) ∧ o.n = 0 ∧ InP o.l o.f)
def copyT : List UInt8 := [99, 111, 112, 121, 32]
def moveT : List UInt8 := [109, 111, 118, 101, 32]
def opT (o : Opd) : List UInt8 := if o.k = 1 then decT o.n else if o.k = 2 then copyT ++ placeT o.l o.d o.f else moveT ++ placeT o.l o.d o.f
/-! rvalues -/
structure Rv where
  k : Int
  a : Opd
  b : Opd
  op : Int
  bo : Int
  l : Int
  d : Bool
  f : Int
def Opd.no : Opd := ⟨0, 0, 0, false, 0⟩
/-- a valid one: a use, two with a sign, a pair, a reference, a raw pointer -/
def Rv.Ok (r : Rv) : Prop :=
  (r.k = 1 ∧ r.a.Ok ∧ r.b = Opd.no ∧ r.op = 0 ∧ r.bo = 0 ∧ r.l = 0 ∧ r.d = false ∧ r.f = 0) ∨
  (r.k = 2 ∧ r.a.Ok ∧ r.b.Ok ∧ (1 ≤ r.op ∧ r.op ≤ 6) ∧ r.bo = 0 ∧ r.l = 0 ∧ r.d = false ∧ r.f = 0) ∨
  (r.k = 3 ∧ r.a.Ok ∧ r.b.Ok ∧ r.op = 0 ∧ r.bo = 0 ∧ r.l = 0 ∧ r.d = false ∧ r.f = 0) ∨
  (r.k = 4 ∧ r.a = Opd.no ∧ r.b = Opd.no ∧ r.op = 0 ∧ (1 ≤ r.bo ∧ r.bo ≤ 3) ∧ InP r.l r.f) ∨
  (r.k = 5 ∧ r.a = Opd.no ∧ r.b = Opd.no ∧ r.op = 0 ∧ r.bo = 0 ∧ InP r.l r.f)
def sgn (op : Int) : UInt8 := if op = 1 then 43 else if op = 2 then 45 else if op = 3 then 42 else if op = 4 then 47 else if op = 5 then 60 else 61
/-- what stands before the place -/
def borT (k bo : Int) : List UInt8 := if k = 5 then [38, 114, 97, 119, 32] else if bo = 1 then [38] else if bo = 2 then [38, 109, 117, 116, 32] else [38, 116, 119, 111, 32]
def rvT (r : Rv) : List UInt8 :=
  if r.k = 1 then opT r.a
  else if r.k = 2 then opT r.a ++ (32 :: sgn r.op :: 32 :: opT r.b)
  else if r.k = 3 then 40 :: (opT r.a ++ (44 :: 32 :: (opT r.b ++ [41])))
  else borT r.k r.bo ++ placeT r.l r.d r.f
/-- what an rvalue begins with -/
inductive Rv.As (r : Rv) : Prop where
  | use (h : r = ⟨1, r.a, Opd.no, 0, 0, 0, false, 0⟩) (a : r.a.Ok)
  | bin (h : r = ⟨2, r.a, r.b, r.op, 0, 0, false, 0⟩) (a : r.a.Ok) (b : r.b.Ok) (o : 1 ≤ r.op ∧ r.op ≤ 6)
  | pair (h : r = ⟨3, r.a, r.b, 0, 0, 0, false, 0⟩) (a : r.a.Ok) (b : r.b.Ok)
  | ref (h : r = ⟨r.k, Opd.no, Opd.no, 0, r.bo, r.l, r.d, r.f⟩) (k : (r.k = 4 ∧ 1 ≤ r.bo ∧ r.bo ≤ 3) ∨ (r.k = 5 ∧ r.bo = 0)) (p : InP r.l r.f)
end Go.Proofs.YtglmonlofejcgaaDoor.Am
namespace Go.Proofs.YtglmonlofejcgaaDoor.Am
open Go.RowKit
set_option linter.unusedSectionVars false
set_option linter.unusedVariables false

def opdAt (us : List Value) (o : Nat) : Opd := ⟨cellI us o, cellI us (o + 1), cellI us (o + 2), decide (cellI us (o + 3) = 1), cellI us (o + 4)⟩
def rvAt (us : List Value) (o : Nat) : Rv := ⟨cellI us o, opdAt us (o + 3), opdAt us (o + 8), cellI us (o + 1), cellI us (o + 2), cellI us (o + 13), decide (cellI us (o + 14) = 1), cellI us (o + 15)⟩
/-! texts of cells that are not written out -/
noncomputable def bytesX (l : List UInt8) : List Nat := l.map UInt8.toNat
noncomputable def numX (ks : List Kd) (x : S) : Option (List Nat) := match x with
  | .int _ m => some (bytesX (decT m))
  | .xi .i64 i => bif isI64 (nth ks i) then some [256 + i] else none
  | _ => none
noncomputable def plcX (ks : List Kd) (pls : List Pl) (L : Lf) (xs : List S) (o : Nat) : Option (List Nat) :=
  ob (nth xs o) fun x => ob (nth xs (o + 1)) fun y => ob (nth xs (o + 2)) fun z => ob (findPl L [x, y, z] ks.length pls) fun h => some [h]
noncomputable def kindX (x : S) : Option Int := match x with | .int _ n => some n | _ => none
noncomputable def opX (ks : List Kd) (pls : List Pl) (L : Lf) (xs : List S) (o : Nat) : Option (List Nat) :=
  ob (nth xs o) fun k => ob (kindX k) fun k =>
    bif decide (k = 1) then ob (nth xs (o + 1)) (numX ks)
    else bif decide (k = 2) then ob (plcX ks pls L xs (o + 2)) fun p => some (bytesX copyT ++ p)
    else bif decide (k = 3) then ob (plcX ks pls L xs (o + 2)) fun p => some (bytesX moveT ++ p)
    else none
noncomputable def rvX (ks : List Kd) (pls : List Pl) (L : Lf) (xs : List S) (o : Nat) : Option (List Nat) :=
  ob (nth xs o) fun k => ob (kindX k) fun k =>
    bif decide (k = 1) then opX ks pls L xs (o + 3)
    else bif decide (k = 2) then ob (opX ks pls L xs (o + 3)) fun a => ob (nth xs (o + 1)) fun s => ob (kindX s) fun s => ob (opX ks pls L xs (o + 8)) fun b => some (a ++ (32 :: (sgn s).toNat :: 32 :: b))
    else bif decide (k = 3) then ob (opX ks pls L xs (o + 3)) fun a => ob (opX ks pls L xs (o + 8)) fun b => some (40 :: (a ++ (44 :: 32 :: (b ++ [41]))))
    else bif decide (k = 4) || decide (k = 5) then ob (nth xs (o + 2)) fun s => ob (kindX s) fun s => ob (plcX ks pls L xs (o + 13)) fun p => some (bytesX (borT k s) ++ p)
    else none
theorem strX_bytes (sig : Nat → List UInt8) : ∀ l : List UInt8, strX sig (bytesX l) = l
  | [] => rfl
  | c :: l => by
    have h : Nat.blt c.toNat 256 = true := by
      have := c.toNat_lt
      rw [Nat.blt_eq]
      exact this
    show (bif Nat.blt c.toNat 256 then [UInt8.ofNat c.toNat] else sig (c.toNat - 256)) ++ strX sig (bytesX l) = _
    rw [h, strX_bytes sig l]
    simp
section
variable [Base] {r : Ren} {L : Lf} {ks : List Kd} {pls : List Pl} {xs : List S} {us : List Value}
theorem kindX_ok {x : S} {k : Int} (h : kindX x = some k) {v : Value} (hv : VS r x v) : codeI v = k := by
  unfold kindX at h
  split at h
  · cases h; cases hv; rfl
  · cases h
theorem cellX (ha : All2 (VS r) xs us) {i : Nat} {x : S} (h : nth xs i = some x) : ∃ v, us[i]? = some v ∧ VS r x v ∧ cellI us i = codeI v := by
  obtain ⟨v, hv, hx⟩ := All2.nth ha h
  exact ⟨v, hv, hx, cellI_at hv⟩
theorem numX_ok (d : Dec ks Base.rho Base.sig) {x : S} {l : List Nat} (h : numX ks x = some l) {v : Value} (hv : VS r x v) : strX Base.sig l = decT (codeI v) := by
  unfold numX at h
  split at h
  · cases h; cases hv
    exact strX_bytes _ _
  · rename_i i
    cases hi : isI64 (nth ks i) <;> rw [hi] at h <;> simp only [cond_true, cond_false] at h
    · cases h
    · cases h; cases hv
      rw [strX_one]
      exact (d i (isI64_ok hi)).1
  · cases h
theorem plcX_ok (hL : L.Holds Base.rho Base.sig) (e : PlE ks.length pls Base.rho Base.sig) (ha : All2 (VS r) xs us) {o : Nat} {l : List Nat} (h : plcX ks pls L xs o = some l) :
    strX Base.sig l = placeT (cellI us o) (decide (cellI us (o + 1) = 1)) (cellI us (o + 2)) := by
  obtain ⟨x, hx, h⟩ := ob_some h
  obtain ⟨y, hy, h⟩ := ob_some h
  obtain ⟨z, hz, h⟩ := ob_some h
  obtain ⟨n, hn, h⟩ := ob_some h
  cases h
  obtain ⟨u1, k1, v1, c1⟩ := cellX ha hx
  obtain ⟨u2, k2, v2, c2⟩ := cellX ha hy
  obtain ⟨u3, k3, v3, c3⟩ := cellX ha hz
  obtain ⟨j, p, hj, rfl, hp, hok⟩ := findPl_ok hn
  have hv : All2 (VS r) ((plT p).map L.nS) [u1, u2, u3] := by
    rw [hp]
    exact ⟨v1, v2, v3, trivial⟩
  have hu := pl_vals hL hv
  simp only [List.cons.injEq, and_true] at hu
  obtain ⟨e1, e2, e3⟩ := hu
  rw [strX_one, e j p hj (okPl_in hL hok), c1, c2, c3, e1, e2, e3]
  simp only [codeI]
  congr 1
  cases hd : decide (Base.rho p.2.1 = 1) <;> rfl
theorem opX_ok (hL : L.Holds Base.rho Base.sig) (d : Dec ks Base.rho Base.sig) (e : PlE ks.length pls Base.rho Base.sig) (ha : All2 (VS r) xs us) {o : Nat} {l : List Nat} (h : opX ks pls L xs o = some l) :
    strX Base.sig l = opT (opdAt us o) := by
  obtain ⟨x, hx, h⟩ := ob_some h
  obtain ⟨k, hk, h⟩ := ob_some h
  obtain ⟨u, k1, v1, c1⟩ := cellX ha hx
  rw [kindX_ok hk v1] at c1
  unfold opT
  rw [show (opdAt us o).k = k from c1]
  cases h1 : decide (k = 1) <;> rw [h1] at h <;> simp only [cond_true, cond_false] at h
  · simp only [decide_eq_false_iff_not] at h1
    rw [if_neg h1]
    cases h2 : decide (k = 2) <;> rw [h2] at h <;> simp only [cond_true, cond_false] at h
    · simp only [decide_eq_false_iff_not] at h2
      rw [if_neg h2]
      cases h3 : decide (k = 3) <;> rw [h3] at h <;> simp only [cond_true, cond_false] at h
      · cases h
      · obtain ⟨p, hp, h⟩ := ob_some h
        cases h
        rw [strX_append, strX_bytes, plcX_ok hL e ha hp]
        rfl
    · simp only [decide_eq_true_eq] at h2
      rw [if_pos h2]
      obtain ⟨p, hp, h⟩ := ob_some h
      cases h
      rw [strX_append, strX_bytes, plcX_ok hL e ha hp]
      rfl
  · simp only [decide_eq_true_eq] at h1
    rw [if_pos h1]
    obtain ⟨y, hy, h⟩ := ob_some h
    obtain ⟨u2, k2, v2, c2⟩ := cellX ha hy
    rw [numX_ok d h v2, ← c2]
    rfl
theorem strX_cons {sig : Nat → List UInt8} {n : Nat} (h : n < 256) (l : List Nat) : strX sig (n :: l) = UInt8.ofNat n :: strX sig l := by
  show (bif Nat.blt n 256 then [UInt8.ofNat n] else sig (n - 256)) ++ strX sig l = _
  rw [show Nat.blt n 256 = true by rw [Nat.blt_eq]; exact h]
  rfl
theorem rvX_ok (hL : L.Holds Base.rho Base.sig) (d : Dec ks Base.rho Base.sig) (e : PlE ks.length pls Base.rho Base.sig) (ha : All2 (VS r) xs us) {o : Nat} {l : List Nat} (h : rvX ks pls L xs o = some l) :
    strX Base.sig l = rvT (rvAt us o) := by
  obtain ⟨x, hx, h⟩ := ob_some h
  obtain ⟨k, hk, h⟩ := ob_some h
  obtain ⟨u, k1, v1, c1⟩ := cellX ha hx
  rw [kindX_ok hk v1] at c1
  unfold rvT
  rw [show (rvAt us o).k = k from c1]
  cases h1 : decide (k = 1) <;> rw [h1] at h <;> simp only [cond_true, cond_false] at h
  case true =>
    simp only [decide_eq_true_eq] at h1
    rw [if_pos h1, opX_ok hL d e ha h]
    rfl
  simp only [decide_eq_false_iff_not] at h1
  rw [if_neg h1]
  cases h2 : decide (k = 2) <;> rw [h2] at h <;> simp only [cond_true, cond_false] at h
  case true =>
    simp only [decide_eq_true_eq] at h2
    obtain ⟨a, hA, h⟩ := ob_some h
    obtain ⟨s, hs, h⟩ := ob_some h
    obtain ⟨n, hn, h⟩ := ob_some h
    obtain ⟨b, hb, h⟩ := ob_some h
    cases h
    obtain ⟨u2, k2, v2, c2⟩ := cellX ha hs
    rw [kindX_ok hn v2] at c2
    rw [if_pos h2, strX_append, opX_ok hL d e ha hA, strX_cons (by decide), strX_cons (UInt8.toNat_lt _), strX_cons (by decide), opX_ok hL d e ha hb]
    rw [show (rvAt us o).op = n from c2]
    simp [rvAt]
  simp only [decide_eq_false_iff_not] at h2
  rw [if_neg h2]
  cases h3 : decide (k = 3) <;> rw [h3] at h <;> simp only [cond_true, cond_false] at h
  case true =>
    simp only [decide_eq_true_eq] at h3
    obtain ⟨a, hA, h⟩ := ob_some h
    obtain ⟨b, hb, h⟩ := ob_some h
    cases h
    rw [if_pos h3, strX_cons (by decide), strX_append, opX_ok hL d e ha hA, strX_cons (by decide), strX_cons (by decide), strX_append, opX_ok hL d e ha hb]
    rfl
  simp only [decide_eq_false_iff_not] at h3
  rw [if_neg h3]
  cases h4 : (decide (k = 4) || decide (k = 5)) <;> rw [h4] at h <;> simp only [cond_true, cond_false] at h
  · cases h
  obtain ⟨s, hs, h⟩ := ob_some h
  obtain ⟨n, hn, h⟩ := ob_some h
  obtain ⟨p, hp, h⟩ := ob_some h
  cases h
  obtain ⟨u2, k2, v2, c2⟩ := cellX ha hs
  rw [kindX_ok hn v2] at c2
  rw [strX_append, strX_bytes, plcX_ok hL e ha hp, show (rvAt us o).bo = n from c2]
  rfl
theorem ofXs_ok {l : List Nat} {u : Value} (h : VS r (S.ofXs l) u) : u = .string ⟨(strX Base.sig l).toArray⟩ := by
  unfold S.ofXs at h
  cases hp : l.all (fun n => Nat.blt n 256) with
  | false => rw [hp] at h; exact h
  | true =>
    rw [hp] at h
    have h : u = .string ⟨(l.map UInt8.ofNat).toArray⟩ := h
    rw [strX_plain _ hp]
    exact h
end

/-! functions of one struct that answer with a text -/
def Texts (P : Program) (Q : World → Prop) (F : FuncId) (ks : List Kd) (e : E) (T : List Value → List UInt8) (val : List UInt8 → Value) : Prop :=
  ∀ us, All2 Kd.ok ks us → e.val us = true → ∀ w : World, Q w → Calls P F #[.agg us.toArray] w fun x w' => x = .returned (val (T us)) ∧ Below w.heap.size w w'
def vS1 (l : List UInt8) : Value := .string ⟨l.toArray⟩
def vS2 (l : List UInt8) : Value := .tuple #[.string ⟨l.toArray⟩, .int .i64 0]
def mS1 (x : S) : V := V.s x
def mS2 (x : S) : V := .t [.s x, .s (.int .i64 0)]
theorem mS2_ok (b0 : Base) (r : Ren) (l : List Nat) (u : Value) (h : @VV b0 r (mS2 (S.ofXs l)) u) : u = vS2 (strX b0.sig l) := by
  obtain ⟨us, rfl, h⟩ := h
  match us, h with
  | [x, y], ⟨h1, h2, _⟩ =>
    rw [@ofXs_ok b0 r l x h1, show y = .int .i64 0 from h2]
    rfl
noncomputable def textAt (e : E) (ks : List Kd) (mk : S → V) (exp : Option (List Nat)) (L : Lf) (r : R) : Bool :=
  Option.rec false (fun b => bif b then Option.rec false (fun l => sayV (mk (S.ofXs l)) r) exp else true) (@E.abs (L.know (strsT 0 ks)) ((cellsT 0 ks).map L.nS) e)
noncomputable def cellsL (ks : List Kd) (L : Lf) : List S := (cellsT 0 ks).map L.nS
section
variable {F : FuncId} {ks : List Kd} {e : E} {T : List Value → List UInt8} {val : List UInt8 → Value} {pls : List Pl}
noncomputable def libT (ks : List Kd) (pls : List Pl) (L : Lf) : Oracle := fun f a h fl => orR (valid4 (L.know (strsT 0 ks)) f a h fl) (orcX L ks pls noO f a h fl)
noncomputable def runT (F : FuncId) (ks : List Kd) (pls : List Pl) (L : Lf) : R := @runs (L.know (strsT 0 ks)) (tyOf Tryd.prog) (fnOf Tryd.prog) (libT ks pls L) 30 15 F [.g (cellsL ks L)] ⟨[], 0⟩ 0
theorem texts_of {mk : S → V} (hmk : ∀ (b0 : Base) r l u, @VV b0 r (mk (S.ofXs l)) u → u = val (strX b0.sig l)) (exp : Lf → List S → Option (List Nat))
    (hexp : ∀ (b0 : Base) (L : Lf) (r : Ren) (xs : List S) (us : List Value) (l : List Nat), L.Holds b0.rho b0.sig → Dec ks b0.rho b0.sig → PlE ks.length pls b0.rho b0.sig → @All2 _ _ (@VS b0 r) xs us → exp L xs = some l → strX b0.sig l = T us)
    (hpl : pls.all (fun p => decide (p.1 < ks.length) && decide (p.2.1 < ks.length) && decide (p.2.2 < ks.length)) = true) {sp : Sp}
    (hrun : ((sp.leaves (Lf.startX [(true, ks)] pls.length)).all fun L => textAt e ks mk (exp L (cellsL ks L)) L (runT F ks pls L)) = true) : Texts Tryd.prog TabOk F ks e T val := by
  intro us hk he w hw
  have hg : Gps [(true, ks)] [.agg us.toArray] us := ⟨us, [], (List.append_nil _).symm, ⟨hk, .inl ⟨rfl, rfl⟩⟩, rfl⟩
  have hks : kindsT [(true, ks)] = ks := by simp [kindsT]
  have hlen : us.length = ks.length := by have := hk.len; omega
  have kk := lens_withX hg (plX_len us pls)
  have d := dec_withX hg (plX us pls)
  have ee : PlE ks.length pls (rhoOf (withX us (plX us pls))) (sigOf (withX us (plX us pls))) := by
    rw [← hlen]
    exact plX_E (by rw [hlen]; exact hpl)
  rw [hks] at kk d
  have hl : (plX us pls).length = pls.length := by simp [plX]
  have hst := Lf.startX_ok hg (plX_len us pls)
  rw [hl] at hst
  obtain ⟨L, hm, hL⟩ := sp.cover hst
  have hp := List.all_eq_true.1 hrun L hm
  letI b0 : Base := base0 w (Lf.ok hL kk)
  have ha' : All2 (VA r0) [.g (cellsT 0 ks)] [.agg us.toArray] :=
    argsT_ok (cs := withX us (plX us pls)) rfl rfl ((plX us pls).map fun x => .string ⟨x.toArray⟩) (gs := [(true, ks)]) (pre := []) (cs' := us) rfl hg
  have ha := Lf.nAs_ok hL ha'
  unfold textAt at hp
  cases hb : @E.abs (L.know (strsT 0 ks)) ((cellsT 0 ks).map L.nS) e with
  | none => rw [hb] at hp; cases hp
  | some b =>
    rw [hb] at hp
    have ha2 := ha
    obtain ⟨⟨us', e1, hus⟩, _⟩ := ha2
    have e1 : Value.agg us.toArray = .agg us'.toArray := e1
    obtain rfl : us = us' := by simpa using e1
    have hbv := E.abs_ok hus hb
    rw [he] at hbv
    subst hbv
    have hp : (Option.rec false (fun l => sayV (mk (S.ofXs l)) (runT F ks pls L)) (exp L (cellsL ks L)) : Bool) = true := hp
    cases hx : exp L (cellsL ks L) with
    | none => rw [hx] at hp; cases hp
    | some l =>
      rw [hx] at hp
      obtain ⟨h', hr⟩ := sayV_is hp
      have hS : Sound Tryd.prog (@runs (L.know (strsT 0 ks)) (tyOf Tryd.prog) (fnOf Tryd.prog) (libT ks pls L) 30 15) :=
        @sound_runs w _ _ _ (Lf.ok hL kk) _ (@sound_or (base0 w (Lf.ok hL kk)) _ _ _ (sound_valid4 (base0 w (Lf.ok hL kk))) (sound_orcX hL kk d ee hw (sound_no _))) 30 15
      refine (calls_flat w hw.size (fun _ _ => rfl) hS ha hr).mono fun x w' ⟨u, r', e1, e2, e3⟩ => ⟨?_, e3⟩
      rw [e1, hmk b0 _ _ _ e2, hexp b0 L r0 _ _ _ hL d ee hus hx]
end
end Go.Proofs.YtglmonlofejcgaaDoor.Am
