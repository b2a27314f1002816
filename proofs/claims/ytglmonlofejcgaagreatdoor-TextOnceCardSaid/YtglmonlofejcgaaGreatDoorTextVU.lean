/- Texts of numbers, places and operands: what they are made of, and that each is the text of one alone. (No program in sight.) -/
import Derived.Test.YtglmonlofejcgaaGreatDoorJump2
open List renaming append_cancel_left → apv, all_cons → apw, append_assoc → apy, cons_append → apz, append_nil → apA, all_eq_true → apC, foldl_cons → apD
open Bool renaming and_eq_true → apx
open Int renaming ofNat_eq_natCast → apB
namespace Go.Proofs.YtglmonlofejcgaaGreatDoor
namespace Am
open Go.RowKit
def unG (a : Nat) (c : UInt8) : Nat := 10 * a + (c.toNat - 48)
theorem NH {u : Nat} (h : u < 10) : (UInt8.ofNat (48 + u)).toNat = 48 + u := by
 rw [UInt8.toNat_ofNat']
 omega
theorem Tc : ∀ (f u : Nat) (acc : List UInt8), u < 10 ^ f -> (jS f u acc).foldl unG 0 = acc.foldl unG u
 | 0, u, acc, h => by
  have : u = 0 := by simp at h; exact h
  subst this
  rfl
 | f + 1, u, acc, h => by
  rw [jS]
  cases hu : Nat.blt u 10 with
  | true =>
   have hu : u < 10 := by simpa [Nat.blt_eq] using hu
   simp only [cond_true, apD, unG, NH hu]
   congr 1
   omega
  | false =>
   simp only [cond_false]
   rw [Tc f (u / 10) _ (by rw [Nat.pow_succ] at h; omega)]
   simp only [apD, unG, NH (Nat.mod_lt u (by decide : 0 < 10))]
   congr 1
   omega
def QK (c : UInt8) : Bool := Nat.ble 48 c.toNat && Nat.ble c.toNat 57
theorem Yd {u : Nat} (h : u < 10) : QK (UInt8.ofNat (48 + u)) = true := by
 unfold QK
 rw [NH h]
 simp
 omega
theorem DX : ∀ (f u : Nat) (acc : List UInt8), acc.all QK = true -> (jS f u acc).all QK = true
 | 0, _, _, h => h
 | f + 1, u, acc, h => by
  rw [jS]
  cases hu : Nat.blt u 10 with
  | true =>
   have hu : u < 10 := by simpa [Nat.blt_eq] using hu
   simp only [cond_true, apw, Yd hu, h, Bool.and_self]
  | false =>
   exact DX f _ _ (by simp only [apw, Yd (Nat.mod_lt u (by decide : 0 < 10)), h, Bool.and_self])
def I64 (n : Int) : Prop := -9223372036854775808 <= n /\ n <= 9223372036854775807
def isNum (c : UInt8) : Bool := QK c || c == 45
theorem nJ (n : Int) : (bM n).all isNum = true := by
 have key : ∀ l : List UInt8, l.all QK = true -> l.all isNum = true := fun l h => by
  simp only [apC] at h |-
  exact fun c hc => by simp [isNum, h c hc]
 cases n with
 | ofNat u => exact key _ (DX 20 u [] rfl)
 | negSucc u => simp only [bM, apw, key _ (DX 20 (u + 1) [] rfl), Bool.and_true]; decide
theorem tJ {n m : Int} (hn : I64 n) (hm : I64 m) (h : bM n = bM m) : n = m := by
 unfold I64 at hn hm
 have no : ∀ (u v : Nat), jS 20 u [] = 45 :: jS 20 v [] -> False := fun u v e => by
  have := DX 20 u [] rfl
  rw [e] at this
  simp only [apw, apx] at this
  exact absurd this.1 (by decide)
 have back : ∀ u, u < 10 ^ 20 -> (jS 20 u []).foldl unG 0 = u := fun u hu => Tc 20 u [] hu
 cases n with
 | ofNat u =>
  cases m with
  | ofNat v =>
   have h : jS 20 u [] = jS 20 v [] := h
   have e := congrArg (List.foldl unG 0) h
   rw [back u (by simp only [apB] at hn; omega), back v (by simp only [apB] at hm; omega)] at e
   rw [e]
  | negSucc v => exact (no _ _ h).elim
 | negSucc u =>
  cases m with
  | ofNat v => exact (no _ _ h.symm).elim
  | negSucc v =>
   have h : 45 :: jS 20 (u + 1) [] = 45 :: jS 20 (v + 1) [] := h
   have e := congrArg (List.foldl unG 0) (List.cons.inj h).2
   rw [back (u + 1) (by omega), back (v + 1) (by omega)] at e
   rw [show u = v by omega]
theorem a3X : ∀ (f u : Nat) (acc : List UInt8), 0 < f -> jS f u acc ≠ []
 | 0, _, _, h => absurd h (by decide)
 | f + 1, u, acc, _ => by
  rw [jS]
  cases Nat.blt u 10 with
  | true => simp
  | false =>
   simp only [cond_false]
   rcases Nat.eq_zero_or_pos f with rfl | hf
   ·simp [jS]
   ·exact a3X f _ _ hf
theorem akn (n : Int) : bM n ≠ [] := by
 cases n with
 | ofNat u => exact a3X 20 u [] (by decide)
 | negSucc u => simp [bM]
def stop (p : UInt8 -> Bool) (l : List UInt8) : Prop := ∀ c r, l = c :: r -> p c = false
theorem FD (p : UInt8 -> Bool) : stop p [] := fun _ _ h => by cases h
theorem iK {p : UInt8 -> Bool} {c : UInt8} (r : List UInt8) (h : p c = false) : stop p (c :: r) := fun _ _ e => by cases e; exact h
theorem xO {p : UInt8 -> Bool} : ∀ {a b s t : List UInt8}, a.all p = true -> b.all p = true -> stop p s -> stop p t -> a ++ s = b ++ t -> a = b /\ s = t
 | [], [], _, _, _, _, _, _, e => ⟨rfl, e⟩
 | [], y :: b, s, t, _, hb, hs, _, e => by
  have := hs y (b ++ t) e
  simp only [apw, apx] at hb
  rw [hb.1] at this
  cases this
 | x :: a, [], s, t, ha, _, _, ht, e => by
  have := ht x (a ++ s) e.symm
  simp only [apw, apx] at ha
  rw [ha.1] at this
  cases this
 | x :: a, y :: b, s, t, ha, hb, hs, ht, e => by
  simp only [apw, apx] at ha hb
  simp only [apz, List.cons.injEq] at e
  obtain ⟨h1, h2⟩ := xO ha.2 hb.2 hs ht e.2
  exact ⟨by rw [e.1, h1], h2⟩
def Iw (c : UInt8) : Bool := isNum c || c == 42 || c == 120 || c == 46
def Js (f : Int) : List UInt8 := if f = 1 then [46, 49] else if f = 2 then [46, 50] else []
theorem mW (l : Int) (d : Bool) (f : Int) : bn l d f = (bif d then [42] else []) ++ (120 :: (bM l ++ Js f)) := by
 unfold bn Js
 simp
theorem QA (f : Int) : stop isNum (Js f) := by
 unfold Js
 split
 ·exact iK _ rfl
 ·split
  ·exact iK _ rfl
  ·exact FD _
theorem lY (l : Int) (d : Bool) (f : Int) : (bn l d f).all Iw = true := by
 have h1 : (bM l).all Iw = true := by
  have := nJ l
  simp only [apC] at this |-
  exact fun c hc => by simp [Iw, this c hc]
 have h2 : (Js f).all Iw = true := by
  unfold Js
  split
  ·decide
  ·split <;> decide
 rw [mW]
 simp only [List.all_append, apw, h1, h2, Bool.and_true]
 cases d <;> decide
theorem qV {l f l' f' : Int} {d d' : Bool} (h : InP l f) (h' : InP l' f') (e : bn l d f = bn l' d' f') : l = l' /\ d = d' /\ f = f' := by
 have a1 := h.l0; have a2 := h.l1; have a3 := h.f0; have a4 := h.f1
 have b1 := h'.l0; have b2 := h'.l1; have b3 := h'.f0; have b4 := h'.f1
 rw [mW, mW] at e
 have hd : d = d' /\ bM l ++ Js f = bM l' ++ Js f' := by
  cases d <;> cases d' <;> simp only [cond_true, cond_false, List.nil_append, apz, List.cons.injEq] at e
  ·exact ⟨rfl, e.2⟩
  ·exact absurd e.1 (by decide)
  ·exact absurd e.1 (by decide)
  ·exact ⟨rfl, e.2.2⟩
 obtain ⟨x1, x2⟩ := xO (nJ l) (nJ l') (QA f) (QA f') hd.2
 refine ⟨tJ ⟨by omega, by omega⟩ ⟨by omega, by omega⟩ x1, hd.1, ?_⟩
 have hf : f = 0 \/ f = 1 \/ f = 2 := by omega
 have hf' : f' = 0 \/ f' = 1 \/ f' = 2 := by omega
 rcases hf with rfl | rfl | rfl <;> rcases hf' with rfl | rfl | rfl <;> first | rfl | exact absurd x2 (by decide)
structure Opd where
 k : Int
 n : Int
 l : Int
 d : Bool
 f : Int
def Opd.Ok (o : Opd) : Prop := (o.k = 1 /\ I64 o.n /\ o.l = 0 /\ o.d = false /\ o.f = 0) \/ ((o.k = 2 \/ o.k = 3) /\ o.n = 0 /\ InP o.l o.f)
def Tz : List UInt8 := [99, 111, 112, 121, 32]
def RN : List UInt8 := [109, 111, 118, 101, 32]
def opT (o : Opd) : List UInt8 := if o.k = 1 then bM o.n else if o.k = 2 then Tz ++ bn o.l o.d o.f else RN ++ bn o.l o.d o.f
def Rest (t : List UInt8) : Prop := stop Iw t
theorem ak4 {c : UInt8} (h : Iw c = false) : isNum c = false := by
 unfold Iw at h
 simp only [Bool.or_eq_false_iff] at h
 exact h.1.1.1
theorem YV {t : List UInt8} (h : Rest t) : stop isNum t := fun c r e => ak4 (h c r e)
theorem wU {n : Int} {t : List UInt8} {c : UInt8} {r : List UInt8} (h : bM n ++ t = c :: r) : isNum c = true := by
 cases hd : bM n with
 | nil => exact absurd hd (akn n)
 | cons a l =>
  have hn := nJ n
  rw [hd] at h hn
  simp only [apz, List.cons.injEq] at h
  simp only [apw, apx] at hn
  rw [<- h.1]
  exact hn.1
theorem rD {o p : Opd} (ho : o.Ok) (hp : p.Ok) {t u : List UInt8} (ht : Rest t) (hu : Rest u) (e : opT o ++ t = opT p ++ u) : o = p /\ t = u := by
 obtain ⟨k, n, l, d, f⟩ := o
 obtain ⟨k', n', l', d', f'⟩ := p
 rcases ho with ⟨h1, h2, h3, h4, h5⟩ | ⟨h1, h2, h3⟩ <;> rcases hp with ⟨g1, g2, g3, g4, g5⟩ | ⟨g1, g2, g3⟩
 ·dsimp only at h1 h2 h3 h4 h5 g1 g2 g3 g4 g5
  subst h1 h3 h4 h5 g1 g3 g4 g5
  obtain ⟨x1, x2⟩ := xO (nJ n) (nJ n') (YV ht) (YV hu) e
  rw [tJ h2 g2 x1]
  exact ⟨rfl, x2⟩
 ·dsimp only at h1 h2 h3 h4 h5 g1 g2 g3
  subst h1
  exfalso
  rcases g1 with rfl | rfl
  ·exact absurd (wU (c := 99) (r := [111, 112, 121, 32] ++ bn l' d' f' ++ u) e) (by decide)
  ·exact absurd (wU (c := 109) (r := [111, 118, 101, 32] ++ bn l' d' f' ++ u) e) (by decide)
 ·dsimp only at h1 h2 h3 g1 g2 g3 g4 g5
  subst g1
  exfalso
  rcases h1 with rfl | rfl
  ·exact absurd (wU (c := 99) (r := [111, 112, 121, 32] ++ bn l d f ++ t) e.symm) (by decide)
  ·exact absurd (wU (c := 109) (r := [111, 118, 101, 32] ++ bn l d f ++ t) e.symm) (by decide)
 ·dsimp only at h1 h2 h3 g1 g2 g3
  subst h2 g2
  have key : bn l d f ++ t = bn l' d' f' ++ u -> (l = l' /\ d = d' /\ f = f') /\ t = u := fun e => by
   obtain ⟨x1, x2⟩ := xO (lY l d f) (lY l' d' f') ht hu e
   exact ⟨qV h3 g3 x1, x2⟩
  rcases h1 with rfl | rfl <;> rcases g1 with rfl | rfl
  ·have e : Tz ++ bn l d f ++ t = Tz ++ bn l' d' f' ++ u := e
   rw [apy, apy] at e
   obtain ⟨⟨rfl, rfl, rfl⟩, x⟩ := key (apv e)
   exact ⟨rfl, x⟩
  ·have e : (99 : UInt8) :: ([111, 112, 121, 32] ++ bn l d f ++ t) = 109 :: ([111, 118, 101, 32] ++ bn l' d' f' ++ u) := e
   exact absurd (List.cons.inj e).1 (by decide)
  ·have e : (109 : UInt8) :: ([111, 118, 101, 32] ++ bn l d f ++ t) = 99 :: ([111, 112, 121, 32] ++ bn l' d' f' ++ u) := e
   exact absurd (List.cons.inj e).1 (by decide)
  ·have e : RN ++ bn l d f ++ t = RN ++ bn l' d' f' ++ u := e
   rw [apy, apy] at e
   obtain ⟨⟨rfl, rfl, rfl⟩, x⟩ := key (apv e)
   exact ⟨rfl, x⟩
theorem Vf {o p : Opd} (ho : o.Ok) (hp : p.Ok) (e : opT o = opT p) : o = p :=
 (rD ho hp (t := []) (u := []) (FD _) (FD _) (by rw [e])).1
structure Rv where
 k : Int
 a : Opd
 b : Opd
 op : Int
 bo : Int
 l : Int
 d : Bool
 f : Int
def Opd.no : Opd := ⟨0, 0, 0, false, 0⟩
def Rv.Ok (r : Rv) : Prop :=
 (r.k = 1 /\ r.a.Ok /\ r.b = Opd.no /\ r.op = 0 /\ r.bo = 0 /\ r.l = 0 /\ r.d = false /\ r.f = 0) \/
 (r.k = 2 /\ r.a.Ok /\ r.b.Ok /\ (1 <= r.op /\ r.op <= 6) /\ r.bo = 0 /\ r.l = 0 /\ r.d = false /\ r.f = 0) \/
 (r.k = 3 /\ r.a.Ok /\ r.b.Ok /\ r.op = 0 /\ r.bo = 0 /\ r.l = 0 /\ r.d = false /\ r.f = 0) \/
 (r.k = 4 /\ r.a = Opd.no /\ r.b = Opd.no /\ r.op = 0 /\ (1 <= r.bo /\ r.bo <= 3) /\ InP r.l r.f) \/
 (r.k = 5 /\ r.a = Opd.no /\ r.b = Opd.no /\ r.op = 0 /\ r.bo = 0 /\ InP r.l r.f)
def sgn (op : Int) : UInt8 := if op = 1 then 43 else if op = 2 then 45 else if op = 3 then 42 else if op = 4 then 47 else if op = 5 then 60 else 61
def Oj (k bo : Int) : List UInt8 := if k = 5 then [38, 114, 97, 119, 32] else if bo = 1 then [38] else if bo = 2 then [38, 109, 117, 116, 32] else [38, 116, 119, 111, 32]
def rvT (r : Rv) : List UInt8 :=
 if r.k = 1 then opT r.a
 else if r.k = 2 then opT r.a ++ (32 :: sgn r.op :: 32 :: opT r.b)
 else if r.k = 3 then 40 :: (opT r.a ++ (44 :: 32 :: (opT r.b ++ [41])))
 else Oj r.k r.bo ++ bn r.l r.d r.f
theorem aif {o : Opd} (ho : o.Ok) {t : List UInt8} {c : UInt8} {r : List UInt8} (h : opT o ++ t = c :: r) : isNum c = true \/ c = 99 \/ c = 109 := by
 obtain ⟨k, n, l, d, f⟩ := o
 rcases ho with ⟨h1, _⟩ | ⟨h1 | h1, _⟩ <;> dsimp only at h1 <;> subst h1
 ·exact .inl (wU (n := n) h)
 ·have h : (99 : UInt8) :: ([111, 112, 121, 32] ++ bn l d f ++ t) = c :: r := h
  exact .inr (.inl (List.cons.inj h).1.symm)
 ·have h : (109 : UInt8) :: ([111, 118, 101, 32] ++ bn l d f ++ t) = c :: r := h
  exact .inr (.inr (List.cons.inj h).1.symm)
theorem GY {o : Opd} (ho : o.Ok) {t : List UInt8} {c : UInt8} {r : List UInt8} (hc : isNum c = false) (h1 : c ≠ 99) (h2 : c ≠ 109) (h : opT o ++ t = c :: r) : False := by
 rcases aif ho h with h | h | h
 ·rw [hc] at h; cases h
 ·exact h1 h
 ·exact h2 h
theorem KD {l f : Int} {d : Bool} {c : UInt8} {r : List UInt8} (h : bn l d f = c :: r) : c = 42 \/ c = 120 := by
 rw [mW] at h
 cases d
 ·exact .inr (List.cons.inj h).1.symm
 ·exact .inl (List.cons.inj h).1.symm
theorem a4U {l f : Int} {d : Bool} {c : UInt8} {r : List UInt8} (h1 : c ≠ 42) (h2 : c ≠ 120) (h : bn l d f = c :: r) : False := by
 rcases KD h with h | h
 ·exact h1 h
 ·exact h2 h
theorem aiK {a b : Int} (ha : 1 <= a /\ a <= 6) (hb : 1 <= b /\ b <= 6) (h : sgn a = sgn b) : a = b := by
 have h1 : a = 1 \/ a = 2 \/ a = 3 \/ a = 4 \/ a = 5 \/ a = 6 := by omega
 have h2 : b = 1 \/ b = 2 \/ b = 3 \/ b = 4 \/ b = 5 \/ b = 6 := by omega
 rcases h1 with rfl | rfl | rfl | rfl | rfl | rfl <;> rcases h2 with rfl | rfl | rfl | rfl | rfl | rfl <;> first | rfl | exact absurd h (by decide)
theorem pY (r : List UInt8) : Rest (32 :: r) := iK _ (by decide)
theorem Ux (r : List UInt8) : Rest (44 :: r) := iK _ (by decide)
theorem Vg (r : List UInt8) : Rest (41 :: r) := iK _ (by decide)
theorem ajD {k k' bo bo' l l' f f' : Int} {d d' : Bool} (hk : (k = 4 /\ 1 <= bo /\ bo <= 3) \/ (k = 5 /\ bo = 0)) (hk' : (k' = 4 /\ 1 <= bo' /\ bo' <= 3) \/ (k' = 5 /\ bo' = 0))
  (e : Oj k bo ++ bn l d f = Oj k' bo' ++ bn l' d' f') : k = k' /\ bo = bo' /\ bn l d f = bn l' d' f' := by
 have h1 : (k = 4 /\ bo = 1) \/ (k = 4 /\ bo = 2) \/ (k = 4 /\ bo = 3) \/ (k = 5 /\ bo = 0) := by omega
 have h2 : (k' = 4 /\ bo' = 1) \/ (k' = 4 /\ bo' = 2) \/ (k' = 4 /\ bo' = 3) \/ (k' = 5 /\ bo' = 0) := by omega
 have no : ∀ {c : UInt8} {r : List UInt8} {l f : Int} {d : Bool}, c ≠ 42 -> c ≠ 120 -> (38 : UInt8) :: bn l d f = 38 :: c :: r -> False := fun h1 h2 h => a4U h1 h2 (List.cons.inj h).2
 rcases h1 with ⟨rfl, rfl⟩ | ⟨rfl, rfl⟩ | ⟨rfl, rfl⟩ | ⟨rfl, rfl⟩ <;> rcases h2 with ⟨rfl, rfl⟩ | ⟨rfl, rfl⟩ | ⟨rfl, rfl⟩ | ⟨rfl, rfl⟩
 ·exact ⟨rfl, rfl, apv e⟩
 ·exact (no (c := 109) (by decide) (by decide) e).elim
 ·exact (no (c := 116) (by decide) (by decide) e).elim
 ·exact (no (c := 114) (by decide) (by decide) e).elim
 ·exact (no (c := 109) (by decide) (by decide) e.symm).elim
 ·exact ⟨rfl, rfl, apv e⟩
 ·exact absurd (List.cons.inj (List.cons.inj e).2).1 (by decide)
 ·exact absurd (List.cons.inj (List.cons.inj e).2).1 (by decide)
 ·exact (no (c := 116) (by decide) (by decide) e.symm).elim
 ·exact absurd (List.cons.inj (List.cons.inj e).2).1 (by decide)
 ·exact ⟨rfl, rfl, apv e⟩
 ·exact absurd (List.cons.inj (List.cons.inj e).2).1 (by decide)
 ·exact (no (c := 114) (by decide) (by decide) e.symm).elim
 ·exact absurd (List.cons.inj (List.cons.inj e).2).1 (by decide)
 ·exact absurd (List.cons.inj (List.cons.inj e).2).1 (by decide)
 ·exact ⟨rfl, rfl, apv e⟩
theorem KZ (k bo : Int) : ∃ r, Oj k bo = 38 :: r := by
 unfold Oj
 split
 ·exact ⟨_, rfl⟩
 ·split
  ·exact ⟨_, rfl⟩
  ·split <;> exact ⟨_, rfl⟩
inductive Rv.As (r : Rv) : Prop where
 | use (h : r = ⟨1, r.a, Opd.no, 0, 0, 0, false, 0⟩) (a : r.a.Ok)
 | bin (h : r = ⟨2, r.a, r.b, r.op, 0, 0, false, 0⟩) (a : r.a.Ok) (b : r.b.Ok) (o : 1 <= r.op /\ r.op <= 6)
 | pair (h : r = ⟨3, r.a, r.b, 0, 0, 0, false, 0⟩) (a : r.a.Ok) (b : r.b.Ok)
 | ref (h : r = ⟨r.k, Opd.no, Opd.no, 0, r.bo, r.l, r.d, r.f⟩) (k : (r.k = 4 /\ 1 <= r.bo /\ r.bo <= 3) \/ (r.k = 5 /\ r.bo = 0)) (p : InP r.l r.f)
theorem Rv.Ok.as {r : Rv} (h : r.Ok) : r.As := by
 obtain ⟨k, a, b, op, bo, l, d, f⟩ := r
 rcases h with ⟨rfl, ha, rfl, rfl, rfl, rfl, rfl, rfl⟩ | ⟨rfl, ha, hb, ho, rfl, rfl, rfl, rfl⟩ | ⟨rfl, ha, hb, rfl, rfl, rfl, rfl, rfl⟩ | ⟨rfl, rfl, rfl, rfl, hb, hp⟩ | ⟨rfl, rfl, rfl, rfl, rfl, hp⟩
 ·exact .use rfl ha
 ·exact .bin rfl ha hb ho
 ·exact .pair rfl ha hb
 ·exact .ref rfl (.inl ⟨rfl, hb⟩) hp
 ·exact .ref rfl (.inr ⟨rfl, rfl⟩) hp
theorem Ey {k bo l f : Int} {d : Bool} (hk : (k = 4 /\ 1 <= bo /\ bo <= 3) \/ (k = 5 /\ bo = 0)) (a b : Opd) : rvT ⟨k, a, b, 0, bo, l, d, f⟩ = Oj k bo ++ bn l d f := by
 unfold rvT
 rw [if_neg (by dsimp only; omega), if_neg (by dsimp only; omega), if_neg (by dsimp only; omega)]
theorem aly {r s : Rv} (hr : r.Ok) (hs : s.Ok) (e : rvT r = rvT s) : r = s := by
 have key : ∀ {r s : Rv}, r.As -> s.As -> rvT r = rvT s -> r = s \/ (s.k < r.k) := by
  intro r s hr hs e
  cases hr with
  | use h1 a1 =>
   cases hs with
   | use h2 a2 =>
    rw [h1, h2] at e
    rw [h1, h2, Vf a1 a2 e]
    exact .inl rfl
   | bin h2 a2 b2 o2 =>
    rw [h1, h2] at e
    have e : opT r.a ++ [] = opT s.a ++ (32 :: sgn s.op :: 32 :: opT s.b) := by rw [apA]; exact e
    exact absurd (rD a1 a2 (FD _) (pY _) e).2 (by simp)
   | pair h2 a2 b2 =>
    rw [h1, h2] at e
    exact (GY a1 (c := 40) (t := []) (by decide) (by decide) (by decide) (by rw [apA]; exact e)).elim
   | ref h2 k2 p2 =>
    rw [h1, h2, Ey k2] at e
    obtain ⟨q, hq⟩ := KZ s.k s.bo
    rw [hq] at e
    exact (GY a1 (c := 38) (t := []) (by decide) (by decide) (by decide) (by rw [apA]; exact e)).elim
  | bin h1 a1 b1 o1 =>
   cases hs with
   | use h2 a2 => exact .inr (by rw [h1, h2]; show (_ : Int) < _; dsimp only; omega)
   | bin h2 a2 b2 o2 =>
    rw [h1, h2] at e
    obtain ⟨x1, x2⟩ := rD a1 a2 (pY _) (pY _) e
    simp only [List.cons.injEq] at x2
    rw [h1, h2, x1, aiK o1 o2 x2.2.1, Vf b1 b2 x2.2.2.2]
    exact .inl rfl
   | pair h2 a2 b2 =>
    rw [h1, h2] at e
    exact (GY a1 (c := 40) (by decide) (by decide) (by decide) e).elim
   | ref h2 k2 p2 =>
    rw [h1, h2, Ey k2] at e
    obtain ⟨q, hq⟩ := KZ s.k s.bo
    rw [hq] at e
    exact (GY a1 (c := 38) (by decide) (by decide) (by decide) e).elim
  | pair h1 a1 b1 =>
   cases hs with
   | use h2 a2 => exact .inr (by rw [h1, h2]; show (_ : Int) < _; dsimp only; omega)
   | bin h2 a2 b2 o2 => exact .inr (by rw [h1, h2]; show (_ : Int) < _; dsimp only; omega)
   | pair h2 a2 b2 =>
    rw [h1, h2] at e
    have e := (List.cons.inj e).2
    obtain ⟨x1, x2⟩ := rD a1 a2 (Ux _) (Ux _) e
    simp only [List.cons.injEq, true_and] at x2
    obtain ⟨x3, _⟩ := rD b1 b2 (Vg _) (Vg _) x2
    rw [h1, h2, x1, x3]
    exact .inl rfl
   | ref h2 k2 p2 =>
    rw [h1, h2, Ey k2] at e
    obtain ⟨q, hq⟩ := KZ s.k s.bo
    rw [hq] at e
    exact absurd (List.cons.inj e).1 (by decide)
  | ref h1 k1 p1 =>
   cases hs with
   | use h2 a2 => exact .inr (by rw [h2]; dsimp only; omega)
   | bin h2 a2 b2 o2 => exact .inr (by rw [h2]; dsimp only; omega)
   | pair h2 a2 b2 => exact .inr (by rw [h2]; dsimp only; omega)
   | ref h2 k2 p2 =>
    rw [h1, h2, Ey k1, Ey k2] at e
    obtain ⟨x1, x2, x3⟩ := ajD k1 k2 e
    obtain ⟨y1, y2, y3⟩ := qV p1 p2 x3
    rw [h1, h2, x1, x2, y1, y2, y3]
    exact .inl rfl
 rcases key hr.as hs.as e with h | h
 ·exact h
 ·rcases key hs.as hr.as e.symm with h' | h'
  ·exact h'.symm
  ·omega
end Am
end Go.Proofs.YtglmonlofejcgaaGreatDoor
