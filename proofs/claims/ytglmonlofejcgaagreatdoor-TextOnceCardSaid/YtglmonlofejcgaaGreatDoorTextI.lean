/- One text for each sound function, and for each list of them. In plain words. -/
import Derived.Test.YtglmonlofejcgaaGreatDoorTextQ
import Derived.Test.YtglmonlofejcgaaGreatDoorJumpOne
import Derived.Test.YtglmonlofejcgaaGreatDoorCore
import Derived.Test.YtglmonlofejcgaaGreatDoorPgK
open List renaming mem_cons_of_mem → apu, mem_cons_self → apv, getElem?_eq_getElem → apw, all_eq_true → apx, append_cancel_left → apy, cons_append → apB, append_right_inj → apC, getD_eq_getElem?_getD → apD, map_cons → apE, getElem?_eq_none → apF, all_cons → apG, getElem?_range → apH, getElem_mem → apJ, length_cons → apK, all_append → apL
open Bool renaming and_eq_true → apA
open Option renaming getD_some → apI
set_option linter.unusedVariables false
namespace Go.Proofs.YtglmonlofejcgaaGreatDoor
namespace txt
open Go.RowKit Am
theorem aja {α : Type} {p : α -> Bool} : ∀ {a b s t : List α}, a.all p = true -> b.all p = true -> (∀ x r, s = x :: r -> p x = false) -> (∀ x r, t = x :: r -> p x = false) -> a ++ s = b ++ t -> a = b /\ s = t
 | [], [], _, _, _, _, _, _, e => ⟨rfl, e⟩
 | [], y :: b, s, t, _, hb, hs, _, e => by
  have := hs y (b ++ t) e
  simp only [apG, apA] at hb
  rw [hb.1] at this
  cases this
 | x :: a, [], s, t, ha, _, _, ht, e => by
  have := ht x (a ++ s) e.symm
  simp only [apG, apA] at ha
  rw [ha.1] at this
  cases this
 | x :: a, y :: b, s, t, ha, hb, hs, ht, e => by
  simp only [apG, apA] at ha hb
  obtain ⟨h1, h2⟩ := List.cons.inj (show x :: (a ++ s) = y :: (b ++ t) from e)
  obtain ⟨h3, h4⟩ := aja ha.2 hb.2 hs ht h2
  exact ⟨by rw [h1, h3], h4⟩
def hd0 (c : UInt8) (l : List UInt8) : Bool := match l with
 | [] => false
 | x :: _ => x == c
theorem agc {n m p q : Int} {u v : Bool} (hn : I64 n) (hm : I64 m) (hp : I64 p) (hq : I64 q) (e : lN n p u = lN m q v) : n = m /\ p = q /\ u = v := by
 unfold lN at e
 have e := (apC [102, 110, 32]).1 e
 obtain ⟨h1, e⟩ := zQ hn hm (iK _ (by decide)) (iK _ (by decide)) e
 have e := (apC [32, 40]).1 e
 obtain ⟨h2, e⟩ := zQ hp hq (iK _ (by decide)) (iK _ (by decide)) e
 refine ⟨h1, h2, ?_⟩
 have e := (apC [41]).1 e
 cases u <;> cases v <;> first | rfl | cases e
theorem aj9 : ∀ p ∈ D6, ∀ q ∈ D6, pI (Uw p) = pI (Uw q) -> p = q := by decide
theorem alq {t u : List Value} (ht : ak Kd.ok [.i .u8, .i .u8] t) (hu : ak Kd.ok [.i .u8, .i .u8] u) (kt : ng t = true) (ku : ng u = true) (e : pI t = pI u) : t = u := by
 obtain ⟨p, hp, rfl⟩ := uH ht kt
 obtain ⟨q, hq, rfl⟩ := uH hu ku
 rw [aj9 p hp q hq e]
structure Jt (w : World) (D : FnD) : Prop where
 p : I64 D.p
 ok : akN D
 lkd : ∀ t ∈ D.ls, ak Kd.ok [.i .u8, .i .u8] t
 blk : ∀ b ∈ D.bs, jY w b
theorem Vo {w : World} {v : Value} {D : FnD} (h : aV w v D) (hc : check.jK D = 0) : Jt w D := by
 refine ⟨?_, jW hc, h.lkd, h.blk⟩
 obtain ⟨p, e, hp⟩ := h.pk
 cases e
 exact hp
theorem aeX {D E : FnD} (hD : D.ls.length <= 1000) (hE : E.ls.length <= 1000) (k1 : ∀ t ∈ D.ls, ak Kd.ok [.i .u8, .i .u8] t /\ ng t = true) (k2 : ∀ t ∈ E.ls, ak Kd.ok [.i .u8, .i .u8] t /\ ng t = true) (e : lC D D.ls.length = lC E E.ls.length) : D.ls = E.ls := by
 have hl : D.ls.length = E.ls.length := by have := congrArg List.length e; rwa [qH, qH] at this
 refine List.ext_getElem? fun i => ?_
 by_cases hi : i < D.ls.length
 ·have hj : i < E.ls.length := by omega
  have q := congrArg (fun l => l[i]?) e
  simp only [lC, List.getElem?_map, apH hi, apH hj, Option.map_some, Option.some.injEq] at q
  rw [apD, apD, apw hi, apw hj, apI, apI] at q
  rw [apw hi, apw hj]
  unfold GU at q
  have q := apy (apy (List.cons.inj q).2)
  obtain ⟨a1, a2⟩ := k1 _ (apJ hi)
  obtain ⟨b1, b2⟩ := k2 _ (apJ hj)
  rw [alq a1 b1 a2 b2 q]
 ·rw [apF (by omega), apF (by omega)]
def qR : Nat -> List bK -> List (List UInt8)
 | _, [] => []
 | i, b :: bs => CG i b ++ qR (i + 1) bs
theorem Eu : ∀ (bs : List bK) (i : Nat), qR i bs = (List.range bs.length).flatMap fun k => CG (i + k) (bs.getD k noB)
 | [], _ => rfl
 | b :: bs, i => by
  rw [qR, Eu bs (i + 1), apK, List.range_succ_eq_map, List.flatMap_cons, List.flatMap_map]
  congr 1
  congr 1
  funext k
  rw [show i + 1 + k = i + (k + 1) by omega]
  rfl
theorem QL (D : FnD) : lW D D.bs.length = qR 0 D.bs := by
 rw [Eu]
 unfold lW
 congr 1
 funext k
 rw [Nat.zero_add]
theorem zN : ∀ {bs : List bK} {i : Nat} {x : List UInt8} {r : List (List UInt8)}, qR i bs = x :: r -> hd0 98 x = true
 | [], _, _, _, h => by cases h
 | b :: bs, i, x, r, h => by
  unfold qR CG at h
  rw [apB] at h
  rw [<- (List.cons.inj h).1]
  rfl
theorem alG (s : List Value) : hd0 32 (stL s) = true := rfl
theorem amT (b : bK) : hd0 32 (jmL b) = true := rfl
theorem Gz {c d : UInt8} (hcd : c ≠ d) {l : List UInt8} (h : hd0 c l = true) : hd0 d l = false := by
 unfold hd0 at *
 cases l with
 | nil => rfl
 | cons x r =>
  have : x = c := by simpa using h
  subst this
  simpa using hcd
theorem a9U (b : bK) : (b.st.map stL ++ [jmL b]).all (hd0 32) = true := by
 rw [apL, List.all_map]
 simp only [apA]
 exact ⟨apx.2 fun s _ => alG s, by simp [amT]⟩
theorem Xk : ∀ {a b : List (List Value)}, (∀ s ∈ a, ak Kd.ok vW s /\ dn.val s = true) -> (∀ s ∈ b, ak Kd.ok vW s /\ dn.val s = true) -> a.map stL = b.map stL -> a = b
 | [], [], _, _, _ => rfl
 | [], _ :: _, _, _, e => by cases e
 | _ :: _, [], _, _, e => by cases e
 | x :: a, y :: b, ha, hb, e => by
  obtain ⟨h1, h2⟩ := List.cons.inj (show stL x :: a.map stL = stL y :: b.map stL from e)
  unfold stL at h1
  obtain ⟨k1, k2⟩ := ha x apv
  obtain ⟨m1, m2⟩ := hb y apv
  rw [jumpOne.aki k1 m1 k2 m2 (apy h1), Xk (fun s hs => ha s (apu _ hs)) (fun s hs => hb s (apu _ hs)) h2]
theorem ajO {w : World} {b c : bK} (hb : jY w b) (hc : jY w c) (sb : ∀ s ∈ b.st, dn.val s = true) (sc : ∀ s ∈ c.st, dn.val s = true) (jb : okJ b.pre b.ops b.post = true) (jc : okJ c.pre c.ops c.post = true)
  (e : b.st.map stL ++ [jmL b] = c.st.map stL ++ [jmL c]) : b.core = c.core := by
 obtain ⟨h1, h2⟩ := List.append_inj' e rfl
 have h2 := (List.cons.inj h2).1
 have h3 := Xk (fun s hs => ⟨hb.skd s hs, sb s hs⟩) (fun s hs => ⟨hc.skd s hs, sc s hs⟩) h1
 unfold jmL at h2
 obtain ⟨h4, h5, h6⟩ := jumpOne.all_eq (oM hb) (oM hc) jb jc (apy h2)
 unfold bK.core
 rw [h3, h4, h5, h6]
theorem Wh {w : World} : ∀ {a b : List bK} {i : Nat}, (∀ x ∈ a, jY w x /\ (∀ s ∈ x.st, dn.val s = true) /\ okJ x.pre x.ops x.post = true) -> (∀ x ∈ b, jY w x /\ (∀ s ∈ x.st, dn.val s = true) /\ okJ x.pre x.ops x.post = true) -> qR i a = qR i b -> a.map bK.core = b.map bK.core
 | [], [], _, _, _, _ => rfl
 | [], y :: b, i, _, _, e => by unfold qR CG at e; cases e
 | x :: a, [], i, _, _, e => by unfold qR CG at e; cases e
 | x :: a, y :: b, i, ha, hb, e => by
  unfold qR CG at e
  have e := (List.cons.inj e).2
  obtain ⟨h1, h2⟩ := aja (a9U x) (a9U y) (fun _ _ q => Gz (by decide) (zN q)) (fun _ _ q => Gz (by decide) (zN q)) e
  obtain ⟨a1, a2, a3⟩ := ha x apv
  obtain ⟨b1, b2, b3⟩ := hb y apv
  rw [apE, apE, ajO a1 b1 a2 b2 a3 b3 h1, Wh (fun x hx => ha x (apu _ hx)) (fun x hx => hb x (apu _ hx)) h2]
theorem Uk (D : FnD) (i : Nat) : (lC D i).all (hd0 120) = true := by
 unfold lC
 rw [List.all_map]
 exact apx.2 fun _ _ => rfl
theorem SE {w : World} {D E : FnD} (hD : Jt w D) (hE : Jt w E) {n m : Int} (hn : I64 n) (hm : I64 m) (e : lg D n = lg E m) : n = m /\ D.core = E.core := by
 unfold lg at e
 obtain ⟨e1, e2⟩ := List.cons.inj e
 obtain ⟨h1, h2, h3⟩ := agc hn hm hD.p hE.p e1
 rw [QL, QL] at e2
 obtain ⟨h4, h5⟩ := aja (Uk D _) (Uk E _) (fun _ _ q => Gz (by decide) (zN q)) (fun _ _ q => Gz (by decide) (zN q)) e2
 have h6 := aeX (by have := hD.ok.l1; omega) (by have := hE.ok.l1; omega) (fun t ht => ⟨hD.lkd t ht, hD.ok.ty t ht⟩) (fun t ht => ⟨hE.lkd t ht, hE.ok.ty t ht⟩) h4
 have h7 := Wh (fun x hx => ⟨hD.blk x hx, hD.ok.st x hx, hD.ok.jm x hx⟩) (fun x hx => ⟨hE.blk x hx, hE.ok.st x hx, hE.ok.jm x hx⟩) h5
 refine ⟨h1, ?_⟩
 unfold FnD.core
 rw [h2, h3, h6, h7]
theorem Oz {w : World} {D E : FnD} (hD : Jt w D) (hE : Jt w E) {n m : Int} (hn : I64 n) (hm : I64 m) (e : textF D n = textF E m) : n = m /\ D.core = E.core :=
 SE hD hE hn hm (a08 (Ld D n) (Ld E m) e)
def ru : Nat -> List FnD -> List (List UInt8)
 | _, [] => []
 | i, D :: Ds => lg D (i : Nat) ++ ru (i + 1) Ds
open prg (fU)
theorem PY : ∀ (i : Nat) (Ds : List FnD), fU i Ds = nl (ru i Ds)
 | _, [] => rfl
 | i, D :: Ds => by rw [fU, ru, Gg, PY (i + 1) Ds]; rfl
theorem H8 : ∀ (i : Nat) (Ds : List FnD), ∀ l ∈ ru i Ds, lu l
 | _, [], _, h => by cases h
 | i, D :: Ds, l, h => (List.mem_append.1 h).elim (Ld D _ l) (H8 (i + 1) Ds l)
theorem Qr : ∀ {Ds : List FnD} {i : Nat} {x : List UInt8} {r : List (List UInt8)}, ru i Ds = x :: r -> hd0 102 x = true
 | [], _, _, _, h => by cases h
 | D :: Ds, i, x, r, h => by
  unfold ru lg at h
  rw [apB] at h
  rw [<- (List.cons.inj h).1]
  rfl
theorem a2u (D : FnD) : (lC D D.ls.length ++ lW D D.bs.length).all (fun l => !hd0 102 l) = true := by
 rw [apL, apA]
 constructor
 ·exact apx.2 fun l hl => by rw [Gz (c := 120) (by decide) (apx.1 (Uk D _) l hl)]; rfl
 ·refine apx.2 fun l hl => ?_
  obtain ⟨k, _, hl⟩ := List.mem_flatMap.1 hl
  rcases List.mem_cons.1 hl with rfl | hl
  ·rfl
  ·rw [Gz (c := 32) (by decide) (apx.1 (a9U _) l hl)]; rfl
theorem OG {w : World} : ∀ {a b : List FnD} {i : Nat}, (∀ D ∈ a, Jt w D) -> (∀ D ∈ b, Jt w D) -> i + a.length <= 1000 -> i + b.length <= 1000 -> ru i a = ru i b -> a.map FnD.core = b.map FnD.core
 | [], [], _, _, _, _, _, _ => rfl
 | [], y :: b, i, _, _, _, _, e => by unfold ru lg at e; cases e
 | x :: a, [], i, _, _, _, _, e => by unfold ru lg at e; cases e
 | x :: a, y :: b, i, ha, hb, la, lb, e => by
  unfold ru lg at e
  rw [apB, apB] at e
  obtain ⟨e1, e2⟩ := List.cons.inj e
  obtain ⟨h1, h2⟩ := aja (a2u x) (a2u y) (fun _ _ q => by rw [Qr q]; rfl) (fun _ _ q => by rw [Qr q]; rfl) e2
  rw [apK] at la lb
  have hi : I64 (i : Nat) := ⟨by omega, by omega⟩
  have h3 := (SE (ha x apv) (hb y apv) hi hi (show lN _ _ _ :: _ = lN _ _ _ :: _ from by rw [e1, h1])).2
  rw [apE, apE, h3, OG (fun x hx => ha x (apu _ hx)) (fun x hx => hb x (apu _ hx)) (by omega) (by omega) h2]
theorem TD {w : World} {a b : List FnD} (ha : ∀ D ∈ a, Jt w D) (hb : ∀ D ∈ b, Jt w D) (la : a.length <= 8) (lb : b.length <= 8) (e : fU 0 a = fU 0 b) : a.map FnD.core = b.map FnD.core := by
 rw [PY, PY] at e
 exact OG ha hb (by omega) (by omega) (a08 (H8 0 a) (H8 0 b) e)
end txt
end Go.Proofs.YtglmonlofejcgaaGreatDoor
