/- fnshape.twos counts; it tells which locals are two-phase, and whether they are right. fnshape.twos: arguments, blocks, the last loop; what it answers. -/
import Derived.Test.YtglmonlofejcgaaGreatDoorFn10
set_option maxRecDepth 100000
open List renaming mem_cons → apu, not_mem_nil → apw, headD_cons → apx, getD_eq_getElem?_getD → apy, map_cons → apz, getElem?_eq_getElem → apA, map_nil → apB, take_succ_eq_append_getElem → apD, take_length → apG, length_take → apI
open Bool renaming and_true → apv, false_and → apE, true_and → apF, and_eq_true → apJ
open Int renaming le_refl → apC
open Nat renaming zero_le → apH
set_option linter.unusedVariables false
set_option linter.unusedSectionVars false
namespace Go.Proofs.YtglmonlofejcgaaGreatDoor
namespace twos
open Go.RowKit Am
def gu : Nat -> List Nat
 | 1 => [25]
 | 2 => [22]
 | 3 => [1]
 | 4 => [1, 17]
 | 5 => [1, 9]
 | 6 => [1, 9, 14]
 | 7 => [1, 14]
 | _ => []
def jZ (st : List Value) : Nat := jy (xQ.map (E.num (ah st)))
def sK (st : List Value) (j : Nat) : Int := cnt ((gu (jZ st)).map (ah st)) j
def TT (st : List Value) : Bool := O5.num (ah st)
def WC (st : List Value) (j : Nat) : Int := b2i (TT st && decide (ah st 9 = (j : Int)))
def YJ (st : List Value) : Bool := Jk.num (ah st)
def setB (st : List Value) : Bool := YJ st && (decide (ah st 2 = 0) && (decide (ah st 3 = 0) && !decide (ah st 17 = ah st 1)))
def ae5 (st : List Value) (j : Nat) : Int := b2i (setB st && decide (ah st 1 = (j : Int)))
def isS (st : List Value) (j : Nat) : Bool := YJ st && decide (ah st 1 = (j : Int))
def yH (op : List Value) (j : Nat) : Int := b2i (!decide (ah op 0 = 1) && decide (ah op 2 = (j : Int)))
def F5 (op : List Value) : Bool := decide (ah op 0 = 3) && (decide (ah op 3 = 0) && decide (ah op 4 = 0))
def tH (op : List Value) (j : Nat) : Int := b2i (F5 op && decide (ah op 2 = (j : Int)))
structure Ct where
 a : Nat -> Int
 p : Nat -> Int
 s : Nat -> Int
 i : Nat -> Bool
def Ct.nought : Ct := ⟨fun _ => 0, fun _ => 0, fun _ => 0, fun _ => false⟩
def Ct.stm (C : Ct) (l : List (List Value)) : Ct := ⟨fun j => C.a j + acc (fun st => sK st j) l, fun j => C.p j + acc (fun st => WC st j) l, fun j => C.s j + acc (fun st => ae5 st j) l, fun j => C.i j || l.any fun st => isS st j⟩
def Ct.opd (C : Ct) (l : List (List Value)) : Ct := ⟨fun j => C.a j + acc (fun op => yH op j) l, fun j => C.p j + acc (fun op => tH op j) l, C.s, C.i⟩
def Ct.dest (C : Ct) (l : Int) : Ct := ⟨bump C.a l, C.p, C.s, C.i⟩
def Ct.jmp (C : Ct) (b : bK) : Ct := if ah b.pre 0 = 2 then (if ah b.pre 1 = 1 then C else C.dest (ah b.pre 3)) else if ah b.pre 0 = 4 then (C.dest (ah b.post 0)).opd b.ops else C
def Ct.blk (C : Ct) (b : bK) : Ct := (C.stm b.st).jmp b
def Ct.at (D : FnD) (i : Nat) : Ct := (D.bs.take i).foldl Ct.blk Ct.nought
def Ct.fn (D : FnD) : Ct := D.bs.foldl Ct.blk Ct.nought
structure Ct.In (C : Ct) (M : Int) : Prop where
 a : ∀ j, 0 <= C.a j /\ C.a j <= M
 p : ∀ j, 0 <= C.p j /\ C.p j <= M
 s : ∀ j, 0 <= C.s j /\ C.s j <= M
theorem qH (s : Nat) : (gu s).length <= 3 := by unfold gu; split <;> decide
theorem ZN (st : List Value) (j : Nat) : 0 <= sK st j /\ sK st j <= ((3 : Nat) : Int) := by
 have h := sQ (fun l => b2i (decide (l = (j : Int)))) 1 ((gu (jZ st)).map (ah st)) fun x _ => by have := gI (decide (x = (j : Int))); omega
 have h3 := qH (jZ st)
 unfold sK cnt
 rw [List.length_map] at h
 omega
theorem In.stm {C : Ct} {M : Int} (h : C.In M) (l : List (List Value)) : (C.stm l).In (M + 3 * l.length) := by
 have ha := fun j => sQ (fun st => sK st j) 3 l fun x _ => ZN x j
 have hp := fun j => sQ (fun st => WC st j) 1 l fun x _ => by have := gI (TT x && decide (ah x 9 = (j : Int))); exact this
 have hs := fun j => sQ (fun st => ae5 st j) 1 l fun x _ => by have := gI (setB x && decide (ah x 1 = (j : Int))); exact this
 refine ⟨fun j => ?_, fun j => ?_, fun j => ?_⟩
 ·have := ha j; have := h.a j; show 0 <= C.a j + _ /\ C.a j + _ <= _; omega
 ·have := hp j; have := h.p j; show 0 <= C.p j + _ /\ C.p j + _ <= _; omega
 ·have := hs j; have := h.s j; show 0 <= C.s j + _ /\ C.s j + _ <= _; omega
theorem In.opd {C : Ct} {M : Int} (h : C.In M) (l : List (List Value)) : (C.opd l).In (M + l.length) := by
 have ha := fun j => sQ (fun op => yH op j) 1 l fun x _ => gI _
 have hp := fun j => sQ (fun op => tH op j) 1 l fun x _ => gI _
 refine ⟨fun j => ?_, fun j => ?_, fun j => ?_⟩
 ·have := ha j; have := h.a j; show 0 <= C.a j + _ /\ C.a j + _ <= _; omega
 ·have := hp j; have := h.p j; show 0 <= C.p j + _ /\ C.p j + _ <= _; omega
 ·have := h.s j; show 0 <= C.s j /\ C.s j <= _; omega
theorem In.dest {C : Ct} {M : Int} (h : C.In M) (l : Int) : (C.dest l).In (M + 1) :=
 ⟨Dw h.a, fun j => by have := h.p j; show 0 <= C.p j /\ C.p j <= _; omega, fun j => by have := h.s j; show 0 <= C.s j /\ C.s j <= _; omega⟩
theorem In.more {C : Ct} {M N : Int} (h : C.In M) (hn : M <= N) : C.In N := ⟨fun j => by have := h.a j; omega, fun j => by have := h.p j; omega, fun j => by have := h.s j; omega⟩
theorem In.jmp {C : Ct} {M : Int} (h : C.In M) (b : bK) : (C.jmp b).In (M + 1 + b.ops.length) := by
 unfold Ct.jmp
 split
 ·split
  ·exact In.more h (by omega)
  ·exact In.more (In.dest h _) (by omega)
 ·split
  ·exact In.opd (In.dest h _) _
  ·exact In.more h (by omega)
theorem In.nought : Ct.nought.In 0 := ⟨fun _ => ⟨apC _, apC _⟩, fun _ => ⟨apC _, apC _⟩, fun _ => ⟨apC _, apC _⟩⟩
structure Sm (D : FnD) : Prop where
 b : D.bs.length <= 24
 s : ∀ b ∈ D.bs, b.st.length <= 24 /\ b.ops.length <= 8
theorem In.blk {C : Ct} {M : Int} (h : C.In M) {b : bK} (hb : b.st.length <= 24 /\ b.ops.length <= 8) : (C.blk b).In (M + 1000) := In.more (In.jmp (In.stm h b.st) b) (by omega)
theorem JR {D : FnD} {i : Nat} (hi : i < D.bs.length) : Ct.at D (i + 1) = (Ct.at D i).blk (D.blk i) := by
 unfold Ct.at
 rw [apD hi, List.foldl_append]
 show Ct.blk _ _ = _
 congr 1
 unfold FnD.blk
 rw [apy, apA hi]
 rfl
theorem oG {D : FnD} {i : Nat} (hi : i < D.bs.length) : D.blk i ∈ D.bs := by
 unfold FnD.blk
 rw [apy, apA hi]
 exact List.getElem_mem hi
theorem In.at {D : FnD} (h : Sm D) : ∀ {i : Nat}, i <= D.bs.length -> (Ct.at D i).In (1000 * i)
 | 0, _ => In.nought
 | i + 1, hi => by
  rw [JR hi]
  exact In.more (In.blk (In.at h (by omega)) (h.s _ (oG hi))) (by omega)
def aeU (st : List Value) (C : Ct) : List (Nat -> Int) :=
 [C.a, C.p, C.s, fun j => b2i (C.i j), bump C.a (ah st 25), bump C.a (ah st 22), bump C.a (ah st 1), bump (bump C.a (ah st 1)) (ah st 17), bump (bump C.a (ah st 1)) (ah st 9),
  bump (bump (bump C.a (ah st 1)) (ah st 9)) (ah st 14), bump (bump C.a (ah st 1)) (ah st 14), bump C.p (ah st 9), bump C.s (ah st 1)]
def uV (F : Nat -> Int) (l : Int) : List Int := [F l.toNat, F l.toNat + 1]
def anC (st : List Value) (C : Ct) : List Int :=
 uV C.a (ah st 25) ++ (uV C.a (ah st 22) ++ (uV C.a (ah st 1) ++ (uV (bump C.a (ah st 1)) (ah st 17) ++ (uV (bump C.a (ah st 1)) (ah st 9) ++ (uV (bump (bump C.a (ah st 1)) (ah st 9)) (ah st 14) ++ (uV (bump C.a (ah st 1)) (ah st 14) ++ (uV C.p (ah st 9) ++ uV C.s (ah st 1))))))))
def DV (st : List Value) (C : Ct) : List Int := bU (aeU st C) ++ anC st C
theorem ap6 {D : FnD} {q : At} {C : Ct} {M : Int} (h : C.In M) (hM : M <= 900000) : vT (UU trI) (aF (aK D q (DV (D.stm q.i q.k) C))) := by
 refine EW (aQ D q _) fun t ht => ?_
 have l49 : aF (aK D q (DV (D.stm q.i q.k) C)) 49 = ah (D.stm q.i q.k) 25 := rfl
 have l46 : aF (aK D q (DV (D.stm q.i q.k) C)) 46 = ah (D.stm q.i q.k) 22 := rfl
 have l25 : aF (aK D q (DV (D.stm q.i q.k) C)) 25 = ah (D.stm q.i q.k) 1 := rfl
 have l41 : aF (aK D q (DV (D.stm q.i q.k) C)) 41 = ah (D.stm q.i q.k) 17 := rfl
 have l33 : aF (aK D q (DV (D.stm q.i q.k) C)) 33 = ah (D.stm q.i q.k) 9 := rfl
 have l38 : aF (aK D q (DV (D.stm q.i q.k) C)) 38 = ah (D.stm q.i q.k) 14 := rfl
 unfold DV at l49 l46 l25 l41 l33 l38 |-
 have b1 := Dw (l := ah (D.stm q.i q.k) 1) h.a
 have b2 := Dw (l := ah (D.stm q.i q.k) 9) b1
 simp only [trI, apu, apw, or_false] at ht
 rcases ht with rfl | rfl | rfl | rfl | rfl | rfl | rfl | rfl | rfl
 ·exact jG (N := 13) (n := 0) rfl rfl (by rw [l49]; rfl) rfl (by rw [l49]; rfl) (by rw [l49]; rfl) h.a (by omega)
 ·exact jG (N := 13) (n := 2) rfl rfl (by rw [l46]; rfl) rfl (by rw [l46]; rfl) (by rw [l46]; rfl) h.a (by omega)
 ·exact jG (N := 13) (n := 4) rfl rfl (by rw [l25]; rfl) rfl (by rw [l25]; rfl) (by rw [l25]; rfl) h.a (by omega)
 ·exact jG (N := 13) (n := 6) rfl rfl (by rw [l41]; rfl) rfl (by rw [l41]; rfl) (by rw [l41]; rfl) b1 (by omega)
 ·exact jG (N := 13) (n := 8) rfl rfl (by rw [l33]; rfl) rfl (by rw [l33]; rfl) (by rw [l33]; rfl) b1 (by omega)
 ·exact jG (N := 13) (n := 10) rfl rfl (by rw [l38]; rfl) rfl (by rw [l38]; rfl) (by rw [l38]; rfl) b2 (by omega)
 ·exact jG (N := 13) (n := 12) rfl rfl (by rw [l38]; rfl) rfl (by rw [l38]; rfl) (by rw [l38]; rfl) b1 (by omega)
 ·exact jG (N := 13) (n := 14) rfl rfl (by rw [l33]; rfl) rfl (by rw [l33]; rfl) (by rw [l33]; rfl) h.p (by omega)
 ·exact jG (N := 13) (n := 16) rfl rfl (by rw [l25]; rfl) rfl (by rw [l25]; rfl) (by rw [l25]; rfl) h.s (by omega)
theorem Z4 (bs : List Bool) : jy bs <= 7 := by
 unfold jy
 split
 ·rename_i f sa p rp ra rb
  cases f <;> cases sa <;> cases p <;> cases rp <;> cases ra <;> cases rb <;> decide
 ·decide
theorem Hw (st : List Value) (C : Ct) (s : Nat) (hs : s <= 7) : ∃ F, (aeU st C)[rowOf s]? = some F /\ ∀ j, F j = C.a j + cnt ((gu s).map (ah st)) j := by
 have h8 : s = 0 \/ s = 1 \/ s = 2 \/ s = 3 \/ s = 4 \/ s = 5 \/ s = 6 \/ s = 7 := by omega
 rcases h8 with rfl | rfl | rfl | rfl | rfl | rfl | rfl | rfl
 ·exact ⟨_, rfl, fun j => by simp [gu, cnt, acc]⟩
 ·exact ⟨_, rfl, fun j => by simp [gu, cnt, acc, bump]⟩
 ·exact ⟨_, rfl, fun j => by simp [gu, cnt, acc, bump]⟩
 ·exact ⟨_, rfl, fun j => by simp [gu, cnt, acc, bump]⟩
 ·exact ⟨_, rfl, fun j => by simp [gu, cnt, acc, bump]; omega⟩
 ·exact ⟨_, rfl, fun j => by simp [gu, cnt, acc, bump]; omega⟩
 ·exact ⟨_, rfl, fun j => by simp [gu, cnt, acc, bump]; omega⟩
 ·exact ⟨_, rfl, fun j => by simp [gu, cnt, acc, bump]; omega⟩
theorem uN {α : Type} (l : List α) (d : α) (p : α -> Bool) {k : Nat} (hk : k < l.length) : (l.take (k + 1)).any p = ((l.take k).any p || p (l.getD k d)) := by
 rw [apD hk, List.any_append, apy, apA hk]
 simp
def ctK (D : FnD) (C : Ct) (i k : Nat) : Ct := C.stm ((D.blk i).st.take k)
def mI (D : FnD) (C : Ct) (i k : Nat) : List Int := DV (D.stm i k) (ctK D C i k)
theorem Vq {D : FnD} {C : Ct} {i k : Nat} (hk : k < (D.blk i).st.length) :
  (∀ j, (ctK D C i (k + 1)).a j = (ctK D C i k).a j + sK (D.stm i k) j) /\ (∀ j, (ctK D C i (k + 1)).p j = (ctK D C i k).p j + WC (D.stm i k) j) /\ (∀ j, (ctK D C i (k + 1)).s j = (ctK D C i k).s j + ae5 (D.stm i k) j) /\ ∀ j, (ctK D C i (k + 1)).i j = ((ctK D C i k).i j || isS (D.stm i k) j) := by
 refine ⟨fun j => ?_, fun j => ?_, fun j => ?_, fun j => ?_⟩
 ·show C.a j + acc _ _ = C.a j + acc _ _ + _; rw [qW _ _ [] hk]; unfold FnD.stm; omega
 ·show C.p j + acc _ _ = C.p j + acc _ _ + _; rw [qW _ _ [] hk]; unfold FnD.stm; omega
 ·show C.s j + acc _ _ = C.s j + acc _ _ + _; rw [qW _ _ [] hk]; unfold FnD.stm; omega
 ·show (C.i j || List.any _ _) = (C.i j || List.any _ _ || _); rw [uN _ [] _ hk, Bool.or_assoc]; rfl
section
variable {w : World} {v : Value} {D : FnD} (h : aV w v D)
include h
theorem fE (q : At) (hq : Fits D q) (m : List Int) : (Lf.of (fJ ++ [])).Holds (aF (aK D q m)) (fun _ => []) := lG h hq (iv := []) (m1 := []) (m2 := m) trivial _
theorem inner {C : Ct} {M : Int} (hC : C.In M) (hM : M <= 100000) {q : At} {m : List Int} (hi : q.i < D.bs.length) (hB : D.bs.length <= 1000) (hS : (D.blk q.i).st.length <= 1000) (hok : ((D.blk q.i).st.all fun st => dn.val st) = true)
  (h0 : ∀ j, j < 16 -> aF (aK D q m) (nm 0 j) = C.a j /\ aF (aK D q m) (nm 1 j) = C.p j /\ aF (aK D q m) (nm 2 j) = C.s j /\ aF (aK D q m) (nm 3 j) = b2i (C.i j))
  (h1 : ∀ j, j < 16 -> aF (aK D q m) (nm 4 j) = (C.stm (D.blk q.i).st).a j /\ aF (aK D q m) (nm 5 j) = (C.stm (D.blk q.i).st).p j /\ aF (aK D q m) (nm 6 j) = (C.stm (D.blk q.i).st).s j /\ aF (aK D q m) (nm 7 j) = b2i ((C.stm (D.blk q.i).st).i j)) :
  ∀ K (ok : aG K (fnB w D q m).rho (fnB w D q m).sig), @aO ((fnB w D q m).aH K ok) Tryz.prog (nK K) bf := by
 intro K ok
 have fit : ∀ k, k <= (D.blk q.i).st.length -> Fits D (made.atS q.i k) := fun k hk => iD ⟨by show q.i <= 1000; omega, by show k <= 1000; omega, apH _, apH _⟩
 have okk := (iJ (D.blk q.i).st [] fun st => dn.val st).2 hok
 have r0 : ∀ k b F, (aeU (D.stm q.i k) (ctK D C q.i k))[b]? = some F -> ∀ j, j < 16 -> (fnB w D (made.atS q.i k) (mI D C q.i k)).rho (nm b j) = F j := fun k b F e j hj => gV e hj
 have us : ∀ u ∈ us0, iI (fnB w D q m) (fnB w D (made.atS q.i 0) (mI D C q.i 0)) u := fun u hu => by
  rcases apu.1 hu with rfl | hu
  ·exact dP fun r v hv => hv
  refine dQ (dI fun j hj => ?_) (dQ (dI fun j hj => ?_) (dQ (dI fun j hj => ?_) (iO fun j hj => ?_))) u hu
  ·exact (h0 j hj).1.trans ((r0 0 0 _ rfl j hj).trans (by show C.a j + 0 = _; omega)).symm
  ·exact (h0 j hj).2.1.trans ((r0 0 1 _ rfl j hj).trans (by show C.p j + 0 = _; omega)).symm
  ·exact (h0 j hj).2.2.1.trans ((r0 0 2 _ rfl j hj).trans (by show C.s j + 0 = _; omega)).symm
  ·exact (h0 j hj).2.2.2.trans ((r0 0 3 _ rfl j hj).trans (by show b2i (C.i j || false) = _; rw [Bool.or_false])).symm
 refine @dh _ _ (fun k => fnB w D (made.atS q.i k) (mI D C q.i k)) bf _ _ hdI _ _ (fun e => by cases e) (D.blk q.i).st.length (bJ q (made.atS q.i 0) rfl _ _) us (fun k hk => ?_) ?_ 8 K ok
 ·obtain ⟨sa, sp, ss, si⟩ := Vq (C := C) hk
  have okS := okk k hk
  have rg := fun c hc => EI (Dk h hi hk).1 okS (c := c) hc
  refine bF kE (bD (@aW (fnB w D (made.atS q.i k) (mI D C q.i k)) _ _ (aT h _ _) (@aW (fnB w D (made.atS q.i k) (mI D C q.i k)) _ _ (dM h (q := made.atS q.i k) hi _) (DZ h (q := made.atS q.i k) hi hk _)))) (bJ (made.atS q.i k) (made.atS q.i (k + 1)) rfl _ _) (L := L1) ?_
   (ap6 (q := made.atS q.i k) (In.stm hC _) (by have : ((D.blk q.i).st.take k).length <= 1000 := (by rw [apI]; omega); omega)) (fun p hp => ?_) (fun u hu => ?_) rfl (bC f bf)
  ·have hb := ((fE h (made.atS q.i k) (fit k (by omega)) (mI D C q.i k)).pin (i := 6) (c := 1) (show b2i (decide ((q.i : Int) < D.bs.length)) = 1 from (bY _).2 (by omega))).pin (i := 23) (c := 1) (show b2i (decide ((k : Int) < (D.blk q.i).st.length)) = 1 from (bY _).2 (by omega))
   have nr : ∀ {L : Lf} {i c : Nat}, c ∈ [25, 1, 9, 14, 17, 22] -> aF (aK D (made.atS q.i k) (mI D C q.i k)) i = ah (D.stm q.i k) c -> L.Holds (aF (aK D (made.atS q.i k) (mI D C q.i k))) (fun _ => []) -> (lV L i).Holds (aF (aK D (made.atS q.i k) (mI D C q.i k))) (fun _ => []) := fun {L i c} hc e hL => by
    obtain ⟨q1, q2⟩ := rg c hc
    exact (hL.lo (i := i) (c := 0) (by rw [e]; exact q1)).hi (i := i) (c := 15) (by rw [e]; exact q2)
   exact nr (i := 46) (c := 22) (by decide) rfl (nr (i := 41) (c := 17) (by decide) rfl (nr (i := 38) (c := 14) (by decide) rfl (nr (i := 33) (c := 9) (by decide) rfl (nr (i := 25) (c := 1) (by decide) rfl (nr (i := 49) (c := 25) (by decide) rfl hb)))))
  ·obtain rfl := List.mem_singleton.1 hp
   exact (JJ (made.atS q.i k) _).trans okS
  ·have e24 : ∀ e : E, e.bd 26 = true -> (xM e).num (fnB w D (made.atS q.i k) (mI D C q.i k)).rho = e.num (ah (D.stm q.i k)) := fun e he => zL (made.atS q.i k) _ he
   have e75 : (fnB w D (made.atS q.i k) (mI D C q.i k)).rho 75 = b2i (decide (ah (D.stm q.i k) 17 = ah (D.stm q.i k) 1)) := rfl
   have e26 : (fnB w D (made.atS q.i k) (mI D C q.i k)).rho 26 = ah (D.stm q.i k) 2 := rfl
   have e27 : (fnB w D (made.atS q.i k) (mI D C q.i k)).rho 27 = ah (D.stm q.i k) 3 := rfl
   have e25 : (fnB w D (made.atS q.i k) (mI D C q.i k)).rho 25 = ah (D.stm q.i k) 1 := rfl
   rcases apu.1 hu with rfl | hu
   ·exact dP fun r v hv => hv
   refine dQ (dI fun j hj => ?_) (dQ (dI fun j hj => ?_) (dQ (dI fun j hj => ?_) (Rw fun j hj => ?_))) u hu
   ·obtain ⟨G, g1, g2⟩ := Hw (D.stm q.i k) (ctK D C q.i k) (jZ (D.stm q.i k)) (Z4 _)
    have eS : jy ((xQ.map xM).map (E.num (fnB w D (made.atS q.i k) (mI D C q.i k)).rho)) = jZ (D.stm q.i k) := by
     refine congrArg jy ?_
     rw [List.map_map]
     refine List.map_congr_left fun e he => e24 e ?_
     simp only [xQ, apu, apw, or_false] at he
     rcases he with rfl | rfl | rfl | rfl | rfl | rfl <;> rfl
    rw [eS, r0 k _ G g1 j hj, g2 j, r0 (k + 1) 0 _ rfl j hj, sa j]
    rfl
   ·simp only [apz, apB, apx]
    rw [e24 O5 rfl, r0 (k + 1) 1 _ rfl j hj, sp j]
    unfold WC TT
    cases hp : O5.num (ah (D.stm q.i k)) with
    | false => rw [cond_false, r0 k 1 _ rfl j hj, apE]; show _ = _ + (0 : Int); omega
    | true => rw [cond_true, r0 k 11 _ rfl j hj, apF]; rfl
   ·have eN : aob.num (fnB w D (made.atS q.i k) (mI D C q.i k)).rho = setB (D.stm q.i k) := by
     show ((xM Jk).num _ && ((decide (_ = (0 : Int)) && true) && ((decide (_ = (0 : Int)) && true) && !(decide (_ = (1 : Int)) && true)))) = _
     rw [e24 Jk rfl, e75, e26, e27, made.eG, apv, apv, apv]
     rfl
    simp only [apz, apB, apx]
    rw [eN, r0 (k + 1) 2 _ rfl j hj, ss j]
    unfold ae5
    cases hp : setB (D.stm q.i k) with
    | false => rw [cond_false, r0 k 2 _ rfl j hj, apE]; show _ = _ + (0 : Int); omega
    | true => rw [cond_true, r0 k 12 _ rfl j hj, apF]; rfl
   ·rw [e24 Jk rfl, e25, r0 (k + 1) 3 _ rfl j hj, r0 k 3 _ rfl j hj]
    show b2i ((ctK D C q.i (k + 1)).i j) = 1 ↔ (_ \/ b2i ((ctK D C q.i k).i j) = 1)
    rw [si j, made.oC, made.oC]
    unfold isS YJ
    rw [Bool.or_eq_true, apJ, decide_eq_true_iff]
    exact Or.comm
 ·refine bF KJ (bD (@aW (fnB w D (made.atS q.i _) (mI D C q.i _)) _ _ (aT h _ _) (dM h (q := made.atS q.i _) hi _))) (bJ (made.atS q.i (D.blk q.i).st.length) q rfl _ _) (L := L3) ?_ (aQ D _ _) (fun p hp => by cases hp) (fun u hu => ?_) rfl (bC f bf)
  ·exact ((fE h _ (fit _ (Nat.le_refl _)) _).pin (i := 6) (c := 1) (show b2i (decide ((q.i : Int) < D.bs.length)) = 1 from (bY _).2 (by omega))).pin (i := 23) (c := 0) (show b2i (decide (((D.blk q.i).st.length : Int) < (D.blk q.i).st.length)) = 0 by rw [decide_eq_false (by omega)]; rfl)
  ·have e : ctK D C q.i (D.blk q.i).st.length = C.stm (D.blk q.i).st := by unfold ctK; rw [apG]
   have rr := r0 (D.blk q.i).st.length
   rw [e] at rr
   refine dQ (dI fun j hj => ?_) (dQ (dI fun j hj => ?_) (dQ (dI fun j hj => ?_) (iO fun j hj => ?_))) u hu
   ·exact (rr 0 _ rfl j hj).trans (h1 j hj).1.symm
   ·exact (rr 1 _ rfl j hj).trans (h1 j hj).2.1.symm
   ·exact (rr 2 _ rfl j hj).trans (h1 j hj).2.2.1.symm
   ·exact (rr 3 _ rfl j hj).trans (h1 j hj).2.2.2.symm
end
def al1 (op : List Value) (C : Ct) : List (Nat -> Int) := [C.a, C.p, bump C.a (ah op 2), bump C.p (ah op 2), C.s, fun j => b2i (C.i j)]
def a2W (op : List Value) (C : Ct) : List Int := bU (al1 op C) ++ (uV C.a (ah op 2) ++ uV C.p (ah op 2))
def mA (D : FnD) (C : Ct) (i k : Nat) : List Int := a2W (D.opd i k) (C.opd ((D.blk i).ops.take k))
theorem apd {D : FnD} {q : At} {C : Ct} {M : Int} (h : C.In M) (hM : M <= 900000) : vT (UU trA) (aF (aK D q (a2W (D.opd q.i q.m) C))) := by
 refine EW (aQ D q _) fun t ht => ?_
 have l55 : aF (aK D q (a2W (D.opd q.i q.m) C)) 55 = ah (D.opd q.i q.m) 2 := rfl
 unfold a2W at l55 |-
 simp only [trA, apu, apw, or_false] at ht
 rcases ht with rfl | rfl
 ·exact jG (N := 6) (n := 0) rfl rfl (by rw [l55]; rfl) rfl (by rw [l55]; rfl) (by rw [l55]; rfl) h.a (by omega)
 ·exact jG (N := 6) (n := 2) rfl rfl (by rw [l55]; rfl) rfl (by rw [l55]; rfl) (by rw [l55]; rfl) h.p (by omega)
def QC (b : bK) (C : Ct) : List (Nat -> Int) :=
 let C1 := C.stm b.st
 let C2 := (C1.dest (ah b.post 0)).opd b.ops
 [C.a, C.p, C.s, fun j => b2i (C.i j), C1.a, C1.p, C1.s, fun j => b2i (C1.i j), bump C1.a (ah b.pre 3), bump C1.a (ah b.post 0), C2.a, C2.p]
def alc (b : bK) (C : Ct) : List Int := bU (QC b C) ++ (uV (C.stm b.st).a (ah b.pre 3) ++ uV (C.stm b.st).a (ah b.post 0))
def mB' (D : FnD) (i : Nat) : List Int := alc (D.blk i) (Ct.at D i)
theorem aoE {D : FnD} {i : Nat} {M : Int} (h : (Ct.at D i).In M) (hM : M + 3 * (D.blk i).st.length <= 900000) : vT (UU trO) (aF (aK D (atB i) (mB' D i))) := by
 refine EW (aQ D _ _) fun t ht => ?_
 have l11 : aF (aK D (atB i) (mB' D i)) 11 = ah (D.blk i).pre 3 := rfl
 have l18 : aF (aK D (atB i) (mB' D i)) 18 = ah (D.blk i).post 0 := rfl
 have h1 := In.stm h (D.blk i).st
 unfold mB' alc at l11 l18 |-
 simp only [trO, apu, apw, or_false] at ht
 rcases ht with rfl | rfl
 ·exact jG (N := 12) (n := 0) rfl rfl (by rw [l11]; rfl) rfl (by rw [l11]; rfl) (by rw [l11]; rfl) h1.a (by omega)
 ·exact jG (N := 12) (n := 2) rfl rfl (by rw [l18]; rfl) rfl (by rw [l18]; rfl) (by rw [l18]; rfl) h1.a (by omega)
def Fg (D : FnD) (t : Nat) : Bool := !(Ct.fn D).i t || (decide (D.p < t) && (decide ((Ct.fn D).a t = 2) && (decide ((Ct.fn D).p t = 1) && decide ((Ct.fn D).s t = 1))))
def rQ (D : FnD) : Bool := (List.range 16).all (Fg D)
def mF (D : FnD) : List Int := bU [(Ct.fn D).a, (Ct.fn D).p, (Ct.fn D).s, fun j => b2i ((Ct.fn D).i j)]
section
variable {w : World} {v : Value} {D : FnD} (h : aV w v D)
include h
theorem args {C : Ct} {M : Int} (hC : C.In M) (hM : M <= 100000) {q : At} {m : List Int} (hi : q.i < D.bs.length) (hB : D.bs.length <= 1000) (hA : (D.blk q.i).ops.length <= 1000) (hok : ((D.blk q.i).ops.all fun el => (aY 0).val el) = true)
  (h0 : ∀ j, j < 16 -> aF (aK D q m) (nm 9 j) = C.a j /\ aF (aK D q m) (nm 5 j) = C.p j /\ aF (aK D q m) (nm 6 j) = C.s j /\ aF (aK D q m) (nm 7 j) = b2i (C.i j))
  (h1 : ∀ j, j < 16 -> aF (aK D q m) (nm 10 j) = (C.opd (D.blk q.i).ops).a j /\ aF (aK D q m) (nm 11 j) = (C.opd (D.blk q.i).ops).p j) :
  ∀ K (ok : aG K (fnB w D q m).rho (fnB w D q m).sig), @aO ((fnB w D q m).aH K ok) Tryz.prog (rowA K) iG := by
 intro K ok
 have fit : ∀ k, k <= (D.blk q.i).ops.length -> Fits D (made.atM q.i k) := fun k hk => iD ⟨by show q.i <= 1000; omega, apH _, by show k <= 1000; omega, apH _⟩
 have okk := (iJ (D.blk q.i).ops [] fun el => (aY 0).val el).2 hok
 have r0 : ∀ k b F, (al1 (D.opd q.i k) (C.opd ((D.blk q.i).ops.take k)))[b]? = some F -> ∀ j, j < 16 -> (fnB w D (made.atM q.i k) (mA D C q.i k)).rho (nm b j) = F j := fun k b F e j hj => gV e hj
 have us : ∀ u ∈ us1, iI (fnB w D q m) (fnB w D (made.atM q.i 0) (mA D C q.i 0)) u := fun u hu => by
  rcases apu.1 hu with rfl | hu
  ·exact dP fun r v hv => hv
  refine dQ (dI fun j hj => ?_) (dQ (dI fun j hj => ?_) (dQ (dI fun j hj => ?_) (iO fun j hj => ?_))) u hu
  ·exact (h0 j hj).1.trans ((r0 0 0 _ rfl j hj).trans (by show C.a j + 0 = _; omega)).symm
  ·exact (h0 j hj).2.1.trans ((r0 0 1 _ rfl j hj).trans (by show C.p j + 0 = _; omega)).symm
  ·exact (h0 j hj).2.2.1.trans (r0 0 4 _ rfl j hj).symm
  ·exact (h0 j hj).2.2.2.trans (r0 0 5 _ rfl j hj).symm
 refine @dh _ _ (fun k => fnB w D (made.atM q.i k) (mA D C q.i k)) iG _ _ hdA _ _ (fun e => by cases e) (D.blk q.i).ops.length (bJ q (made.atM q.i 0) rfl _ _) us (fun k hk => ?_) ?_ 2 K ok
 ·have rg := MX (PD h hi hk).1 (okk k hk)
  refine bF EL (bD (@aW (fnB w D (made.atM q.i k) (mA D C q.i k)) _ _ (aT h _ _) (@aW (fnB w D (made.atM q.i k) (mA D C q.i k)) _ _ (dM h (q := made.atM q.i k) hi _) (Jv h (q := made.atM q.i k) hi hk _)))) (bJ (made.atM q.i k) (made.atM q.i (k + 1)) rfl _ _) (L := LA) ?_
   (apd (q := made.atM q.i k) (In.opd hC _) (by have : ((D.blk q.i).ops.take k).length <= 1000 := (by rw [apI]; omega); omega)) (fun p hp => by cases hp) (fun u hu => ?_) rfl (bC fO iG)
  ·have hb := ((fE h (made.atM q.i k) (fit k (by omega)) (mA D C q.i k)).pin (i := 6) (c := 1) (show b2i (decide ((q.i : Int) < D.bs.length)) = 1 from (bY _).2 (by omega))).pin (i := 52) (c := 1) (show b2i (decide ((k : Int) < (D.blk q.i).ops.length)) = 1 from (bY _).2 (by omega))
   exact (hb.lo (i := 55) (c := 0) (show 0 <= ah (D.opd q.i k) 2 from rg.1)).hi (i := 55) (c := 15) (show ah (D.opd q.i k) 2 <= 15 from rg.2)
  ·have e53 : (fnB w D (made.atM q.i k) (mA D C q.i k)).rho 53 = ah (D.opd q.i k) 0 := rfl
   have e56 : (fnB w D (made.atM q.i k) (mA D C q.i k)).rho 56 = ah (D.opd q.i k) 3 := rfl
   have e57 : (fnB w D (made.atM q.i k) (mA D C q.i k)).rho 57 = ah (D.opd q.i k) 4 := rfl
   have sa : ∀ j, (C.opd ((D.blk q.i).ops.take (k + 1))).a j = (C.opd ((D.blk q.i).ops.take k)).a j + yH (D.opd q.i k) j := fun j => by show C.a j + acc _ _ = C.a j + acc _ _ + _; rw [qW _ _ [] hk]; unfold FnD.opd; omega
   have sp : ∀ j, (C.opd ((D.blk q.i).ops.take (k + 1))).p j = (C.opd ((D.blk q.i).ops.take k)).p j + tH (D.opd q.i k) j := fun j => by show C.p j + acc _ _ = C.p j + acc _ _ + _; rw [qW _ _ [] hk]; unfold FnD.opd; omega
   rcases apu.1 hu with rfl | hu
   ·exact dP fun r v hv => hv
   refine dQ (dI fun j hj => ?_) (dQ (dI fun j hj => ?_) (dQ (dI fun j hj => ?_) (iO fun j hj => ?_))) u hu
   ·have eN : F9.num (fnB w D (made.atM q.i k) (mA D C q.i k)).rho = !decide (ah (D.opd q.i k) 0 = 1) := by
     show (!(decide (_ = (1 : Int)) && true)) = _
     rw [e53, apv]
    simp only [apz, apB, apx]
    rw [eN, r0 (k + 1) 0 _ rfl j hj, sa j]
    unfold yH
    cases hp : (!decide (ah (D.opd q.i k) 0 = 1)) with
    | false => rw [cond_false, r0 k 0 _ rfl j hj, apE]; show _ = _ + (0 : Int); omega
    | true => rw [cond_true, r0 k 2 _ rfl j hj, apF]; rfl
   ·have eN : YD.num (fnB w D (made.atM q.i k) (mA D C q.i k)).rho = F5 (D.opd q.i k) := by
     show ((decide (_ = (3 : Int)) && true) && ((decide (_ = (0 : Int)) && true) && (decide (_ = (0 : Int)) && true))) = _
     rw [e53, e56, e57, apv, apv, apv]
     rfl
    simp only [apz, apB, apx]
    rw [eN, r0 (k + 1) 1 _ rfl j hj, sp j]
    unfold tH
    cases hp : F5 (D.opd q.i k) with
    | false => rw [cond_false, r0 k 1 _ rfl j hj, apE]; show _ = _ + (0 : Int); omega
    | true => rw [cond_true, r0 k 3 _ rfl j hj, apF]; rfl
   ·exact (r0 k 4 _ rfl j hj).trans (r0 (k + 1) 4 _ rfl j hj).symm
   ·exact (r0 k 5 _ rfl j hj).trans (r0 (k + 1) 5 _ rfl j hj).symm
 ·refine bF N7 (bD (@aW (fnB w D (made.atM q.i _) (mA D C q.i _)) _ _ (aT h _ _) (dM h (q := made.atM q.i _) hi _))) (bJ (made.atM q.i (D.blk q.i).ops.length) q rfl _ _) (L := LA0) ?_ (aQ D _ _) (fun p hp => by cases hp) (fun u hu => ?_) rfl (bC fO iG)
  ·exact ((fE h _ (fit _ (Nat.le_refl _)) _).pin (i := 6) (c := 1) (show b2i (decide ((q.i : Int) < D.bs.length)) = 1 from (bY _).2 (by omega))).pin (i := 52) (c := 0) (show b2i (decide (((D.blk q.i).ops.length : Int) < (D.blk q.i).ops.length)) = 0 by rw [decide_eq_false (by omega)]; rfl)
  ·have rr := r0 (D.blk q.i).ops.length
   rw [apG] at rr
   refine dQ (dI fun j hj => ?_) (dQ (dI fun j hj => ?_) (dQ (dI fun j hj => ?_) (iO fun j hj => ?_))) u hu
   ·exact (rr 0 _ rfl j hj).trans (h1 j hj).1.symm
   ·exact (rr 1 _ rfl j hj).trans (h1 j hj).2.symm
   ·exact (rr 4 _ rfl j hj).trans (h0 j hj).2.2.1.symm
   ·exact (rr 5 _ rfl j hj).trans (h0 j hj).2.2.2.symm
theorem eH {i b : Nat} {G : Nat -> Int} (e : (QC (D.blk i) (Ct.at D i))[b]? = some G) {j : Nat} (hj : j < 16) : (fnB w D (atB i) (mB' D i)).rho (nm b j) = G j := gV e hj
theorem Vp (b : bK) (C1 : Ct) (j : Nat) : ((C1.jmp b).a j = (bif (decide (ah b.pre 0 = 2) && !decide (ah b.pre 1 = 1)) then bump C1.a (ah b.pre 3) j else bif decide (ah b.pre 0 = 4) then ((C1.dest (ah b.post 0)).opd b.ops).a j else C1.a j)) /\
  ((C1.jmp b).p j = (bif decide (ah b.pre 0 = 4) then ((C1.dest (ah b.post 0)).opd b.ops).p j else C1.p j)) /\ (C1.jmp b).s j = C1.s j /\ (C1.jmp b).i j = C1.i j := by
 unfold Ct.jmp
 by_cases h2 : ah b.pre 0 = 2
 ·rw [if_pos h2, decide_eq_true h2, decide_eq_false (show ¬ ah b.pre 0 = 4 by omega)]
  by_cases h1 : ah b.pre 1 = 1
  ·rw [if_pos h1, decide_eq_true h1]; exact ⟨rfl, rfl, rfl, rfl⟩
  ·rw [if_neg h1, decide_eq_false h1]; exact ⟨rfl, rfl, rfl, rfl⟩
 ·rw [if_neg h2, decide_eq_false h2]
  by_cases h4 : ah b.pre 0 = 4
  ·rw [if_pos h4, decide_eq_true h4]; exact ⟨rfl, rfl, rfl, rfl⟩
  ·rw [if_neg h4, decide_eq_false h4]; exact ⟨rfl, rfl, rfl, rfl⟩
theorem outer (hs : Sm D) (hok : ∀ b ∈ D.bs, made.okB b = true) : ∀ K (ok : aG K (fnB w D (atB 0) (mF D)).rho (fnB w D (atB 0) (mF D)).sig), @aO ((fnB w D (atB 0) (mF D)).aH K ok) Tryz.prog (ao5 K) fV := by
 intro K ok
 have hn := hs.b
 have okb : ∀ i, i < D.bs.length -> ((D.blk i).st.all fun st => dn.val st) = true /\ A8 (D.blk i) = true := fun i hi => by
  have := hok _ (oG hi)
  unfold made.okB at this
  rwa [apJ] at this
 have hfO : fO ≠ f := by decide
 have inat : ∀ i, i < D.bs.length -> (Ct.at D i).In 24000 := fun i hi => In.more (In.at hs (by omega)) (by omega)
 have jf := fun i (hi : i < D.bs.length) => Fp (vC h hi) (okb i hi).2
 have opsok : ∀ i, i < D.bs.length -> ((D.blk i).ops.all fun el => (aY 0).val el) = true := fun i hi => by
  rcases (jf i hi).2.2 with e | e
  ·exact e
  ·rw [List.eq_nil_of_length_eq_zero e]; rfl
 have rI : ∀ i (hi : i < D.bs.length) K (ok : aG K (fnB w D (atB i) (mB' D i)).rho (fnB w D (atB i) (mB' D i)).sig), @aO ((fnB w D (atB i) (mB' D i)).aH K ok) Tryz.prog (nK K) bf := fun i hi =>
  inner h (inat i hi) (by decide) (q := atB i) hi (by omega) (by have := (hs.s _ (oG hi)).1; show (D.blk i).st.length <= 1000; omega) (okb i hi).1
   (fun j hj => ⟨eH h (i := i) (b := 0) rfl hj, eH h (i := i) (b := 1) rfl hj, eH h (i := i) (b := 2) rfl hj, eH h (i := i) (b := 3) (G := fun j => b2i ((Ct.at D i).i j)) rfl hj⟩) (fun j hj => ⟨eH h (i := i) (b := 4) rfl hj, eH h (i := i) (b := 5) rfl hj, eH h (i := i) (b := 6) rfl hj, eH h (i := i) (b := 7) (G := fun j => b2i (((Ct.at D i).stm (D.blk i).st).i j)) rfl hj⟩)
 have rA : ∀ i (hi : i < D.bs.length) K (ok : aG K (fnB w D (atB i) (mB' D i)).rho (fnB w D (atB i) (mB' D i)).sig), @aO ((fnB w D (atB i) (mB' D i)).aH K ok) Tryz.prog (rowA K) iG := fun i hi =>
  args h (C := ((Ct.at D i).stm (D.blk i).st).dest (ah (D.blk i).post 0)) (In.dest (In.stm (inat i hi) _) _) (by have := (hs.s _ (oG hi)).1; omega) (q := atB i) hi (by omega) (by have := (hs.s _ (oG hi)).2; show (D.blk i).ops.length <= 1000; omega) (opsok i hi)
   (fun j hj => ⟨eH h (i := i) (b := 9) rfl hj, eH h (i := i) (b := 5) rfl hj, eH h (i := i) (b := 6) rfl hj, eH h (i := i) (b := 7) (G := fun j => b2i (((Ct.at D i).stm (D.blk i).st).i j)) rfl hj⟩) (fun j hj => ⟨eH h (i := i) (b := 10) rfl hj, eH h (i := i) (b := 11) rfl hj⟩)
 have us : ∀ u ∈ isU (.xi .i64 4) (.int .i64 0) :: (qg 0 ++ (qg 1 ++ (qg 2 ++ DT 3))), iI (fnB w D (atB 0) (mF D)) (fnB w D (atB 0) (mB' D 0)) u := fun u hu => by
  rcases apu.1 hu with rfl | hu
  ·exact dP fun r v hv => hv
  exact dQ (uX fun j hj => eH h (i := 0) (b := 0) rfl hj) (dQ (uX fun j hj => eH h (i := 0) (b := 1) rfl hj) (dQ (uX fun j hj => eH h (i := 0) (b := 2) rfl hj) (IY fun j hj => (eH h (i := 0) (b := 3) (G := fun j => b2i ((Ct.at D 0).i j)) rfl hj).trans rfl))) u hu
 refine @dh _ _ (fun i => fnB w D (atB i) (mB' D i)) fV _ _ hdO _ _ (fun e => by cases e) D.bs.length (bQ _ _ _ _) us (fun i hi => ?_) ?_ 5 K ok
 ·refine bF Ns (fK je (@aW (fnB w D (atB i) (mB' D i)) _ _ (aT h _ _) (dM h (q := atB i) hi _)) (rows_ok fun K ok p hp => ?_)) (bQ _ _ _ _) (L := LO) ?_ (aoE (inat i hi) (by have := (hs.s _ (oG hi)).1; omega)) (fun p hp => by cases hp) (fun u hu => ?_) rfl (fun K ok => qo (F := F) (cc := fV) fun p hp e => ?_)
  ·simp only [apu, apw, or_false] at hp
   rcases hp with rfl | rfl
   ·exact ⟨F, Tryz.func34, fun c hc => iM DR (rI i hi K ok) hc⟩
   ·exact ⟨FO, Tryz.func98, fun c hc => iM Va (rA i hi K ok) hc⟩
  ·have hb := (fE h (atB i) (gX (by omega)) (mB' D i)).pin (i := 6) (c := 1) (show b2i (decide ((i : Int) < D.bs.length)) = 1 from (bY _).2 (by omega))
   obtain ⟨⟨j1, j2⟩, ⟨j3, j4⟩, _⟩ := jf i hi
   exact (((hb.lo (i := 11) (c := 0) j1).hi (i := 11) (c := 15) j2).lo (i := 18) (c := 0) j3).hi (i := 18) (c := 15) j4
  ·have e8 : (fnB w D (atB i) (mB' D i)).rho 8 = ah (D.blk i).pre 0 := rfl
   have e9 : (fnB w D (atB i) (mB' D i)).rho 9 = ah (D.blk i).pre 1 := rfl
   have eb : brN.num (fnB w D (atB i) (mB' D i)).rho = (decide (ah (D.blk i).pre 0 = 2) && !decide (ah (D.blk i).pre 1 = 1)) := by
    show ((decide (_ = (2 : Int)) && true) && !(decide (_ = (1 : Int)) && true)) = _
    rw [e8, e9, apv, apv]
   have ec : caN.num (fnB w D (atB i) (mB' D i)).rho = decide (ah (D.blk i).pre 0 = 4) := by
    show (decide (_ = (4 : Int)) && true) = _
    rw [e8, apv]
   have rn : ∀ b G, (QC (D.blk (i + 1)) (Ct.at D (i + 1)))[b]? = some G -> ∀ j, j < 16 -> (fnB w D (atB (i + 1)) (mB' D (i + 1))).rho (nm b j) = G j := fun b G e j hj => gV e hj
   have hsucc := JR (D := D) hi
   have jr := fun j => Vp h (D.blk i) ((Ct.at D i).stm (D.blk i).st) j
   rcases apu.1 hu with rfl | hu
   ·exact dP fun r v hv => hv
   refine dQ (dI fun j hj => ?_) (dQ (dI fun j hj => ?_) (dQ (dI fun j hj => ?_) (iO fun j hj => ?_))) u hu
   ·simp only [apz, apB, apx, List.drop_succ_cons, List.drop_zero]
    rw [eb, ec, rn 0 _ rfl j hj, hsucc]
    show _ = (((Ct.at D i).stm (D.blk i).st).jmp (D.blk i)).a j
    rw [(jr j).1]
    cases (decide (ah (D.blk i).pre 0 = 2) && !decide (ah (D.blk i).pre 1 = 1)) with
    | true => exact eH h (i := i) (b := 8) rfl hj
    | false => cases decide (ah (D.blk i).pre 0 = 4) with
     | true => exact eH h (i := i) (b := 10) rfl hj
     | false => exact eH h (i := i) (b := 4) rfl hj
   ·simp only [apz, apB, apx]
    rw [ec, rn 1 _ rfl j hj, hsucc]
    show _ = (((Ct.at D i).stm (D.blk i).st).jmp (D.blk i)).p j
    rw [(jr j).2.1]
    cases decide (ah (D.blk i).pre 0 = 4) with
    | true => exact eH h (i := i) (b := 11) rfl hj
    | false => exact eH h (i := i) (b := 5) rfl hj
   ·rw [rn 2 _ rfl j hj, hsucc]
    show _ = (((Ct.at D i).stm (D.blk i).st).jmp (D.blk i)).s j
    rw [(jr j).2.2.1]
    exact eH h (i := i) (b := 6) rfl hj
   ·rw [rn 3 _ rfl j hj, hsucc]
    show _ = b2i ((((Ct.at D i).stm (D.blk i).st).jmp (D.blk i)).i j)
    rw [(jr j).2.2.2]
    exact eH h (i := i) (b := 7) (G := fun j => b2i (((Ct.at D i).stm (D.blk i).st).i j)) rfl hj
  ·simp only [apu, apw, or_false] at hp
   rcases hp with rfl | rfl
   ·exact qB VI (rI i hi K ok)
   ·exact absurd e hfO
 ·refine bF KR (bD (aT h _ _)) (bQ _ _ _ _) (L := LO0) ?_ (aQ D _ _) (fun p hp => by cases hp) (fun u hu => ?_) rfl (bC f fV)
  ·exact (fE h (atB D.bs.length) (gX (by omega)) _).pin (i := 6) (c := 0) (show b2i (decide ((D.bs.length : Int) < D.bs.length)) = 0 by rw [decide_eq_false (by omega)]; rfl)
  ·have e : Ct.at D D.bs.length = Ct.fn D := by unfold Ct.at Ct.fn; rw [apG]
   have rr : ∀ b G, (QC (D.blk D.bs.length) (Ct.at D D.bs.length))[b]? = some G -> ∀ j, j < 16 -> (fnB w D (atB D.bs.length) (mB' D D.bs.length)).rho (nm b j) = G j := fun b G e j hj => gV e hj
   have r2 : ∀ b G, [(Ct.fn D).a, (Ct.fn D).p, (Ct.fn D).s, fun j => b2i ((Ct.fn D).i j)][b]? = some G -> ∀ j, j < 16 -> (fnB w D (atB 0) (mF D)).rho (nm b j) = G j := fun b G e j hj => by
    have := gV (D := D) (q := atB 0) (tail := []) e hj
    rwa [List.append_nil] at this
   rw [e] at rr
   refine dQ (dI fun j hj => ?_) (dQ (dI fun j hj => ?_) (dQ (dI fun j hj => ?_) (iO fun j hj => ?_))) u hu
   ·exact (rr 0 _ rfl j hj).trans (r2 0 _ rfl j hj).symm
   ·exact (rr 1 _ rfl j hj).trans (r2 1 _ rfl j hj).symm
   ·exact (rr 2 _ rfl j hj).trans (r2 2 _ rfl j hj).symm
   ·exact (rr 3 _ rfl j hj).trans (r2 3 _ rfl j hj).symm
end
end twos
end Go.Proofs.YtglmonlofejcgaaGreatDoor
