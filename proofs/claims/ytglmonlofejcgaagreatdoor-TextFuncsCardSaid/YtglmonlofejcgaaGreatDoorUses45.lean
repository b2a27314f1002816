/- OperandText, Text and the reference's Written: the texts of operands and rvalues. strings.Join as an oracle of the machine. alive of chapter 06 answers true, whoever calls. Jumps' texts: strings.Join over strings that are not written out; the runs of jump.Text and the reference's. Jumps' texts: the runs of jump.Text and the reference's. Rvalues as lists of cells: parts, equality, lengths of texts. Texts of statements, out of their cells. slices.Insert at []int: the library's contracts, at this program. What statements use and move: lists of locals; functions of one struct that answer with a list of numbers. What rvalues use: value.Uses answers with a list, pawnshopref04.Used with truth values. What rvalues use: the runs. What rvalues move: value.Moves. -/
import Derived.Test.YtglmonlofejcgaaGreatDoorTexts4U
import Derived.Test.YtglmonlofejcgaaGreatDoorTextVU
import Derived.Test.YtglmonlofejcgaaGreatDoorAmC
import Derived.Test.YtglmonlofejcgaaGreatDoorJump4
import Derived.Test.YtglmonlofejcgaaGreatDoorTests5
import Derived.Test.YtglmonlofejcgaaGreatDoorProg
import Derived.Shelf.Spec.SlicesInsert
import Derived.Shelf.Spec.SlicesInsertGrow
set_option linter.unusedVariables false
set_option linter.unusedSectionVars false
set_option maxRecDepth 100000
namespace Go.Proofs.YtglmonlofejcgaaGreatDoor.Am
open Go.RowKit
def tlP : List Pl := [(0, (1, 2))]
def tlT : Sp := .cut 0 0 .leaf (.cut 0 16 (.cut 2 3 .leaf .leaf) .leaf)
theorem YW : Texts Tryz.prog gq 70 kPl (fU 0) (fun us => iH (ah us 0) (decide (ah us 1 = 1)) (ah us 2)) vS2 := D7 U2 (pls := tlP) (fun L xs => Y1 kPl tlP L xs 0) (fun b0 L r xs us l hL d e ha h => @yU b0 r L kPl tlP xs us hL e ha 0 l h) (by kernel_rfl) (sp := tlT) (by kernel_rfl)
theorem XA : Texts Tryz.prog gq 113 kPl (fU 0) (fun us => iH (ah us 0) (decide (ah us 1 = 1)) (ah us 2)) vS1 := D7 SS (pls := tlP) (fun L xs => Y1 kPl tlP L xs 0) (fun b0 L r xs us l hL d e ha h => @yU b0 r L kPl tlP xs us hL e ha 0 l h) (by kernel_rfl) (sp := tlT) (by kernel_rfl)
def tpP : List Pl := [(2, (3, 4))]
noncomputable def al6 : Lf := Lf.JG [(true, kOp)] tpP.length
def ahD : Sp := (.cut 0 1 .leaf (.cut 0 2 (.conj [(2, 0), (3, 0), (4, 0)] .leaf .leaf) (.cut 0 3 (.cut 1 0 .leaf (.cut 1 1 (.cut 2 0 .leaf (.cut 2 16 (.cut 4 3 .leaf .leaf) .leaf)) .leaf)) (.cut 0 4 (.cut 1 0 .leaf (.cut 1 1 (.cut 2 0 .leaf (.cut 2 16 (.cut 4 3 .leaf .leaf) .leaf)) .leaf)) .leaf))))
noncomputable def Ya (L : Lf) : Bool := wF (bn 0) kOp mS2 ((fun L xs => opX kOp tpP L xs 0) L (nU kOp L)) L (runT 69 kOp tpP L)
theorem aeE : (ahD.leaves al6).all Ya = true := by kernel_rfl
theorem Kq : Texts Tryz.prog gq 69 kOp (bn 0) (fun us => opT (D8 us 0)) vS2 := D7 U2 (pls := tpP) (fun L xs => (fun L xs => opX kOp tpP L xs 0) L xs) (fun b0 L r xs us l hL d e ha h => @tV b0 r L kOp tpP xs us hL d e ha 0 l h) (by kernel_rfl) (sp := ahD) aeE
noncomputable def Yf (L : Lf) : Bool := wF (bn 0) kOp mS1 ((fun L xs => opX kOp tpP L xs 0) L (nU kOp L)) L (runT 115 kOp tpP L)
theorem a6O : (ahD.leaves al6).all Yf = true := by kernel_rfl
theorem MS : Texts Tryz.prog gq 115 kOp (bn 0) (fun us => opT (D8 us 0)) vS1 := D7 SS (pls := tpP) (fun L xs => (fun L xs => opX kOp tpP L xs 0) L xs) (fun b0 L r xs us l hL d e ha h => @tV b0 r L kOp tpP xs us hL d e ha 0 l h) (by kernel_rfl) (sp := ahD) a6O
end Go.Proofs.YtglmonlofejcgaaGreatDoor.Am
namespace Go.Proofs.YtglmonlofejcgaaGreatDoor.Am
open Go.RowKit
def oG (sep : List UInt8) : List (List UInt8) -> List UInt8
 | [] => []
 | [x] => x
 | x :: y :: r => x ++ sep ++ oG sep (y :: r)
theorem IX (sep : List UInt8) : ∀ ss : List (List UInt8), oG sep ss = Lib.join ss sep
 | [] => by simp [oG, Lib.join]
 | [x] => by simp [oG, Lib.join]
 | x :: y :: r => by
  have ih := IX sep (y :: r)
  unfold Lib.join at ih |-
  rw [oG, ih]
  simp [List.intercalate, List.intersperse]
end Go.Proofs.YtglmonlofejcgaaGreatDoor.Am
namespace Go.Proofs.YtglmonlofejcgaaGreatDoor.Am
open Go.RowKit
theorem gq.all {w w0 : World} (k : gq w0) (h : ∀ b, b < 3 -> w.heap[b]? = w0.heap[b]?) : gq w := by
 refine ⟨?_, k.here h⟩
 have hs := k.size
 have h3 : w0.heap[2]? = some w0.heap[2] := Array.getElem?_eq_getElem (by omega)
 have := (Array.getElem?_eq_some_iff.1 ((h 2 (by decide)).trans h3)).1
 omega
end Go.Proofs.YtglmonlofejcgaaGreatDoor.Am
namespace Go.Proofs.YtglmonlofejcgaaGreatDoor.Am
open Go.RowKit
def Dx (sep : List Nat) : List (List Nat) -> List Nat
 | [] => []
 | [x] => x
 | x :: y :: r => x ++ (sep ++ Dx sep (y :: r))
noncomputable def XQ (K : Know) : aS := fun f args h _ => bif f == 74 then (match args with
 | [.s (.sl l o n 1 _), .s sep] => ob sep.txt fun sp => ob (h.read l o n) fun cs => ob (o7 S.txt cs) fun ss => ob (@mxX K (Dx sp ss)) fun m => bif Nat.ble m 1000000 && Nat.ble n 1000000 then some (V.s (S.uI (Dx sp ss)), h) else none
 | [.s .vk, .s sep] => ob sep.txt fun _ => some (V.s (.str []), h)
 | _ => none) else none
theorem uN [Base] (sig : Nat -> List UInt8) (sep : List Nat) : ∀ ss : List (List Nat), bI sig (Dx sep ss) = oG (bI sig sep) (ss.map (bI sig))
 | [] => rfl
 | [x] => rfl
 | x :: y :: r => by
  have ih := uN sig sep (y :: r)
  rw [Dx, dw, dw, ih]
  simp only [List.map_cons, oG, List.append_assoc]
theorem ahv (b0 : Base) {r : Ren} (l : List Nat) : @VS b0 r (S.uI l) (.string ⟨(bI b0.sig l).toArray⟩) := by
 unfold S.uI
 cases h : l.all (fun n => Nat.blt n 256)
 ·rfl
 ·show _ = Value.string _
  rw [qG b0.sig h]
theorem a0w (b0 : Base) {r : Ren} : ∀ {cs : List S} {ss : List (List Nat)} {us : List Value}, o7 S.txt cs = some ss -> ak (@VS b0 r) cs us -> us = ss.map fun l => Value.string ⟨(bI b0.sig l).toArray⟩
 | [], ss, [], h, _ => by cases h; rfl
 | [], _, _ :: _, _, h => h.elim
 | _ :: _, _, [], _, h => h.elim
 | c :: cs, ss, u :: us, h, k => by
  rw [jL] at h
  obtain ⟨l, hl, h⟩ := aj h
  obtain ⟨q, hq, h⟩ := aj h
  cases h
  rw [List.map_cons, @og b0 _ _ _ hl _ k.1, a0w b0 hq k.2]
theorem V7 (b0 : Base) : @Sound b0 Tryz.prog (XQ b0.toKnow) := by
 intro f args h fl v h' e
 unfold XQ at e
 cases hf : (f == 74) <;> rw [hf] at e <;> simp only [cond_true, cond_false] at e
 ·cases e
 obtain rfl : f = 74 := by simpa using hf
 refine ⟨⟨_, Tryz.func74, by kernel_rfl, by kernel_rfl⟩, fun r B w vs hi ha => ?_⟩
 split at e
 ·rename_i l o n c sepS
  obtain ⟨sep, hsep, e⟩ := aj e
  obtain ⟨cs, hcs, e⟩ := aj e
  obtain ⟨ss, hss, e⟩ := aj e
  obtain ⟨m, hm, e⟩ := aj e
  cases hb : (Nat.ble m 1000000 && Nat.ble n 1000000) <;> rw [hb] at e <;> simp only [cond_true, cond_false] at e
  ·cases e
  cases e
  simp only [Bool.and_eq_true] at hb
  have hb1 := Nat.le_of_ble_eq_true hb.1
  have hb2 := Nat.le_of_ble_eq_true hb.2
  obtain ⟨u1, u2, rfl, hu1, hu2⟩ := Dp ha
  have hu2 := @og b0 _ _ _ hsep _ hu2
  subst hu2
  obtain ⟨cc, rfl, hl, _, hn, _⟩ := Ba hu1
  obtain ⟨us, k1, k2, k3⟩ := Ro hi hcs
  obtain rfl := a0w b0 hss k1
  have hlen : ss.length = n := by simpa using k2
  have hmx : (oG (bI b0.sig sep) (ss.map (bI b0.sig))).length <= m := by rw [<- uN]; exact XW hm
  have hres : ∀ r', VV r' (V.s (S.uI (Dx sep ss))) (.string ⟨(Lib.join (ss.map (bI b0.sig)) (bI b0.sig sep)).toArray⟩) := fun r' => by
   have := ahv b0 (r := r') (Dx sep ss)
   rw [uN, IX] at this
   exact this
  rw [IX] at hmx
  rcases Nat.eq_zero_or_pos n with h0 | h0
  ·subst h0
   have : ss = [] := List.eq_nil_of_length_eq_zero hlen
   subst this
   refine (Tryz.strings_Join_none _ _ _ w).mono fun e w' ⟨e1, e2⟩ => ⟨_, e1, Post.below hi (by rw [e2]; exact Below.refl _ _) (hres r)⟩
  ·have hcell : ∀ (j : Nat) x, (ss.map fun l => (⟨(bI b0.sig l).toArray⟩ : ByteArray))[j]? = some x -> w.cell? ⟨r.blk l, r.off l + o + j, none⟩ = some (.string x) := fun j x hx => by
    simp only [List.getElem?_map, Option.map_eq_some_iff] at hx
    obtain ⟨s, hs, rfl⟩ := hx
    have := k3 j (.string ⟨(bI b0.sig s).toArray⟩) (by simp [hs])
    rw [<- this]
    simp [Ren.at, Nat.add_assoc]
   have hblk : r.blk l < w.heap.size := by
    obtain ⟨s, hs⟩ : ∃ s, ss[0]? = some s := ⟨ss[0], by rw [List.getElem?_eq_getElem]⟩
    have := hcell 0 _ (by rw [List.getElem?_map, hs]; rfl)
    unfold World.cell? at this
    by_cases hlt : r.blk l < w.heap.size
    ·exact hlt
    ·rw [Array.getElem?_eq_none (Nat.le_of_not_lt hlt)] at this
     cases this
   have hmap : ((ss.map fun l => (⟨(bI b0.sig l).toArray⟩ : ByteArray)).map fun x => x.data.toList) = ss.map (bI b0.sig) := by simp [List.map_map, Function.comp_def]
   have hj := Tryz.strings_Join (r.blk l) (r.off l + o) cc (ss.map fun l => ⟨(bI b0.sig l).toArray⟩) ⟨(bI b0.sig sep).toArray⟩ w hcell hblk (by simp; omega) (by simp; omega) (by rw [hmap]; show (Lib.join _ (bI b0.sig sep).toArray.toList).length <= _; simp; omega)
   rw [hmap] at hj
   simp only [List.length_map, hlen] at hj
   refine Calls.mono hj fun e w' ⟨e1, e2⟩ => ⟨_, e1, Post.below hi e2 ?_⟩
   have := hres r
   simpa using this
 ·obtain ⟨u1, u2, rfl, hu1, hu2⟩ := Dp ha
  rename_i sep
  obtain ⟨sp, hsep, e⟩ := aj e
  cases hu1; cases e
  have hu2 := @og b0 _ _ _ hsep _ hu2
  subst hu2
  exact (Tryz.strings_Join_none _ _ _ w).mono fun e w' ⟨e1, e2⟩ => ⟨_, e1, Post.below hi (by rw [e2]; exact Below.refl _ _) rfl⟩
 ·cases e
end Go.Proofs.YtglmonlofejcgaaGreatDoor.Am
namespace Go.Proofs.YtglmonlofejcgaaGreatDoor.Am
open Go.RowKit
def acv : List Nat := [103, 111, 116, 111, 32, 98]
def SE : List Nat := [98, 114, 97, 110, 99, 104, 32]
def bN : List Nat := [32, 98]
def a0r : List Nat := [114, 101, 116, 117, 114, 110]
def adn : List Nat := [97, 98, 111, 114, 116]
def fN : List Nat := [32, 58, 61, 32, 102]
def a81 : List Nat := [40]
def YX : List Nat := [44, 32]
def YL : List Nat := [41, 32, 98]
def ag1 (c n : Nat) : List Nat := match c with
 | 1 => acv ++ [256 + 15]
 | 2 => SE ++ ([256 + 13] ++ (bN ++ ([256 + 15] ++ (bN ++ [256 + 16]))))
 | 3 => a0r
 | 4 => [256 + 14] ++ (fN ++ ([256 + 17] ++ (a81 ++ (Dx YX ((List.range n).map fun i => [256 + (18 + i)]) ++ (YL ++ [256 + 15])))))
 | _ => adn
noncomputable def LT (c n : Nat) : Lf := bif Nat.beq c 4 then pX (pX (Lf.lV [(true, kJ)] (List.replicate (5 + n) (0, 30)) []) 0 4) 9 n else pX (Lf.lV [(true, kJ)] (List.replicate (5 + n) (0, 30)) []) 0 c
def elT (n i : Nat) : List S := bZ (18 + n + 5 * i) opK
def tbT (n : Nat) : Tabs := ⟨[(0, 9)], (List.range n).map fun (i : Nat) => ((0 : Nat), N.c (i : Int), elT n i), []⟩
noncomputable def cjT (c n : Nat) : List S := uh.map (LT c n).nS
noncomputable def afh (c n : Nat) : List aS :=
 [ku 72 [.g (cjT c n)] (m8 true), ku 107 [.g (cjT c n)] (mB true)] ++
 [(7, 15), (8, 16), (6, 17)].flatMap fun (p : Nat × Nat) => [ku 36 [.s (.xi .i64 p.1)] (mS1 (.xs [256 + p.2])), ku 111 [.s (.xi .i64 p.1)] (mS1 (.xs [256 + p.2]))]
noncomputable def afk (c n : Nat) : List aS := [ku 69 [.g (clL (LT c n) 1 opK)] (mS2 (.xs [256 + 13])), ku 115 [.g (clL (LT c n) 1 opK)] (mS1 (.xs [256 + 13]))]
noncomputable def acj (c n : Nat) : List aS := [ku 70 [.g (clL (LT c n) 10 kPl)] (mS2 (.xs [256 + 14])), ku 113 [.g (clL (LT c n) 10 kPl)] (mS1 (.xs [256 + 14]))]
noncomputable def aki (n : Nat) : List aS := (List.range n).flatMap fun (i : Nat) => [ku 69 [.g (elT n i)] (mS2 (.xs [256 + (18 + i)])), ku 115 [.g (elT n i)] (mS1 (.xs [256 + (18 + i)]))]
noncomputable def Zg (c n : Nat) : List aS := afh c n ++ (bif Nat.beq c 2 then afk c n else bif Nat.beq c 4 then acj c n ++ (aki n ++ [XQ ((LT c n).know (Ej 13 (5 + n)))]) else [])
noncomputable def aiR (F : FuncId) (c n : Nat) : R := @qE ((LT c n).know (Ej 13 (5 + n))) (lM Tryz.prog) (lZ Tryz.prog) (I7 (Zg c n)) (tbT n) (fun _ _ _ _ => none) 30 15 F (([.g uh] : List A).map (LT c n).nA) ⟨[], 0⟩ 0
noncomputable def TN (F : FuncId) (c n : Nat) : Bool := vg (mS2 (S.uI (ag1 c n))) (aiR F c n)
theorem XO : ([1, 2, 3, 5].all fun c => TN 40 c 0) = true := by kernel_rfl
theorem Wx : ((List.range 9).all fun n => TN 40 4 n) = true := by kernel_rfl
end Go.Proofs.YtglmonlofejcgaaGreatDoor.Am
namespace Go.Proofs.YtglmonlofejcgaaGreatDoor.Am
open Go.RowKit
theorem uD (l : Int) (d : Bool) (f : Int) : (iH l d f).length <= 25 := by
 have := dX l
 rw [PI]
 have hf : (a4f f).length <= 2 := by
  unfold a4f
  split
  ·decide
  ·split <;> decide
 cases d <;> simp <;> omega
theorem Tz (o : Opd) : (opT o).length <= 30 := by
 have h1 := dX o.n
 have h2 := uD o.l o.d o.f
 unfold opT
 split
 ·omega
 ·split <;> simp only [List.length_append, a1F, a1k, List.length_cons, List.length_nil] <;> omega
theorem ai6 (r : Rv) : (rvT r).length <= 64 := by
 have h1 := Tz r.a
 have h2 := Tz r.b
 have h3 := uD r.l r.d r.f
 have h4 : (ahB r.k r.bo).length <= 5 := by
  unfold ahB
  split
  ·decide
  ·split
   ·decide
   ·split <;> decide
 unfold rvT
 split
 ·omega
 ·split
  ·simp only [List.length_append, List.length_cons]; omega
  ·split <;> simp only [List.length_append, List.length_cons, List.length_nil] <;> omega
end Go.Proofs.YtglmonlofejcgaaGreatDoor.Am
namespace Go.Proofs.YtglmonlofejcgaaGreatDoor.Am
open Go.RowKit
structure Stm where
 k : Int
 l : Int
 d : Bool
 f : Int
 r : Rv
 a : Opd
 n : Int
def Rv.no : Rv := ⟨0, Opd.no, Opd.no, 0, 0, 0, false, 0⟩
def Stm.Ok (s : Stm) : Prop :=
 (s.k = 1 /\ InP s.l s.f /\ s.r.Ok /\ s.a = Opd.no /\ s.n = 0) \/
 ((s.k = 2 \/ s.k = 4) /\ s.l = 0 /\ s.d = false /\ s.f = 0 /\ s.r = Rv.no /\ s.a.Ok /\ s.n = 0) \/
 (s.k = 3 /\ s.l = 0 /\ s.d = false /\ s.f = 0 /\ s.r = Rv.no /\ s.a = Opd.no /\ 0 <= s.n /\ s.n < 16)
def a8u : List UInt8 := [32, 58, 61, 32]
def YR : List UInt8 := [112, 114, 105, 110, 116, 32]
def SA : List UInt8 := [97, 115, 115, 101, 114, 116, 32]
def YV : List UInt8 := [102, 114, 101, 115, 104, 32]
def stT (s : Stm) : List UInt8 :=
 if s.k = 1 then iH s.l s.d s.f ++ (a8u ++ rvT s.r) else if s.k = 2 then YR ++ opT s.a else if s.k = 4 then SA ++ opT s.a else YV ++ iH s.n false 0
theorem a0A (s : Stm) : (stT s).length <= 100 := by
 have h1 := uD s.l s.d s.f
 have h2 := ai6 s.r
 have h3 := Tz s.a
 have h4 := uD s.n false 0
 unfold stT
 split
 ·simp only [List.length_append, a8u, List.length_cons, List.length_nil]; omega
 ·split
  ·simp only [List.length_append, YR, List.length_cons, List.length_nil]; omega
  ·split
   ·simp only [List.length_append, SA, List.length_cons, List.length_nil]; omega
   ·simp only [List.length_append, YV, List.length_cons, List.length_nil]; omega
def MI (us : List Value) : Stm := ⟨ah us 0, ah us 1, decide (ah us 2 = 1), ah us 3, a4u us 4, D8 us 20, ah us 25⟩
noncomputable def ajf (b : Bool) (ks : List Kd) (pls : List Pl) (L : Lf) (x : S) : Option (List Nat) := bif b then orO (ob (FW L [x, S.bool false, S.int .u8 0] ks.length pls) fun h => some [h]) (ob (a6k ks x) fun n => some (120 :: n)) else ob (a6k ks x) fun n => some (120 :: n)
noncomputable def stX (b : Bool) (ks : List Kd) (pls : List Pl) (L : Lf) (xs : List S) : Option (List Nat) :=
 ob (nth xs 0) fun k => ob (MC k) fun k =>
  bif decide (k = 1) then ob (Y1 ks pls L xs 1) fun p => ob (rvX ks pls L xs 4) fun r => some (p ++ (rJ a8u ++ r))
  else bif decide (k = 2) then ob (opX ks pls L xs 20) fun a => some (rJ YR ++ a)
  else bif decide (k = 4) then ob (opX ks pls L xs 20) fun a => some (rJ SA ++ a)
  else bif decide (k = 3) then ob (nth xs 25) fun x => ob (ajf b ks pls L x) fun n => some (rJ YV ++ n)
  else none
section
variable [Base] {r : Ren} {L : Lf} {ks : List Kd} {pls : List Pl} {xs : List S} {us : List Value}
theorem afM (hL : L.Holds Base.rho Base.sig) (d : Dec ks Base.rho Base.sig) (e : PlE ks.length pls Base.rho Base.sig) {b : Bool} {x : S} {l : List Nat} (h : ajf b ks pls L x = some l) {v : Value} (hv : VS r x v) : bI Base.sig l = iH (aY v) false 0 := by
 have key : ∀ {l : List Nat}, (ob (a6k ks x) fun n => some (120 :: n)) = some l -> bI Base.sig l = iH (aY v) false 0 := fun {l} h => by
  obtain ⟨n, hn, h⟩ := aj h
  cases h
  rw [mP (by decide), a1L d hn hv, PI]
  show _ = [] ++ (120 :: (dD (aY v) ++ a4f 0))
  simp [a4f]
 unfold ajf at h
 cases b
 ·exact key h
 ·rcases dM h with h | h
  ·obtain ⟨q, hq, h⟩ := aj h
   cases h
   obtain ⟨j, p, hj, rfl, hp, hok⟩ := yX hq
   have hv3 : ak (VS r) ((plT p).map L.nS) [v, .bool false, .int .u8 0] := by
    rw [hp]
    exact ⟨hv, rfl, rfl, trivial⟩
   have hu := SI hL hv3
   simp only [List.cons.injEq, and_true] at hu
   obtain ⟨e1, e2, e3⟩ := hu
   rw [gK, e j p hj (TS hL hok), e1]
   have e2 : false = decide (Base.rho p.2.1 = 1) := by injection e2
   have e3 : (0 : Int) = Base.rho p.2.2 := by injection e3
   rw [<- e2, <- e3]
   rfl
  ·exact key h
theorem a8D (hL : L.Holds Base.rho Base.sig) (d : Dec ks Base.rho Base.sig) (e : PlE ks.length pls Base.rho Base.sig) (ha : ak (VS r) xs us) {b : Bool} {l : List Nat} (h : stX b ks pls L xs = some l) :
  bI Base.sig l = stT (MI us) := by
 obtain ⟨x, hx, h⟩ := aj h
 obtain ⟨k, hk, h⟩ := aj h
 obtain ⟨u, k1, v1, c1⟩ := AU ha hx
 rw [xg hk v1] at c1
 unfold stT
 rw [show (MI us).k = k from c1]
 cases h1 : decide (k = 1) <;> rw [h1] at h <;> simp only [cond_true, cond_false] at h
 case true =>
  simp only [decide_eq_true_eq] at h1
  obtain ⟨p, hp, h⟩ := aj h
  obtain ⟨q, hq, h⟩ := aj h
  cases h
  rw [if_pos h1, dw, dw, jC, yU hL e ha hp, ajD hL d e ha hq]
  rfl
 simp only [decide_eq_false_iff_not] at h1
 rw [if_neg h1]
 cases h2 : decide (k = 2) <;> rw [h2] at h <;> simp only [cond_true, cond_false] at h
 case true =>
  simp only [decide_eq_true_eq] at h2
  obtain ⟨p, hp, h⟩ := aj h
  cases h
  rw [if_pos h2, dw, jC, tV hL d e ha hp]
  rfl
 simp only [decide_eq_false_iff_not] at h2
 rw [if_neg h2]
 cases h4 : decide (k = 4) <;> rw [h4] at h <;> simp only [cond_true, cond_false] at h
 case true =>
  simp only [decide_eq_true_eq] at h4
  obtain ⟨p, hp, h⟩ := aj h
  cases h
  rw [if_pos h4, dw, jC, tV hL d e ha hp]
  rfl
 simp only [decide_eq_false_iff_not] at h4
 rw [if_neg h4]
 cases h3 : decide (k = 3) <;> rw [h3] at h <;> simp only [cond_true, cond_false] at h
 ·cases h
 obtain ⟨y, hy, h⟩ := aj h
 obtain ⟨n, hn, h⟩ := aj h
 cases h
 obtain ⟨u2, k2, v2, c2⟩ := AU ha hy
 rw [dw, jC, afM hL d e hn v2, <- c2]
 rfl
end
noncomputable def Fp (ks : List Kd) (pls : List Pl) (L : Lf) : aS := fun f a h fl => orR (aau (L.know (eG 0 ks)) f a h fl) (ajr L ks pls noO f a h fl)
noncomputable def ahK (F : FuncId) (ks : List Kd) (pls : List Pl) (L : Lf) : R := @runs (L.know (eG 0 ks)) (lM Tryz.prog) (lZ Tryz.prog) (Fp ks pls L) 30 15 F [.g (nU ks L)] ⟨[], 0⟩ 0
section
variable {F : FuncId} {ks : List Kd} {e : E} {T : List Value -> List UInt8} {val : List UInt8 -> Value} {pls : List Pl}
theorem PN {mk : S -> V} (hmk : ∀ (b0 : Base) r l u, @VV b0 r (mk (S.uI l)) u -> u = val (bI b0.sig l)) (exp : Lf -> List S -> Option (List Nat))
  (hexp : ∀ (b0 : Base) (L : Lf) (r : Ren) (xs : List S) (us : List Value) (l : List Nat), L.Holds b0.rho b0.sig -> Dec ks b0.rho b0.sig -> PlE ks.length pls b0.rho b0.sig -> @ak _ _ (@VS b0 r) xs us -> exp L xs = some l -> bI b0.sig l = T us)
  (hpl : pls.all (fun p => decide (p.1 < ks.length) && decide (p.2.1 < ks.length) && decide (p.2.2 < ks.length)) = true) {sp : Sp}
  (hrun : ((sp.leaves (Lf.JG [(true, ks)] pls.length)).all fun L => wF e ks mk (exp L (nU ks L)) L (ahK F ks pls L)) = true) : Texts Tryz.prog gq F ks e T val := by
 intro us hk he w hw
 have hg : Gps [(true, ks)] [.agg us.toArray] us := ⟨us, [], (List.append_nil _).symm, ⟨hk, .inl ⟨rfl, rfl⟩⟩, rfl⟩
 have hks : dY [(true, ks)] = ks := by simp [dY]
 have hlen : us.length = ks.length := by have := hk.len; omega
 have kk := NJ hg (Ic us pls)
 have d := PO hg (plX us pls)
 have ee : PlE ks.length pls (dh (jF us (plX us pls))) (fD (jF us (plX us pls))) := by
  rw [<- hlen]
  exact aiM (by rw [hlen]; exact hpl)
 rw [hks] at kk d
 have hl : (plX us pls).length = pls.length := by simp [plX]
 have hst := Lf.PG hg (Ic us pls)
 rw [hl] at hst
 obtain ⟨L, hm, hL⟩ := sp.cover hst
 have hp := List.all_eq_true.1 hrun L hm
 letI b0 : Base := base0 w (Lf.ok hL kk)
 have ha' : ak (VA r0) [.g (bZ 0 ks)] [.agg us.toArray] :=
  xK (cs := jF us (plX us pls)) rfl rfl ((plX us pls).map fun x => .string ⟨x.toArray⟩) (gs := [(true, ks)]) (pre := []) (cs' := us) rfl hg
 have ha := Lf.yj hL ha'
 unfold wF at hp
 cases hb : @E.abs (L.know (eG 0 ks)) ((bZ 0 ks).map L.nS) e with
 | none => rw [hb] at hp; cases hp
 | some b =>
  rw [hb] at hp
  have ha2 := ha
  obtain ⟨⟨us', e1, hus⟩, _⟩ := ha2
  have e1 : Value.agg us.toArray = .agg us'.toArray := e1
  obtain rfl : us = us' := by simpa using e1
  have hbv := E.qC hus hb
  rw [he] at hbv
  subst hbv
  have hp : (Option.rec false (fun l => vg (mk (S.uI l)) (ahK F ks pls L)) (exp L (nU ks L)) : Bool) = true := hp
  cases hx : exp L (nU ks L) with
  | none => rw [hx] at hp; cases hp
  | some l =>
   rw [hx] at hp
   obtain ⟨h', hr⟩ := yO hp
   have hS : Sound Tryz.prog (@runs (L.know (eG 0 ks)) (lM Tryz.prog) (lZ Tryz.prog) (Fp ks pls L) 30 15) :=
    @Bq w _ _ _ (Lf.ok hL kk) _ (@dU (base0 w (Lf.ok hL kk)) _ _ _ (RG (base0 w (Lf.ok hL kk))) (Lm hL kk d ee hw (VD _))) 30 15
   refine (gY w hw.size (fun _ _ => rfl) hS ha hr).mono fun x w' ⟨u, r', e1, e2, e3⟩ => ⟨?_, e3⟩
   rw [e1, hmk b0 _ _ _ e2, hexp b0 L r0 _ _ _ hL d ee hus hx]
end
end Go.Proofs.YtglmonlofejcgaaGreatDoor.Am
namespace Go.Proofs.YtglmonlofejcgaaGreatDoor.Am
open Go.RowKit
end Go.Proofs.YtglmonlofejcgaaGreatDoor.Am
namespace Go.Proofs.YtglmonlofejcgaaGreatDoor.Am
open Go.RowKit
section
variable [Know]
end
section
variable [Base] {r : Ren} {xs : List S} {us : List Value}
end
section
variable {F : FuncId} {ks : List Kd} {e : E} {T : List Value -> List Int} {pls : List Pl}
end
end Go.Proofs.YtglmonlofejcgaaGreatDoor.Am
namespace Go.Proofs.YtglmonlofejcgaaGreatDoor.Am
open Go.RowKit
section
variable {F : FuncId} {ks : List Kd} {e : E} {T : List Value -> List Int} {pls : List Pl}
end
end Go.Proofs.YtglmonlofejcgaaGreatDoor.Am
namespace Go.Proofs.YtglmonlofejcgaaGreatDoor.Am
open Go.RowKit
end Go.Proofs.YtglmonlofejcgaaGreatDoor.Am
namespace Go.Proofs.YtglmonlofejcgaaGreatDoor.Am
open Go.RowKit
end Go.Proofs.YtglmonlofejcgaaGreatDoor.Am
