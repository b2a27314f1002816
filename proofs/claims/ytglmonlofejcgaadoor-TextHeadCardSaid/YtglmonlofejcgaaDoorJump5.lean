/- OperandText, Text and the reference's Written: the texts of operands and rvalues. strings.Join as an oracle of the machine. alive of chapter 06 answers true, whoever calls. Jumps' texts: strings.Join over strings that are not written out; the runs of jump.Text and the reference's. Jumps' texts: the runs of jump.Text and the reference's. -/
import Derived.Test.YtglmonlofejcgaaDoorTexts4U
import Derived.Test.YtglmonlofejcgaaDoorSeat
import Derived.Test.YtglmonlofejcgaaDoorAmC
import Derived.Test.YtglmonlofejcgaaDoorJump4
namespace Go.Proofs.YtglmonlofejcgaaDoor.Am
open Go.RowKit
set_option maxRecDepth 100000
def tlP : List Pl := [(0, (1, 2))]
def tlT : Sp := .cut 0 0 .leaf (.cut 0 16 (.cut 2 3 .leaf .leaf) .leaf)
theorem tplA_texts : Texts Tryd.prog TabOk 31 kPl (okPlE 0) (fun us => placeT (cellI us 0) (decide (cellI us 1 = 1)) (cellI us 2)) vS2 := texts_of mS2_ok (pls := tlP) (fun L xs => plcX kPl tlP L xs 0) (fun b0 L r xs us l hL d e ha h => @plcX_ok b0 r L kPl tlP xs us hL e ha 0 l h) (by kernel_rfl) (sp := tlT) (by kernel_rfl)
def tpP : List Pl := [(2, (3, 4))]
noncomputable def tp0L : Lf := Lf.startX [(true, kOp)] tpP.length
def tp0T : Sp := (.cut 0 1 .leaf (.cut 0 2 (.conj [(2, 0), (3, 0), (4, 0)] .leaf .leaf) (.cut 0 3 (.cut 1 0 .leaf (.cut 1 1 (.cut 2 0 .leaf (.cut 2 16 (.cut 4 3 .leaf .leaf) .leaf)) .leaf)) (.cut 0 4 (.cut 1 0 .leaf (.cut 1 1 (.cut 2 0 .leaf (.cut 2 16 (.cut 4 3 .leaf .leaf) .leaf)) .leaf)) .leaf))))
noncomputable def goodT_topA (L : Lf) : Bool := textAt (okOpE 0) kOp mS2 ((fun L xs => opX kOp tpP L xs 0) L (cellsL kOp L)) L (runT 30 kOp tpP L)
theorem topA_tp0 : (tp0T.leaves tp0L).all goodT_topA = true := by kernel_rfl
theorem topA_texts : Texts Tryd.prog TabOk 30 kOp (okOpE 0) (fun us => opT (opdAt us 0)) vS2 := texts_of mS2_ok (pls := tpP) (fun L xs => (fun L xs => opX kOp tpP L xs 0) L xs) (fun b0 L r xs us l hL d e ha h => @opX_ok b0 r L kOp tpP xs us hL d e ha 0 l h) (by kernel_rfl) (sp := tp0T) topA_tp0
end Go.Proofs.YtglmonlofejcgaaDoor.Am
/-! strings.Join as an oracle of the machine. -/
namespace Go.Proofs.YtglmonlofejcgaaDoor.Am
open Go.RowKit

def joinK (sep : List UInt8) : List (List UInt8) → List UInt8
  | [] => []
  | [x] => x
  | x :: y :: r => x ++ sep ++ joinK sep (y :: r)
theorem joinK_eq (sep : List UInt8) : ∀ ss : List (List UInt8), joinK sep ss = Lib.join ss sep
  | [] => by simp [joinK, Lib.join]
  | [x] => by simp [joinK, Lib.join]
  | x :: y :: r => by
    have ih := joinK_eq sep (y :: r)
    unfold Lib.join at ih ⊢
    rw [joinK, ih]
    simp [List.intercalate, List.intersperse]
end Go.Proofs.YtglmonlofejcgaaDoor.Am
/-! alive of chapter 06 answers true, whoever calls. -/
namespace Go.Proofs.YtglmonlofejcgaaDoor.Am
open Go.RowKit
theorem TabOk.all {w w0 : World} (k : TabOk w0) (h : ∀ b, b < 3 → w.heap[b]? = w0.heap[b]?) : TabOk w := by
  refine ⟨?_, k.here h⟩
  have hs := k.size
  have h3 : w0.heap[2]? = some w0.heap[2] := Array.getElem?_eq_getElem (by omega)
  have := (Array.getElem?_eq_some_iff.1 ((h 2 (by decide)).trans h3)).1
  omega
end Go.Proofs.YtglmonlofejcgaaDoor.Am
/-! Jumps' texts: strings.Join over strings that are not written out; the runs of jump.Text and the reference's. -/
namespace Go.Proofs.YtglmonlofejcgaaDoor.Am
open Go.RowKit
set_option maxRecDepth 100000
set_option linter.unusedVariables false
set_option linter.unusedSectionVars false
def joinN (sep : List Nat) : List (List Nat) → List Nat
  | [] => []
  | [x] => x
  | x :: y :: r => x ++ (sep ++ joinN sep (y :: r))
noncomputable def joinXO (K : Know) : Oracle := fun f args h _ => bif f == 32 then (match args with
  | [.s (.sl l o n 1 _), .s sep] => ob sep.txt fun sp => ob (h.read l o n) fun cs => ob (mapO S.txt cs) fun ss => ob (@mxX K (joinN sp ss)) fun m => bif Nat.ble m 1000000 && Nat.ble n 1000000 then some (V.s (S.ofXs (joinN sp ss)), h) else none
  | [.s .nils, .s sep] => ob sep.txt fun _ => some (V.s (.str []), h)
  | _ => none) else none
theorem strX_joinN [Base] (sig : Nat → List UInt8) (sep : List Nat) : ∀ ss : List (List Nat), strX sig (joinN sep ss) = joinK (strX sig sep) (ss.map (strX sig))
  | [] => rfl
  | [x] => rfl
  | x :: y :: r => by
    have ih := strX_joinN sig sep (y :: r)
    rw [joinN, strX_append, strX_append, ih]
    simp only [List.map_cons, joinK, List.append_assoc]
theorem ofXs_vs (b0 : Base) {r : Ren} (l : List Nat) : @VS b0 r (S.ofXs l) (.string ⟨(strX b0.sig l).toArray⟩) := by
  unfold S.ofXs
  cases h : l.all (fun n => Nat.blt n 256)
  · rfl
  · show _ = Value.string _
    rw [strX_plain b0.sig h]
theorem txts_ok (b0 : Base) {r : Ren} : ∀ {cs : List S} {ss : List (List Nat)} {us : List Value}, mapO S.txt cs = some ss → All2 (@VS b0 r) cs us → us = ss.map fun l => Value.string ⟨(strX b0.sig l).toArray⟩
  | [], ss, [], h, _ => by cases h; rfl
  | [], _, _ :: _, _, h => h.elim
  | _ :: _, _, [], _, h => h.elim
  | c :: cs, ss, u :: us, h, k => by
    rw [mapO_cons] at h
    obtain ⟨l, hl, h⟩ := ob_some h
    obtain ⟨q, hq, h⟩ := ob_some h
    cases h
    rw [List.map_cons, @txt_ok b0 _ _ _ hl _ k.1, txts_ok b0 hq k.2]
theorem sound_joinX (b0 : Base) : @Sound b0 Tryd.prog (joinXO b0.toKnow) := by
  intro f args h fl v h' e
  unfold joinXO at e
  cases hf : (f == 32) <;> rw [hf] at e <;> simp only [cond_true, cond_false] at e
  · cases e
  obtain rfl : f = 32 := by simpa using hf
  refine ⟨⟨_, Tryd.func32, by kernel_rfl, by kernel_rfl⟩, fun r B w vs hi ha => ?_⟩
  split at e
  · rename_i l o n c sepS
    obtain ⟨sep, hsep, e⟩ := ob_some e
    obtain ⟨cs, hcs, e⟩ := ob_some e
    obtain ⟨ss, hss, e⟩ := ob_some e
    obtain ⟨m, hm, e⟩ := ob_some e
    cases hb : (Nat.ble m 1000000 && Nat.ble n 1000000) <;> rw [hb] at e <;> simp only [cond_true, cond_false] at e
    · cases e
    cases e
    simp only [Bool.and_eq_true] at hb
    have hb1 := Nat.le_of_ble_eq_true hb.1
    have hb2 := Nat.le_of_ble_eq_true hb.2
    obtain ⟨u1, u2, rfl, hu1, hu2⟩ := all2_two ha
    have hu2 := @txt_ok b0 _ _ _ hsep _ hu2
    subst hu2
    obtain ⟨cc, rfl, hl, _, hn, _⟩ := sl_val hu1
    obtain ⟨us, k1, k2, k3⟩ := read_ok hi hcs
    obtain rfl := txts_ok b0 hss k1
    have hlen : ss.length = n := by simpa using k2
    have hmx : (joinK (strX b0.sig sep) (ss.map (strX b0.sig))).length ≤ m := by rw [← strX_joinN]; exact mxX_ok hm
    have hres : ∀ r', VV r' (V.s (S.ofXs (joinN sep ss))) (.string ⟨(Lib.join (ss.map (strX b0.sig)) (strX b0.sig sep)).toArray⟩) := fun r' => by
      have := ofXs_vs b0 (r := r') (joinN sep ss)
      rw [strX_joinN, joinK_eq] at this
      exact this
    rw [joinK_eq] at hmx
    rcases Nat.eq_zero_or_pos n with h0 | h0
    · subst h0
      have : ss = [] := List.eq_nil_of_length_eq_zero hlen
      subst this
      refine (Tryd.strings_Join_none _ _ _ w).mono fun e w' ⟨e1, e2⟩ => ⟨_, e1, Post.below hi (by rw [e2]; exact Below.refl _ _) (hres r)⟩
    · have hcell : ∀ (j : Nat) x, (ss.map fun l => (⟨(strX b0.sig l).toArray⟩ : ByteArray))[j]? = some x → w.cell? ⟨r.blk l, r.off l + o + j, none⟩ = some (.string x) := fun j x hx => by
        simp only [List.getElem?_map, Option.map_eq_some_iff] at hx
        obtain ⟨s, hs, rfl⟩ := hx
        have := k3 j (.string ⟨(strX b0.sig s).toArray⟩) (by simp [hs])
        rw [← this]
        simp [Ren.at, Nat.add_assoc]
      have hblk : r.blk l < w.heap.size := by
        obtain ⟨s, hs⟩ : ∃ s, ss[0]? = some s := ⟨ss[0], by rw [List.getElem?_eq_getElem]⟩
        have := hcell 0 _ (by rw [List.getElem?_map, hs]; rfl)
        unfold World.cell? at this
        by_cases hlt : r.blk l < w.heap.size
        · exact hlt
        · rw [Array.getElem?_eq_none (Nat.le_of_not_lt hlt)] at this
          cases this
      have hmap : ((ss.map fun l => (⟨(strX b0.sig l).toArray⟩ : ByteArray)).map fun x => x.data.toList) = ss.map (strX b0.sig) := by simp [List.map_map, Function.comp_def]
      have hj := Tryd.strings_Join (r.blk l) (r.off l + o) cc (ss.map fun l => ⟨(strX b0.sig l).toArray⟩) ⟨(strX b0.sig sep).toArray⟩ w hcell hblk (by simp; omega) (by simp; omega) (by rw [hmap]; show (Lib.join _ (strX b0.sig sep).toArray.toList).length ≤ _; simp; omega)
      rw [hmap] at hj
      simp only [List.length_map, hlen] at hj
      refine Calls.mono hj fun e w' ⟨e1, e2⟩ => ⟨_, e1, Post.below hi e2 ?_⟩
      have := hres r
      simpa using this
  · obtain ⟨u1, u2, rfl, hu1, hu2⟩ := all2_two ha
    rename_i sep
    obtain ⟨sp, hsep, e⟩ := ob_some e
    cases hu1; cases e
    have hu2 := @txt_ok b0 _ _ _ hsep _ hu2
    subst hu2
    exact (Tryd.strings_Join_none _ _ _ w).mono fun e w' ⟨e1, e2⟩ => ⟨_, e1, Post.below hi (by rw [e2]; exact Below.refl _ _) rfl⟩
  · cases e
end Go.Proofs.YtglmonlofejcgaaDoor.Am
/-! Jumps' texts: the runs of jump.Text and the reference's. -/
namespace Go.Proofs.YtglmonlofejcgaaDoor.Am
open Go.RowKit
set_option maxRecDepth 100000
set_option linter.unusedVariables false
set_option linter.unusedSectionVars false
def gotoN : List Nat := [103, 111, 116, 111, 32, 98]
def branchN : List Nat := [98, 114, 97, 110, 99, 104, 32]
def bN : List Nat := [32, 98]
def returnN : List Nat := [114, 101, 116, 117, 114, 110]
def abortN : List Nat := [97, 98, 111, 114, 116]
def fN : List Nat := [32, 58, 61, 32, 102]
def openN : List Nat := [40]
def commaN : List Nat := [44, 32]
def closeN : List Nat := [41, 32, 98]
/-- kinds: 1 goto, 2 branch, 3 return, 4 call, 5 abort; n arguments -/
def expJ (c n : Nat) : List Nat := match c with
  | 1 => gotoN ++ [256 + 15]
  | 2 => branchN ++ ([256 + 13] ++ (bN ++ ([256 + 15] ++ (bN ++ [256 + 16]))))
  | 3 => returnN
  | 4 => [256 + 14] ++ (fN ++ ([256 + 17] ++ (openN ++ (joinN commaN ((List.range n).map fun i => [256 + (18 + i)]) ++ (closeN ++ [256 + 15])))))
  | _ => abortN
noncomputable def LT (c n : Nat) : Lf := bif Nat.beq c 4 then onlyB (onlyB (Lf.startB [(true, kJ)] (List.replicate (5 + n) (0, 30)) []) 0 4) 9 n else onlyB (Lf.startB [(true, kJ)] (List.replicate (5 + n) (0, 30)) []) 0 c
def elT (n i : Nat) : List S := cellsT (18 + n + 5 * i) opK
def tbT (n : Nat) : Tabs := ⟨[(0, 9)], (List.range n).map fun (i : Nat) => ((0 : Nat), N.c (i : Int), elT n i), []⟩
noncomputable def cjT (c n : Nat) : List S := cellsJ.map (LT c n).nS
noncomputable def rowsT0 (c n : Nat) : List Oracle :=
  [rowG 27 [.g (cjT c n)] (m8 true), rowG 69 [.g (cjT c n)] (mB true)] ++
  [(7, 15), (8, 16), (6, 17)].flatMap fun (p : Nat × Nat) => [rowG 29 [.s (.xi .i64 p.1)] (mS1 (.xs [256 + p.2]))]
noncomputable def rowsTA (c n : Nat) : List Oracle := [rowG 30 [.g (clL (LT c n) 1 opK)] (mS2 (.xs [256 + 13]))]
noncomputable def rowsTD (c n : Nat) : List Oracle := [rowG 31 [.g (clL (LT c n) 10 kPl)] (mS2 (.xs [256 + 14]))]
noncomputable def rowsTE (n : Nat) : List Oracle := (List.range n).flatMap fun (i : Nat) => [rowG 30 [.g (elT n i)] (mS2 (.xs [256 + (18 + i)]))]
noncomputable def rowsT (c n : Nat) : List Oracle := rowsT0 c n ++ (bif Nat.beq c 2 then rowsTA c n else bif Nat.beq c 4 then rowsTD c n ++ (rowsTE n ++ [joinXO ((LT c n).know (strsB 13 (5 + n)))]) else [])
noncomputable def runTJ (F : FuncId) (c n : Nat) : R := @runsL ((LT c n).know (strsB 13 (5 + n))) (tyOf Tryd.prog) (fnOf Tryd.prog) (orcs (rowsT c n)) (tbT n) (fun _ _ _ _ => none) 30 15 F (([.g cellsJ] : List A).map (LT c n).nA) ⟨[], 0⟩ 0
noncomputable def goodTJ (F : FuncId) (c n : Nat) : Bool := sayV (mS2 (S.ofXs (expJ c n))) (runTJ F c n)
theorem textA_runs : ([1, 2, 3, 5].all fun c => goodTJ 14 c 0) = true := by kernel_rfl
theorem textA_calls : ((List.range 9).all fun n => goodTJ 14 4 n) = true := by kernel_rfl
end Go.Proofs.YtglmonlofejcgaaDoor.Am
