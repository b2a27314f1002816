/- What fnshape.Check and the reference's Check answer is the same. (No run of the program.) Great and Size. fnshape.Calls, as the machine runs it. What fnshape.Calls answers. What a function's checks answer hangs on its core: its data without where its lists lie; and what a change of the core does to the answers. (Plain.) -/
import Derived.Test.YtglmonlofejcgaaGreatDoorFn25
set_option linter.unusedVariables false
set_option linter.unusedSectionVars false
set_option maxRecDepth 100000
namespace Go.Proofs.YtglmonlofejcgaaGreatDoor.refC
open Go.RowKit Am
open twos (Ct)
theorem Nr {F : Nat -> Int} {ls : List Int} {c : Nat} (hr : ∀ l ∈ ls, 0 <= l /\ l <= 15) (hF : ∀ j : Nat, 1 <= F j ↔ (j : Int) ∈ ls) : far.sF F c = ls.any fun l => !decide (l < c) := by
 unfold far.sF
 rw [Bool.eq_iff_iff, List.any_eq_true, List.any_eq_true]
 constructor
 ·rintro ⟨j, hj, e⟩
  simp only [Bool.and_eq_true, decide_eq_true_eq, Bool.not_eq_true', decide_eq_false_iff_not] at e
  exact ⟨j, (hF j).1 (by omega), by rw [Bool.not_eq_true', decide_eq_false_iff_not]; omega⟩
 ·rintro ⟨l, hl, e⟩
  rw [Bool.not_eq_true', decide_eq_false_iff_not] at e
  have h := hr l hl
  refine ⟨l.toNat, List.mem_range.2 (by omega), ?_⟩
  have hp := (hF l.toNat).2 (by rw [show ((l.toNat : Nat) : Int) = l by omega]; exact hl)
  simp only [Bool.and_eq_true, decide_eq_true_eq, Bool.not_eq_true', decide_eq_false_iff_not]
  omega
theorem Td {α : Type} {f : α -> Bool} : ∀ l : List α, (0 <= acc (fun x => b2i (f x)) l) /\ (1 <= acc (fun x => b2i (f x)) l ↔ ∃ x ∈ l, f x = true)
 | [] => ⟨Int.le_refl _, by simp [acc]⟩
 | x :: l => by
  obtain ⟨h1, h2⟩ := Td (f := f) l
  show 0 <= b2i (f x) + acc _ l /\ (1 <= b2i (f x) + acc _ l ↔ _)
  cases hx : f x with
  | true =>
   have : b2i true = 1 := rfl
   exact ⟨by omega, ⟨fun _ => ⟨x, by simp, hx⟩, fun _ => by omega⟩⟩
  | false =>
   have : b2i false = 0 := rfl
   refine ⟨by omega, ⟨fun h => ?_, fun ⟨y, hy, e⟩ => ?_⟩⟩
   ·obtain ⟨y, hy, e⟩ := h2.1 (by omega)
    exact ⟨y, by simp [hy], e⟩
   ·rcases List.mem_cons.1 hy with rfl | hy
    ·rw [hx] at e; cases e
    ·have := h2.2 ⟨y, hy, e⟩; omega
theorem ahW (ls : List Int) (j : Nat) : 1 <= cnt ls j ↔ (j : Int) ∈ ls := by
 unfold cnt
 rw [(Td (f := fun l : Int => decide (l = (j : Int))) ls).2]
 constructor
 ·rintro ⟨x, hx, e⟩
  rw [decide_eq_true_iff] at e
  rwa [<- e]
 ·exact fun h => ⟨_, h, decide_eq_true rfl⟩
theorem all_congr {α : Type} {l : List α} {p q : α -> Bool} (h : ∀ x ∈ l, p x = q x) : l.all p = l.all q := by
 induction l with
 | nil => rfl
 | cons x l ih => rw [List.all_cons, List.all_cons, h x (by simp), ih fun y hy => h y (by simp [hy])]
theorem alU : (aI (noT [(dJ, true)]) .leaf (((Lf.of (ivU 26)).pin 0 1).hi 4 0) && aI (noT [(dJ, true)]) .leaf (((Lf.of (ivU 26)).pin 0 1).lo 4 6)) = true := by kernel_rfl
theorem ah4 {st : List Value} (h : ak Kd.ok Dj st) (hv : dJ.val st = true) (h1 : ah st 0 = 1) : 1 <= ah st 4 /\ ah st 4 <= 5 := by
 have h0 : (Lf.of (ivU 26)).Holds (ah st) (fun _ => []) := KT h rfl
 have r := alU
 rw [Bool.and_eq_true] at r
 have hg : ∀ p ∈ [(dJ, true)], p.1.num (ah st) = p.2 := fun p hp => by
  obtain rfl := List.mem_singleton.1 hp
  exact (E.jh _ _).symm.trans hv
 constructor
 ·apply Decidable.byContradiction; intro hc; exact cannot r.1 ((h0.pin (i := 0) (c := 1) h1).hi (i := 4) (c := 0) (by omega)) hg
 ·apply Decidable.byContradiction; intro hc; exact cannot r.2 ((h0.pin (i := 0) (c := 1) h1).lo (i := 4) (c := 6) (by omega)) hg
theorem agw (nL : Int) (st : List Value) : nR nL st = ((!decide (ah st 0 = 3) || decide (ah st 25 < nL)) && ((!(decide (ah st 0 = 2) || decide (ah st 0 = 4)) || (decide (ah st 20 = 1) || decide (ah st 22 < nL))) &&
  (!decide (ah st 0 = 1) || (decide (ah st 1 < nL) && ((!(decide (ah st 4 = 4) || decide (ah st 4 = 5)) || decide (ah st 17 < nL)) && ((!!(decide (ah st 4 = 4) || decide (ah st 4 = 5)) || (decide (ah st 7 = 1) || decide (ah st 9 < nL))) && (!(decide (ah st 4 = 2) || decide (ah st 4 = 3)) || (decide (ah st 12 = 1) || decide (ah st 14 < nL))))))))) := by
 have s : ∀ i, i < 26 -> stV nL st i = ah st i := fun i hi => by unfold stV; rw [if_pos hi]
 have s26 : stV nL st 26 = b2i (decide (ah st 25 < nL)) := rfl
 have s27 : stV nL st 27 = b2i (decide (ah st 1 < nL)) := rfl
 have s28 : stV nL st 28 = b2i (decide (ah st 9 < nL)) := rfl
 have s29 : stV nL st 29 = b2i (decide (ah st 14 < nL)) := rfl
 have s30 : stV nL st 30 = b2i (decide (ah st 17 < nL)) := rfl
 have s31 : stV nL st 31 = b2i (decide (ah st 22 < nL)) := rfl
 unfold nR
 simp only [Ws, ands, imp, isE, E.num, List.all_cons, List.all_nil, Bool.and_true, s 0 (by decide), s 4 (by decide), s 7 (by decide), s 12 (by decide), s 20 (by decide), s26, s27, s28, s29, s30, s31, made.fK]
theorem abe (st : List Value) : twos.jO st = twos.je [decide (ah st 0 = 3), (decide (ah st 0 = 2) || decide (ah st 0 = 4)) && !decide (ah st 20 = 1), decide (ah st 0 = 1), decide (ah st 0 = 1) && (decide (ah st 4 = 4) || decide (ah st 4 = 5)),
  decide (ah st 0 = 1) && (!(decide (ah st 4 = 4) || decide (ah st 4 = 5)) && !decide (ah st 7 = 1)), decide (ah st 0 = 1) && (!(decide (ah st 4 = 1) || (decide (ah st 4 = 4) || decide (ah st 4 = 5))) && !decide (ah st 12 = 1))] := by
 unfold twos.jO
 simp only [twos.wY, List.map_cons, List.map_nil, ands, isE, E.num, List.all_cons, List.all_nil, Bool.and_true]
theorem alc {st : List Value} (h : ak Kd.ok Dj st) (hv : dJ.val st = true) (nL : Nat) : (!far.sF (twos.qX st) nL) = nR nL st := by
 have rg := fun c hc => Ee h hv (c := c) hc
 have hl : ∀ l ∈ (twos.fQ (twos.jO st)).map (ah st), 0 <= l /\ l <= 15 := fun l hl => by
  obtain ⟨c, hc, rfl⟩ := List.mem_map.1 hl
  refine rg c ?_
  unfold twos.fQ at hc
  split at hc <;> simp only [List.mem_cons, List.not_mem_nil, or_false] at hc |- <;> omega
 rw [Nr (F := twos.qX st) hl (fun j => ahW _ j), agw, abe]
 have kd := ah4 h hv
 by_cases h1 : ah st 0 = 1
 ·obtain ⟨k1, k2⟩ := kd h1
  have h4 : ah st 4 = 1 \/ ah st 4 = 2 \/ ah st 4 = 3 \/ ah st 4 = 4 \/ ah st 4 = 5 := by omega
  rcases h4 with h4 | h4 | h4 | h4 | h4 <;> by_cases h7 : ah st 7 = 1 <;> by_cases h12 : ah st 12 = 1 <;> simp [h1, h4, h7, h12, twos.je, twos.fQ]
 ·by_cases h3 : ah st 0 = 3
  ·simp [h3, twos.je, twos.fQ]
  ·by_cases h2 : ah st 0 = 2
   ·by_cases h20 : ah st 20 = 1 <;> simp [h2, h20, twos.je, twos.fQ]
   ·by_cases h4 : ah st 0 = 4
    ·by_cases h20 : ah st 20 = 1 <;> simp [h4, h20, twos.je, twos.fQ]
    ·simp [h1, h2, h3, h4, twos.je, twos.fQ]
theorem alu {w : World} {v : Value} {D : FnD} (h : aT w v D) {i : Nat} (hi : i < D.bs.length) (hok : zi (D.blk i) = true) : (!far.sF (occJump.nN (D.blk i)) D.ls.length && block.acG D.bs.length (D.blk i)) = made.X4 D.ls.length D.bs.length (D.blk i) := by
 have hj := uq h hi
 obtain ⟨p3, q0, jo⟩ := DX hj hok
 obtain ⟨_, _, m3⟩ := Rz hj hok
 have ops : ∀ op ∈ (D.blk i).ops, 0 <= ah op 2 /\ ah op 2 <= 15 := fun op hop => by
  obtain ⟨k, hk⟩ := List.getElem?_of_mem hop
  have hl := (List.getElem?_eq_some_iff.1 hk).1
  obtain ⟨o1, o2⟩ := KI h hi hl
  obtain rfl : op = D.opd i k := Option.some.inj (hk.symm.trans o2)
  refine Jm o1 ?_
  rcases jo with e | e
  ·exact List.all_eq_true.1 e _ hop
  ·omega
 generalize D.blk i = b at *
 unfold made.X4 block.acG
 by_cases h2 : ah b.pre 0 = 2
 ·by_cases h1 : ah b.pre 1 = 1
  ·have e : far.sF (occJump.nN b) D.ls.length = false := by
    rw [Nr (ls := []) (fun l hl => by cases hl) (fun j => by unfold occJump.nN; rw [if_pos h2, if_pos h1]; simp)]
    rfl
   rw [e]
   simp [h2, h1]
  ·have e : far.sF (occJump.nN b) D.ls.length = !decide (ah b.pre 3 < D.ls.length) := by
    rw [Nr (ls := [ah b.pre 3]) (fun l hl => by obtain rfl := List.mem_singleton.1 hl; exact p3) (fun j => by
     unfold occJump.nN
     rw [if_pos h2, if_neg h1, List.mem_singleton]
     show 1 <= (0 : Int) + b2i (decide (ah b.pre 3 = (j : Int))) ↔ _
     by_cases e : ah b.pre 3 = (j : Int)
     ·rw [decide_eq_true e]; exact ⟨fun _ => e.symm, fun _ => by decide⟩
     ·rw [decide_eq_false e]; exact ⟨fun k => absurd k (by decide), fun k => absurd k.symm e⟩)]
    simp
   rw [e]
   simp [h2, h1]
 ·by_cases h4 : ah b.pre 0 = 4
  ·have e : far.sF (occJump.nN b) D.ls.length = (!decide (ah b.post 0 < D.ls.length) || b.ops.any fun op => !decide (ah op 0 = 1) && !decide (ah op 2 < D.ls.length)) := by
    rw [Nr (ls := ah b.post 0 :: (b.ops.filter fun op => !decide (ah op 0 = 1)).map fun op => ah op 2) (fun l hl => by
      rcases List.mem_cons.1 hl with rfl | hl
      ·exact q0
      ·obtain ⟨op, hop, rfl⟩ := List.mem_map.1 hl
       exact ops op (List.mem_filter.1 hop).1) (fun j => by
     unfold occJump.nN
     rw [if_neg h2, if_pos h4]
     obtain ⟨a1, a2⟩ := Td (f := fun op => !decide (ah op 0 = 1) && decide (ah op 2 = (j : Int))) b.ops
     show 1 <= acc (fun op => b2i (!decide (ah op 0 = 1) && decide (ah op 2 = (j : Int)))) b.ops + b2i (decide (ah b.post 0 = (j : Int))) ↔ _
     by_cases e : ah b.post 0 = (j : Int)
     ·rw [decide_eq_true e]
      have : b2i true = 1 := rfl
      exact ⟨fun _ => by rw [e]; simp, fun _ => by omega⟩
     ·rw [decide_eq_false e]
      have : b2i false = 0 := rfl
      rw [show acc (fun op => b2i (!decide (ah op 0 = 1) && decide (ah op 2 = (j : Int)))) b.ops + b2i false = acc (fun op => b2i (!decide (ah op 0 = 1) && decide (ah op 2 = (j : Int)))) b.ops by omega, a2]
      constructor
      ·rintro ⟨op, hop, e⟩
       rw [Bool.and_eq_true, decide_eq_true_iff] at e
       exact List.mem_cons_of_mem _ (List.mem_map.2 ⟨op, List.mem_filter.2 ⟨hop, e.1⟩, e.2⟩)
      ·intro hm
       rcases List.mem_cons.1 hm with hm | hm
       ·exact absurd hm.symm e
       ·obtain ⟨op, hop, e⟩ := List.mem_map.1 hm
        obtain ⟨k1, k2⟩ := List.mem_filter.1 hop
        exact ⟨op, k1, by rw [Bool.and_eq_true, decide_eq_true_iff]; exact ⟨k2, e⟩⟩)]
    rw [List.any_cons, List.any_map, List.any_filter]
    rfl
   rw [e]
   have eo : (b.ops.all (rP D.ls.length)) = !(b.ops.any fun op => !decide (ah op 0 = 1) && !decide (ah op 2 < D.ls.length)) := by
    rw [List.not_any_eq_all_not]
    refine all_congr fun op _ => ?_
    unfold rP
    cases decide (ah op 0 = 1) <;> cases decide (ah op 2 < D.ls.length) <;> rfl
   rw [eo]
   simp [h4]
  ·have e : far.sF (occJump.nN b) D.ls.length = false := by
    rw [Nr (ls := []) (fun l hl => by cases hl) (fun j => by unfold occJump.nN occJump.MJ; rw [if_neg h2, if_neg h4, m3 h4]; simp [acc])]
    rfl
   rw [e]
   simp [h2, h4]
theorem acJ {w : World} {v : Value} {D : FnD} (h : aT w v D) {i : Nat} (hi : i < D.bs.length) : block.okB D (D.blk i) = (made.okB (D.blk i) && made.WI D.ls.length D.bs.length (D.blk i)) := by
 have e1 : (D.blk i).st.all (block.okS D) = ((D.blk i).st.all (fun st => dJ.val st) && (D.blk i).st.all (nR D.ls.length)) := by
  rw [Bool.eq_iff_iff, Bool.and_eq_true, List.all_eq_true, List.all_eq_true, List.all_eq_true]
  have key : ∀ st ∈ (D.blk i).st, dJ.val st = true -> (!far.sF (twos.qX st) D.ls.length) = nR D.ls.length st := fun st hst hv => by
   obtain ⟨k, hk⟩ := List.getElem?_of_mem hst
   have hl := (List.getElem?_eq_some_iff.1 hk).1
   obtain ⟨o1, o2⟩ := BM h hi hl
   obtain rfl : st = D.stm i k := Option.some.inj (hk.symm.trans o2)
   exact alc o1 hv _
  constructor
  ·intro ha
   have ha' : ∀ st ∈ (D.blk i).st, dJ.val st = true /\ (!far.sF (twos.qX st) D.ls.length) = true := fun st hst => by
    have := ha st hst
    unfold block.okS at this
    rwa [Bool.and_eq_true] at this
   exact ⟨fun st hst => (ha' st hst).1, fun st hst => (key st hst (ha' st hst).1) ▸ (ha' st hst).2⟩
  ·rintro ⟨a, b⟩ st hst
   unfold block.okS
   rw [key st hst (a st hst), a st hst, b st hst]
   rfl
 unfold block.okB made.okB made.WI
 rw [e1]
 cases hv : zi (D.blk i) with
 | false => rw [Bool.false_and, Bool.and_false, Bool.and_false, Bool.false_and]
 | true =>
  rw [Bool.true_and, Bool.and_true, alu h hi hv, Bool.and_assoc]
theorem afD {w : World} {v : Value} {D : FnD} (h : aT w v D) (hm : many.iO D = false) : madeR.uF D = made.l9 D := by
 have e : D.bs.all (block.okB D) = (D.bs.all made.okB && D.bs.all (made.WI D.ls.length D.bs.length)) := by
  have key : ∀ b ∈ D.bs, block.okB D b = (made.okB b && made.WI D.ls.length D.bs.length b) := fun b hb => by
   obtain ⟨i, hi⟩ := List.getElem?_of_mem hb
   have hl := (List.getElem?_eq_some_iff.1 hi).1
   have : D.blk i = b := by unfold FnD.blk; rw [List.getD_eq_getElem?_getD, hi]; rfl
   rw [<- this]
   exact acJ h hl
  rw [all_congr key, Bool.eq_iff_iff, Bool.and_eq_true, List.all_eq_true, List.all_eq_true, List.all_eq_true]
  simp only [Bool.and_eq_true]
  exact ⟨fun k => ⟨fun b hb => (k b hb).1, fun b hb => (k b hb).2⟩, fun k b hb => ⟨k.1 b hb, k.2 b hb⟩⟩
 unfold madeR.uF made.l9 head.mG madeR.guard head.guard
 rw [hm, e]
 cases decide (0 < D.ls.length) <;> cases decide (0 < D.bs.length) <;> cases decide (0 <= D.p) <;> cases decide (D.p <= 8) <;> cases decide (D.p < D.ls.length) <;> cases D.ls.all ou <;> cases head.Uk D <;> rfl
theorem ajz {w : World} {v : Value} {D : FnD} (h : aT w v D) : ai9 D = check.oV D := by
 unfold ai9 check.oV
 cases hm : many.iO D with
 | true => rfl
 | false =>
  rw [afD h hm, show Qb D = twos.qW D from all_congr fun t _ => ahl D t]
theorem Yk {w : World} {v : Value} {D : FnD} (h : aT w v D) : bF f [v] w (.int .i64 (check.oV D)) := ajz h ▸ agh h
end Go.Proofs.YtglmonlofejcgaaGreatDoor.refC
namespace Go.Proofs.YtglmonlofejcgaaGreatDoor.great
open Go.RowKit Am
noncomputable def f : FuncId := 7
noncomputable def F : Func := Tryz.f7
noncomputable def code : Code := dS F 0
noncomputable def keep : List (Nat × S) := [(1, .ptr 0 0), (2, .bool false)]
def hp : Hp := [(0, ⟨bQ, true⟩)]
noncomputable def hd : St := ⟨iM F.ntmps (keep ++ [(3, .xi .i64 4)]), ⟨hp, 1⟩⟩
noncomputable def sN : St := ⟨iM F.ntmps keep, ⟨hp, 1⟩⟩
noncomputable def sR : St := ⟨iM F.ntmps [(2, .bool true)], ⟨[], 1⟩⟩
def ajy : E := .or (.not (.lt 7 31)) (.not (.lt 17 13))
def bigT : HT := .by 7 31 (.by 17 13 .leaf .leaf) .leaf
noncomputable def L1 : Lf := (Lf.of (fE ++ [])).pin 6 1
noncomputable def L0 : Lf := (Lf.of (fE ++ [])).pin 6 0
noncomputable def turn (tb : Tabs) (giv : List (E × Bool)) (us : List Upd) (x : X) (s1 : St) : Lf -> Bool := dQ (dH gZ tb aX) f eu giv us ⟨4, 0, 3⟩ code hd x s1
theorem step : aI (turn (bW.app iG) [(ajy, false)] [isU (.xi .i64 4) (.xi .i64 5)] .normal hd) bigT L1 = true := by kernel_rfl
theorem bad : aI (turn (bW.app iG) [(ajy, true)] [] .ret sR) bigT L1 = true := by kernel_rfl
theorem stop : aI (turn bW [] [] (.exit 0) sN) .leaf L0 = true := by kernel_rfl
noncomputable def row (x : X) (s1 : St) (K : Know) : Loops := iP 5 ⟨4, 0, 3⟩ (@thU K [isU (.xi .i64 4) (.int .i64 0)]) hd x s1
def ahm : E := .or (.not (.lt 2 31)) (.not (.lt 3 31))
noncomputable def run (rows : Know -> List (FuncId × Loops)) (giv : List (E × Bool)) (b : Bool) : Lf -> Bool := kG (dH gZ bW fun K => dP (rows K)) f eu giv [] (fun _ => V.s (.bool b)) [.g bQ]
noncomputable def LG : Lf := Lf.of (fE ++ [])
def ajO : HT := .by 2 31 (.by 3 31 .leaf .leaf) .leaf
theorem afw : aI (run (fun _ => []) [(ahm, true)] true) ajO LG = true := by kernel_rfl
theorem ai8 : aI (run (fun K => [(f, row .ret sR K)]) [(ahm, false)] true) ajO LG = true := by kernel_rfl
theorem pG : aI (run (fun K => [(f, row (.exit 0) sN K)]) [(ahm, false)] false) ajO LG = true := by kernel_rfl
theorem tag : fH (F.body.getD .skip) 0 5 = true := by kernel_rfl
def FQ (b : bH) : Bool := !decide ((b.st.length : Int) < 31) || !decide ((b.ops.length : Int) < 13)
def adP (D : FnD) : Bool := !decide ((D.ls.length : Int) < 31) || !decide ((D.bs.length : Int) < 31)
def wE (D : FnD) : Bool := adP D || D.bs.any FQ
section
variable {w : World} {v : Value} {D : FnD} (h : aT w v D)
include h
theorem blks (hB : D.bs.length <= 1000) {b : Bool} (hb : (D.bs.all fun x => !FQ x) = b) (K : Know) (ok : aG K (fnB w D (atB 0) []).rho (fnB w D (atB 0) []).sig) :
  @aO ((fnB w D (atB 0) []).aH K ok) Tryz.prog (row (if b then .exit 0 else .ret) (if b then sN else sR) K) code := by
 have us : ∀ u ∈ [isU (.xi .i64 4) (.int .i64 0)], ig (fnB w D (atB 0) []) (fnB w D (atB 0) []) u := fun u hu => by
  obtain rfl := List.mem_singleton.1 hu
  exact dN fun r v hv => hv
 have hin : ∀ k, k < D.bs.length -> L1.Holds (aF (aJ D (atB k) [])) (fun _ => []) := fun k hk => (twos.eH h (atB k) (gG (by omega)) []).pin (i := 6) (c := 1) (show b2i (decide ((k : Int) < D.bs.length)) = 1 from (bY _).2 (by omega))
 have rg : ∀ k, k < D.bs.length -> jG Tryz.prog (dH gZ (bW.app iG) aX) (fnB w D (atB k) []) := fun k hk => bg (@aV (fnB w D (atB k) []) bW iG (aU h _ _) (dL h (q := atB k) hk _))
 have gv : ∀ k b, FQ (D.blk k) = b -> ∀ p ∈ [(ajy, b)], p.1.num (aF (aJ D (atB k) [])) = p.2 := fun k b e p hp => by
  obtain rfl := List.mem_singleton.1 hp
  exact e
 have hstep : ∀ k, k < D.bs.length -> (!FQ (D.blk k)) = true -> gJ Tryz.prog (fnB w D (atB k) []) (fnB w D (atB (k + 1)) []) code hd .normal hd := fun k hk e => by
  refine bG step (rg k hk) (bM _ _ _ _) (hin k hk) (aQ D _ _) (gv k false (by rwa [Bool.not_eq_true'] at e)) (fun u hu => ?_) rfl (bf f code)
  obtain rfl := List.mem_singleton.1 hu
  exact dN fun r v hv => hv
 have hend : gJ Tryz.prog (fnB w D (atB D.bs.length) []) (fnB w D (atB 0) []) code hd (.exit 0) sN :=
  bG stop (bg (aU h _ _)) (bM _ _ _ _) (L := L0) ((twos.eH h (atB D.bs.length) (gG (by omega)) []).pin (i := 6) (c := 0) (show b2i (decide ((D.bs.length : Int) < D.bs.length)) = 0 by rw [decide_eq_false (by omega)]; rfl)) (aQ D _ _) (fun p hp => by cases hp) (fun u hu => by cases hu) rfl (bf f code)
 cases b with
 | true =>
  have hall := (iC D.bs b0 fun x => !FQ x).2 hb
  exact @cZ _ _ (fun k => fnB w D (atB k) []) code _ _ hd _ _ (fun e => by cases e) D.bs.length (bM _ _ [] []) us (fun k hk => hstep k hk (hall k hk)) hend 5 K ok
 | false =>
  rcases jl (fun i => !FQ (D.blk i)) D.bs.length with hall | ⟨N, hN, h0, hn⟩
  ·rw [(iC D.bs b0 fun x => !FQ x).1 hall] at hb
   cases hb
  ·exact @cZ _ _ (fun k => fnB w D (atB k) []) code _ _ hd _ _ (fun e => by cases e) N (bM _ _ [] []) us (fun k hk => hstep k (by omega) (h0 k hk)) (bG bad (rg N hN) (bM _ _ _ _) (hin N hN) (aQ D _ _) (gv N true (by rwa [Bool.not_eq_false'] at hn)) (fun u hu => by cases hu) rfl (bf f code)) 5 K ok
theorem a4r : bF f [v] w (.bool (wE D)) := by
 have hst := twos.eH h (atB 0) (gG (by omega)) []
 have gv : ∀ b, adP D = b -> ∀ p ∈ [(ahm, b)], p.1.num (aF (aJ D (atB 0) [])) = p.2 := fun b e p hp => by
  obtain rfl := List.mem_singleton.1 hp
  exact e
 unfold wE
 cases ht : adP D with
 | true => exact jw h afw (fG iR (aU h _ _) (rows_ok (T := fun _ => []) fun K ok p hp => by cases hp)) hst (aQ D _ _) (gv true ht) (fun r x hx => hx)
 | false =>
  have hB : D.bs.length <= 1000 := by
   unfold adP at ht
   simp only [Bool.or_eq_false_iff, Bool.not_eq_false', decide_eq_true_eq] at ht
   omega
  have rw' : ∀ b, (D.bs.all fun x => !FQ x) = b -> jG Tryz.prog (dH gZ bW fun K => dP [(f, row (if b then .exit 0 else .ret) (if b then sN else sR) K)]) (fnB w D (atB 0) []) := fun b e => fG iR (aU h _ _) (rows_ok (T := fun K => [(f, row (if b then .exit 0 else .ret) (if b then sN else sR) K)]) fun K ok p hp => by
   obtain rfl := List.mem_singleton.1 hp
   exact ⟨F, Tryz.func7, fun c hc => iF tag (blks h hB e K ok) hc⟩)
  have en : D.bs.any FQ = !(D.bs.all fun x => !FQ x) := by rw [List.any_eq_not_all_not]
  rw [Bool.false_or, en]
  cases e : (D.bs.all fun x => !FQ x) with
  | true => exact jw h pG (rw' true e) hst (aQ D _ _) (gv false ht) (fun r x hx => hx)
  | false => exact jw h ai8 (rw' false e) hst (aQ D _ _) (gv false ht) (fun r x hx => hx)
end
end Go.Proofs.YtglmonlofejcgaaGreatDoor.great
namespace Go.Proofs.YtglmonlofejcgaaGreatDoor.size
open Go.RowKit Am
theorem ajC {D : FnD} (h : check.oV D = 0) : many.iO D = false /\ made.l9 D = true /\ twos.qW D = true := by
 unfold check.oV at h
 cases h1 : many.iO D <;> cases h2 : made.l9 D <;> cases h3 : twos.qW D <;> simp [h1, h2, h3] at h |-
section
variable {w : World} {v : Value} {D : FnD} (h : aT w v D)
include h
end
end Go.Proofs.YtglmonlofejcgaaGreatDoor.size
namespace Go.Proofs.YtglmonlofejcgaaGreatDoor.callsF
open Go.RowKit Am
end Go.Proofs.YtglmonlofejcgaaGreatDoor.callsF
namespace Go.Proofs.YtglmonlofejcgaaGreatDoor.callsF
open Go.RowKit Am
section
variable {w : World} {v : Value} {D : FnD} (h : aT w v D)
include h
end
end Go.Proofs.YtglmonlofejcgaaGreatDoor.callsF
namespace Go.Proofs.YtglmonlofejcgaaGreatDoor.Am
open Go.RowKit
def XV : Value := .slice none 0 0
def bH.core (b : bH) : bH := ⟨XV, b.pre, XV, b.post, b.st, b.ops⟩
def FnD.core (D : FnD) : FnD := ⟨D.p, D.u, XV, XV, D.ls, D.bs.map bH.core, ⟨XV, []⟩⟩
section
variable (D : FnD)
theorem a5v : many.iO D.core = many.iO D := by
 unfold many.iO FnD.core
 rw [List.length_map, List.all_map]
 rfl
theorem a4P : made.l9 D.core = made.l9 D := by
 unfold made.l9
 have h1 : head.mG D.core = head.mG D := rfl
 have h2 : D.core.bs.length = D.bs.length := by unfold FnD.core; rw [List.length_map]
 have h3 : D.core.ls = D.ls := rfl
 have h4 : ∀ p : bH -> Bool, D.core.bs.all p = D.bs.all fun b => p b.core := fun p => by unfold FnD.core; rw [List.all_map]; rfl
 rw [h1, h2, h3, h4, h4]
 rfl
theorem afo : twos.Ct.fn D.core = twos.Ct.fn D := by
 unfold twos.Ct.fn FnD.core
 rw [List.foldl_map]
 rfl
theorem a4z : twos.qW D.core = twos.qW D := by
 unfold twos.qW
 congr 1
 funext t
 unfold twos.Dy
 rw [afo]
 rfl
theorem Uc : check.oV D.core = check.oV D := by
 unfold check.oV
 rw [a5v, a4P, a4z]
end
section
variable {α : Type} {p : α -> Bool} {f : α -> α} {l : List α} {b : Nat}
end
def bH.push (x : List Value) (b : bH) : bH := { b with st := b.st ++ [x] }
section
variable {C : FnD} {b : Nat} {f : bH -> bH}
end
section
variable {C : FnD} {b : Nat} (n : Int)
end
end Go.Proofs.YtglmonlofejcgaaGreatDoor.Am
