/- The text of a function, line by line, in plain words. -/
import Derived.Test.YtglmonlofejcgaaGreatDoorJump6
import Derived.Test.YtglmonlofejcgaaGreatDoorUses45
import Derived.Test.YtglmonlofejcgaaGreatDoorFn26
import Derived.Test.YtglmonlofejcgaaGreatDoorRegC
import Derived.Deep.DeepCutAuto
set_option maxHeartbeats 2000000
set_option maxRecDepth 100000
noncomputable section
open List renaming length_append → apu, length_cons → apw, mem_singleton → apx, length_nil → apy, flatten_append → apz, mem_cons → apA, take_add_one → apB, all_eq_true → apC, mem_append → apD, mem_map → apG, range_succ → apL, length_map → apM
open Array renaming getElem?_eq_some_iff → apv
open Option renaming map_eq_some_iff → apE
open Bool renaming and_eq_true_iff → apF, not_eq_false' → apH, not_eq_true' → apJ, and_eq_true → apK
open Nat renaming le_of_lt → apI
set_option linter.unusedVariables false
set_option linter.unusedSectionVars false
namespace Go.Proofs.YtglmonlofejcgaaGreatDoor
namespace txt
open Go.RowKit Am
def QI (k : Int) : List UInt8 := if k = 1 then [105, 110, 116] else [112, 97, 105, 114]
def markT (k : Int) : List UInt8 := if k = 3 then [38] else if k = 4 then [38, 109, 117, 116, 32] else [42]
def pI (t : List Value) : List UInt8 := if ah t 1 = 0 then QI (ah t 0) else markT (ah t 0) ++ QI (ah t 1)
def Jj (u : Bool) : List UInt8 := if u then [32, 117, 110, 115, 97, 102, 101] else []
def lN (n p : Int) (u : Bool) : List UInt8 := [102, 110, 32] ++ (bM n ++ ([32, 40] ++ (bM p ++ ([41] ++ Jj u))))
def GU (i : Nat) (t : List Value) : List UInt8 := 120 :: (bM (i : Nat) ++ ([58, 32] ++ pI t))
def bhT (i : Nat) : List UInt8 := 98 :: (bM (i : Nat) ++ [58])
def stL (el : List Value) : List UInt8 := [32, 32] ++ stT (uz el)
def jmL (b : bK) : List UInt8 := [32, 32] ++ kD b.pre b.ops b.post
def noB : bK := ⟨.bool false, [], .bool false, [], [], []⟩
def lC (D : FnD) (i : Nat) : List (List UInt8) := (List.range i).map fun k => GU k (D.ls.getD k [])
def CG (i : Nat) (b : bK) : List (List UInt8) := bhT i :: (b.st.map stL ++ [jmL b])
def lW (D : FnD) (i : Nat) : List (List UInt8) := (List.range i).flatMap fun k => CG k (D.bs.getD k noB)
def lg (D : FnD) (n : Int) : List (List UInt8) := lN n D.p D.u :: (lC D D.ls.length ++ lW D D.bs.length)
def nl (ls : List (List UInt8)) : List UInt8 := ls.flatMap fun l => l ++ [10]
def textF (D : FnD) (n : Int) : List UInt8 := nl (lg D n)
theorem Gg (a b : List (List UInt8)) : nl (a ++ b) = nl a ++ nl b := by simp [nl]
theorem ET (l : List UInt8) (b : List (List UInt8)) : nl (l :: b) = l ++ (10 :: nl b) := by simp [nl]
theorem a04 (l : List UInt8) : nl [l] = l ++ [10] := by simp [nl]
theorem qh (a : List (List UInt8)) (l : List UInt8) : nl (a ++ [l]) = nl a ++ (l ++ [10]) := by rw [Gg, a04]
theorem a7G (D : FnD) (i : Nat) : lC D (i + 1) = lC D i ++ [GU i (D.ls.getD i [])] := by simp [lC, apL]
theorem Sl (D : FnD) (i : Nat) : lW D (i + 1) = lW D i ++ CG i (D.bs.getD i noB) := by simp [lW, apL]
theorem qH (D : FnD) (i : Nat) : (lC D i).length = i := by simp [lC]
theorem Y3 (t : List Value) : (pI t).length <= 9 := by
 have hb : ∀ k, (QI k).length <= 4 := fun k => by unfold QI; split <;> simp
 have hm : ∀ k, (markT k).length <= 5 := fun k => by
  unfold markT
  split
  ·simp
  ·split <;> simp
 unfold pI
 split
 ·have := hb (ah t 0); omega
 ·have := hb (ah t 1); have := hm (ah t 0); rw [apu]; omega
theorem abG (u : Bool) : (Jj u).length <= 7 := by cases u <;> simp [Jj]
theorem Tq (n p : Int) (u : Bool) : (lN n p u).length <= 1100 := by
 have h1 := dY n
 have h2 := dY p
 have h3 := abG u
 simp only [lN, apu, apw, apy]
 omega
theorem aea (i : Nat) (t : List Value) : (GU i t).length <= 1100 := by
 have h1 := dY (i : Nat)
 have h2 := Y3 t
 simp only [GU, apu, apw, apy]
 omega
theorem a2I (i : Nat) : (bhT i).length <= 1100 := by
 have h1 := dY (i : Nat)
 simp only [bhT, apu, apw, apy]
 omega
theorem a1x (el : List Value) : (stL el).length <= 1100 := by
 have h1 := a3a (uz el)
 simp only [stL, apu, apw, apy]
 omega
theorem UF : ∀ {ls : List (List UInt8)}, (∀ l ∈ ls, l.length <= 1100) -> (nl ls).length <= 1101 * ls.length
 | [], _ => by simp [nl]
 | l :: ls, h => by
  have h1 := h l List.mem_cons_self
  have h2 := UF fun x hx => h x (List.mem_cons_of_mem _ hx)
  rw [ET]
  simp only [apu, apw]
  omega
def wJ (D : FnD) (n : Int) (i : Nat) : List (List UInt8) := lN n D.p D.u :: lC D i
def CZ (D : FnD) (n : Int) (i : Nat) : List (List UInt8) := lN n D.p D.u :: (lC D D.ls.length ++ lW D i)
def wI (D : FnD) (n : Int) (i k : Nat) : List (List UInt8) := CZ D n i ++ (bhT i :: ((D.bs.getD i noB).st.take k).map stL)
theorem Gt (D : FnD) (n : Int) : wJ D n 0 = [lN n D.p D.u] := rfl
theorem Gv (D : FnD) (n : Int) (i : Nat) : wJ D n (i + 1) = wJ D n i ++ [GU i (D.ls.getD i [])] := by unfold wJ; rw [a7G]; rfl
theorem Wj (D : FnD) (n : Int) : wJ D n D.ls.length = CZ D n 0 := by simp [wJ, CZ, lW]
theorem Hr (D : FnD) (n : Int) (i : Nat) : wI D n i 0 = CZ D n i ++ [bhT i] := by simp [wI]
theorem QW {D : FnD} {n : Int} {i k : Nat} {el : List Value} (h : (D.bs.getD i noB).st[k]? = some el) : wI D n i (k + 1) = wI D n i k ++ [stL el] := by
 unfold wI
 rw [apB, h]
 simp
theorem Wn (D : FnD) (n : Int) (i : Nat) : wI D n i (D.bs.getD i noB).st.length ++ [jmL (D.bs.getD i noB)] = CZ D n (i + 1) := by
 unfold wI CZ
 rw [Sl]
 simp [CG]
structure Lim (D : FnD) : Prop where
 l0 : 0 < D.ls.length
 b0 : 0 < D.bs.length
 l : D.ls.length <= 16
 b : D.bs.length <= 24
 s : ∀ b ∈ D.bs, b.st.length <= 24
 o : ∀ b ∈ D.bs, b.ops.length < 9
theorem getD_or {α : Type} (l : List α) (i : Nat) (d : α) : l.getD i d ∈ l \/ l.getD i d = d := by
 rw [List.getD_eq_getElem?_getD]
 cases h : l[i]? with
 | none => exact .inr rfl
 | some x => exact .inl (List.mem_of_getElem? h)
theorem a2G {D : FnD} (h : Lim D) (i : Nat) : (jmL (D.bs.getD i noB)).length <= 1100 := by
 have h1 : (D.bs.getD i noB).ops.length < 9 := by
  rcases getD_or D.bs i noB with k | k
  ·exact h.o _ k
  ·rw [k]; decide
 have := a7i (pre := (D.bs.getD i noB).pre) (post := (D.bs.getD i noB).post) h1
 simp only [jmL, apu, apw, apy]
 omega
theorem st_len {D : FnD} (h : Lim D) (i : Nat) : (D.bs.getD i noB).st.length <= 24 := by
 rcases getD_or D.bs i noB with k | k
 ·exact h.s _ k
 ·rw [k]; decide
theorem agp {D : FnD} (h : Lim D) (i : Nat) : (CG i (D.bs.getD i noB)).length <= 26 := by
 have := st_len h i
 simp only [CG, apu, apw, apy, apM]
 omega
theorem WR {D : FnD} (h : Lim D) : ∀ i, (lW D i).length <= 26 * i
 | 0 => by simp [lW]
 | i + 1 => by
  have := WR h i
  have := agp h i
  rw [Sl, apu]
  omega
theorem a1F (D : FnD) (i : Nat) : ∀ l ∈ lC D i, l.length <= 1100 := fun l hl => by
 obtain ⟨k, _, rfl⟩ := apG.1 hl
 exact aea _ _
theorem ahS {D : FnD} (h : Lim D) (i : Nat) : ∀ l ∈ lW D i, l.length <= 1100 := fun l hl => by
 obtain ⟨k, _, hl⟩ := List.mem_flatMap.1 hl
 rcases apA.1 hl with rfl | hl
 ·exact a2I _
 ·rcases apD.1 hl with hl | hl
  ·obtain ⟨s, _, rfl⟩ := apG.1 hl
   exact a1x _
  ·rw [apx.1 hl]; exact a2G h k
theorem Xq {D : FnD} (h : Lim D) (n : Int) {i : Nat} (hi : i <= D.ls.length) : (nl (wJ D n i)).length <= 1000000 := by
 have h1 : ∀ l ∈ wJ D n i, l.length <= 1100 := fun l hl => by
  rcases apA.1 hl with rfl | hl
  ·exact Tq _ _ _
  ·exact a1F _ _ l hl
 have h2 := UF h1
 have h3 : (wJ D n i).length = i + 1 := by simp [wJ, qH]
 have := h.l
 omega
theorem a2A {D : FnD} (h : Lim D) (n : Int) (i : Nat) : ∀ l ∈ CZ D n i, l.length <= 1100 := fun l hl => by
 rcases apA.1 hl with rfl | hl
 ·exact Tq _ _ _
 ·rcases apD.1 hl with hl | hl
  ·exact a1F _ _ l hl
  ·exact ahS h _ l hl
theorem FC {D : FnD} (h : Lim D) (n : Int) (i : Nat) : (CZ D n i).length <= 17 + 26 * i := by
 have := WR h i
 have := h.l
 simp only [CZ, apw, apu, qH]
 omega
theorem WI {D : FnD} (h : Lim D) (n : Int) {i : Nat} (hi : i <= D.bs.length) : (nl (CZ D n i)).length <= 1000000 := by
 have h2 := UF (a2A h n i)
 have h3 := FC h n i
 have := h.b
 omega
theorem Zi {D : FnD} (h : Lim D) (n : Int) {i k : Nat} (hi : i < D.bs.length) : (nl (wI D n i k)).length <= 1000000 := by
 have h1 : ∀ l ∈ wI D n i k, l.length <= 1100 := fun l hl => by
  rcases apD.1 hl with hl | hl
  ·exact a2A h n i l hl
  ·rcases apA.1 hl with rfl | hl
   ·exact a2I _
   ·obtain ⟨s, _, rfl⟩ := apG.1 hl
    exact a1x _
 have h2 := UF h1
 have h3 := FC h n i
 have h4 : (wI D n i k).length <= (CZ D n i).length + 25 := by
  have := st_len h i
  simp only [wI, apu, apw, apM, List.length_take]
  omega
 have := h.b
 omega
theorem kM {D : FnD} (h : Lim D) (n : Int) : (textF D n).length <= 1000000 := WI h n (Nat.le_refl _)
end txt
namespace great
open Go.RowKit Am
def f : FuncId := 7
def F : Func := Tryz.f7
def code : Code := dW F 0
def keep : List (Nat × S) := [(1, .ptr 0 0), (2, .bool false)]
def hp : Hp := [(0, ⟨bT, true⟩)]
def hd : St := ⟨iU F.ntmps (keep ++ [(3, .xi .i64 4)]), ⟨hp, 1⟩⟩
def sN : St := ⟨iU F.ntmps keep, ⟨hp, 1⟩⟩
def sR : St := ⟨iU F.ntmps [(2, .bool true)], ⟨[], 1⟩⟩
def amh : E := .or (.not (.lt 7 31)) (.not (.lt 17 13))
def bigT : HT := .by 7 31 (.by 17 13 .leaf .leaf) .leaf
def L1 : Lf := (Lf.of (fJ ++ [])).pin 6 1
def L0 : Lf := (Lf.of (fJ ++ [])).pin 6 0
def turn (tb : Tabs) (giv : List (E × Bool)) (us : List Upd) (x : X) (s1 : St) : Lf -> Bool := dU (dH iq tb aZ) f eU giv us ⟨4, 0, 3⟩ code hd x s1
theorem step : aJ (turn (bW.app iQ) [(amh, false)] [isU (.xi .i64 4) (.xi .i64 5)] .normal hd) bigT L1 = true := by kernel_rfl
theorem bad : aJ (turn (bW.app iQ) [(amh, true)] [] .ret sR) bigT L1 = true := by kernel_rfl
theorem stop : aJ (turn bW [] [] (.exit 0) sN) .leaf L0 = true := by kernel_rfl
def row (x : X) (s1 : St) (K : Know) : Loops := iW 5 ⟨4, 0, 3⟩ (@thU K [isU (.xi .i64 4) (.int .i64 0)]) hd x s1
def ajJ : E := .or (.not (.lt 2 31)) (.not (.lt 3 31))
def run (rows : Know -> List (FuncId × Loops)) (giv : List (E × Bool)) (b : Bool) : Lf -> Bool := kX (dH iq bW fun K => dR (rows K)) f eU giv [] (fun _ => V.s (.bool b)) [.g bT]
def LG : Lf := Lf.of (fJ ++ [])
def amR : HT := .by 2 31 (.by 3 31 .leaf .leaf) .leaf
theorem aiH : aJ (run (fun _ => []) [(ajJ, true)] true) amR LG = true := by kernel_rfl
theorem ahs : aJ (run (fun K => [(f, row .ret sR K)]) [(ajJ, false)] true) amR LG = true := by kernel_rfl
theorem qF : aJ (run (fun K => [(f, row (.exit 0) sN K)]) [(ajJ, false)] false) amR LG = true := by kernel_rfl
theorem tag : fM (F.body.getD .skip) 0 5 = true := by kernel_rfl
def NR (b : bK) : Bool := !decide ((b.st.length : Int) < 31) || !decide ((b.ops.length : Int) < 13)
def aks (D : FnD) : Bool := !decide ((D.ls.length : Int) < 31) || !decide ((D.bs.length : Int) < 31)
def CB (D : FnD) : Bool := aks D || D.bs.any NR
section
variable {w : World} {v : Value} {D : FnD} (h : aV w v D)
include h
theorem blks (hB : D.bs.length <= 1000) {b : Bool} (hb : (D.bs.all fun x => !NR x) = b) (K : Know) (ok : aG K (fnB w D (atB 0) []).rho (fnB w D (atB 0) []).sig) :
  @aO ((fnB w D (atB 0) []).aH K ok) Tryz.prog (row (if b then .exit 0 else .ret) (if b then sN else sR) K) code := by
 have us : ∀ u ∈ [isU (.xi .i64 4) (.int .i64 0)], iI (fnB w D (atB 0) []) (fnB w D (atB 0) []) u := fun u hu => by
  obtain rfl := apx.1 hu
  exact dP fun r v hv => hv
 have hin : ∀ k, k < D.bs.length -> L1.Holds (aF (aK D (atB k) [])) (fun _ => []) := fun k hk => (twos.fE h (atB k) (gX (by omega)) []).pin (i := 6) (c := 1) (show b2i (decide ((k : Int) < D.bs.length)) = 1 from (bY _).2 (by omega))
 have rg : ∀ k, k < D.bs.length -> jT Tryz.prog (dH iq (bW.app iQ) aZ) (fnB w D (atB k) []) := fun k hk => bD (@aW (fnB w D (atB k) []) bW iQ (aT h _ _) (dM h (q := atB k) hk _))
 have gv : ∀ k b, NR (D.blk k) = b -> ∀ p ∈ [(amh, b)], p.1.num (aF (aK D (atB k) [])) = p.2 := fun k b e p hp => by
  obtain rfl := apx.1 hp
  exact e
 have hstep : ∀ k, k < D.bs.length -> (!NR (D.blk k)) = true -> gZ Tryz.prog (fnB w D (atB k) []) (fnB w D (atB (k + 1)) []) code hd .normal hd := fun k hk e => by
  refine bF step (rg k hk) (bQ _ _ _ _) (hin k hk) (aQ D _ _) (gv k false (by rwa [apJ] at e)) (fun u hu => ?_) rfl (bC f code)
  obtain rfl := apx.1 hu
  exact dP fun r v hv => hv
 have hend : gZ Tryz.prog (fnB w D (atB D.bs.length) []) (fnB w D (atB 0) []) code hd (.exit 0) sN :=
  bF stop (bD (aT h _ _)) (bQ _ _ _ _) (L := L0) ((twos.fE h (atB D.bs.length) (gX (by omega)) []).pin (i := 6) (c := 0) (show b2i (decide ((D.bs.length : Int) < D.bs.length)) = 0 by rw [decide_eq_false (by omega)]; rfl)) (aQ D _ _) (fun p hp => by cases hp) (fun u hu => by cases hu) rfl (bC f code)
 cases b with
 | true =>
  have hall := (iJ D.bs b0 fun x => !NR x).2 hb
  exact @dh _ _ (fun k => fnB w D (atB k) []) code _ _ hd _ _ (fun e => by cases e) D.bs.length (bQ _ _ [] []) us (fun k hk => hstep k hk (hall k hk)) hend 5 K ok
 | false =>
  rcases jD (fun i => !NR (D.blk i)) D.bs.length with hall | ⟨N, hN, h0, hn⟩
  ·rw [(iJ D.bs b0 fun x => !NR x).1 hall] at hb
   cases hb
  ·exact @dh _ _ (fun k => fnB w D (atB k) []) code _ _ hd _ _ (fun e => by cases e) N (bQ _ _ [] []) us (fun k hk => hstep k (by omega) (h0 k hk)) (bF bad (rg N hN) (bQ _ _ _ _) (hin N hN) (aQ D _ _) (gv N true (by rwa [apH] at hn)) (fun u hu => by cases hu) rfl (bC f code)) 5 K ok
theorem RV : bG f [v] w (.bool (CB D)) := by
 have hst := twos.fE h (atB 0) (gX (by omega)) []
 have gv : ∀ b, aks D = b -> ∀ p ∈ [(ajJ, b)], p.1.num (aF (aK D (atB 0) [])) = p.2 := fun b e p hp => by
  obtain rfl := apx.1 hp
  exact e
 unfold CB
 cases ht : aks D with
 | true => exact jH h aiH (fK je (aT h _ _) (rows_ok (T := fun _ => []) fun K ok p hp => by cases hp)) hst (aQ D _ _) (gv true ht) (fun r x hx => hx)
 | false =>
  have hB : D.bs.length <= 1000 := by
   unfold aks at ht
   simp only [Bool.or_eq_false_iff, apH, decide_eq_true_eq] at ht
   omega
  have rw' : ∀ b, (D.bs.all fun x => !NR x) = b -> jT Tryz.prog (dH iq bW fun K => dR [(f, row (if b then .exit 0 else .ret) (if b then sN else sR) K)]) (fnB w D (atB 0) []) := fun b e => fK je (aT h _ _) (rows_ok (T := fun K => [(f, row (if b then .exit 0 else .ret) (if b then sN else sR) K)]) fun K ok p hp => by
   obtain rfl := apx.1 hp
   exact ⟨F, Tryz.func7, fun c hc => iM tag (blks h hB e K ok) hc⟩)
  have en : D.bs.any NR = !(D.bs.all fun x => !NR x) := by rw [List.any_eq_not_all_not]
  rw [Bool.false_or, en]
  cases e : (D.bs.all fun x => !NR x) with
  | true => exact jH h qF (rw' true e) hst (aQ D _ _) (gv false ht) (fun r x hx => hx)
  | false => exact jH h ahs (rw' false e) hst (aQ D _ _) (gv false ht) (fun r x hx => hx)
end
end great
namespace size
open Go.RowKit Am
theorem ZE {D : FnD} (h : check.jK D = 0) : many.iV D = false /\ made.kV D = true /\ twos.rQ D = true := by
 unfold check.jK at h
 cases h1 : many.iV D <;> cases h2 : made.kV D <;> cases h3 : twos.rQ D <;> simp [h1, h2, h3] at h |-
section
variable {w : World} {v : Value} {D : FnD} (h : aV w v D)
include h
end
end size
namespace bld
open Go.RowKit Am loan
def Ans (W : World) (v : Value) (e : Ending) (W' : World) : Prop := e = .returned v /\ Below W.heap.size W W'
theorem BuilderAtF.keep {T e : TypeId} {B b : Nat} {p : Value} {bs : List Value} {w w' : World} (h : Lib.BuilderAtF T e B b p bs w) (hk : ∀ k, k < w.heap.size -> w'.heap[k]? = w.heap[k]?) : Lib.BuilderAtF T e B b p bs w' := by
 obtain ⟨hB, v, hb, hown, hne⟩ := h
 refine ⟨hB, v, (hk _ (apv.1 hb).1).trans hb, ⟨hown.1, ?_⟩, hne⟩
 rcases hown.2 with hn | ⟨g, cap, cur, fz, hv, hbg, hg, rest⟩
 ·exact .inl hn
 ·exact .inr ⟨g, cap, cur, fz, hv, hbg, (hk _ (apv.1 hg).1).trans hg, rest⟩
def Bld (T e : TypeId) (b : Nat) (l : List UInt8) (w : World) : Prop := Lib.IsBuilderF T e b b (Lib.byteCells l) w
theorem Bld.keep {T e : TypeId} {b : Nat} {l : List UInt8} {w w' : World} (h : Bld T e b l w) (hk : ∀ k, k < w.heap.size -> w'.heap[k]? = w.heap[k]?) : Bld T e b l w' :=
 h.elim (fun x => .inl (BuilderAtF.keep x hk)) (fun x => .inr (BuilderAtF.keep x hk))
theorem Bld.below {T e : TypeId} {b : Nat} {l : List UInt8} {w w' : World} (h : Bld T e b l w) (hb : Below w.heap.size w w') : Bld T e b l w' := h.keep hb.block
theorem Bld.lt {T e : TypeId} {b : Nat} {l : List UInt8} {w : World} (h : Bld T e b l w) : b < w.heap.size := by
 rcases h with ⟨_, v, hb, _⟩ | ⟨_, v, hb, _⟩ <;> exact (apv.1 hb).1
structure Wrote (e : TypeId) (b : Nat) (w w' : World) : Prop where
 bel : Below b w w'
 oth : Lib.OthersKept e (some b) w w'
theorem Wrote.refl (e : TypeId) (b : Nat) (w : World) : Wrote e b w w := ⟨Below.refl _ _, .refl _ _ _⟩
theorem Wrote.trans {e : TypeId} {b : Nat} {x y z : World} (h : Wrote e b x y) (k : Wrote e b y z) : Wrote e b x z := ⟨h.bel.trans k.bel, h.oth.trans k.oth⟩
theorem Wrote.of_below {e : TypeId} {b : Nat} {w w' : World} (h : Below w.heap.size w w') (hb : b <= w.heap.size) : Wrote e b w w' :=
 ⟨h.mono hb, fun k o hk _ _ => (h.block k (apv.1 hk).1).trans hk⟩
theorem Wrote.block {e : TypeId} {b k : Nat} {w w' : World} {cs : Array Value} {t : TypeId} {fz : Nat × Nat} (h : Wrote e b w w') (hk : w.heap[k]? = some (.cells cs t fz)) (hb : k ≠ b) (ht : t ≠ e) : w'.heap[k]? = some (.cells cs t fz) :=
 h.oth k _ hk (fun x => hb (Option.some.inj x)) (fun c f x => ht (by injection x))
def oW (w : World) (b : Nat) (e : TypeId) (A : Option Addr) (l : List (List UInt8)) : Prop :=
 ∀ i s, l[i]? = some s -> ∃ g o cs t fz, A = some ⟨g, o, none⟩ /\ g ≠ b /\ w.heap[g]? = some (.cells cs t fz) /\ t ≠ e /\ cs[o + i]? = some (.string ⟨s.toArray⟩)
theorem oW.wrote {w w' : World} {b : Nat} {e : TypeId} {A : Option Addr} {l : List (List UInt8)} (h : oW w b e A l) (hw : Wrote e b w w') : oW w' b e A l := fun i s hi => by
 obtain ⟨g, o, cs, t, fz, hA, hg, hc, ht, hs⟩ := h i s hi
 exact ⟨g, o, cs, t, fz, hA, hg, hw.block hc hg ht, ht, hs⟩
theorem oW.cell {w : World} {b : Nat} {e : TypeId} {A : Option Addr} {l : List (List UInt8)} (h : oW w b e A l) {i : Nat} {s : List UInt8} (hi : l[i]? = some s) : ∃ g o, A = some ⟨g, o, none⟩ /\ w.cell? ⟨g, o + i, none⟩ = some (.string ⟨s.toArray⟩) := by
 obtain ⟨g, o, cs, t, fz, hA, hg, hc, ht, hs⟩ := h i s hi
 exact ⟨g, o, hA, by rw [cell_of_row w g (o + i) cs t fz hc]; exact hs⟩
theorem oW.new {w : World} {b g : Nat} {e t : TypeId} {l : List (List UInt8)} (hb : g ≠ b) (ht : t ≠ e) (h : w.heap[g]? = some (.cells (l.map fun s => Value.string ⟨s.toArray⟩).toArray t (0, 0))) : oW w b e (some ⟨g, 0, none⟩) l := fun i s hi =>
 ⟨g, 0, _, t, _, rfl, hb, h, ht, by simp [hi]⟩
theorem a8b (l : List UInt8) : Lib.strCells (⟨l.toArray⟩ : ByteArray) = Lib.byteCells l := by
 simp [Lib.strCells, Lib.byteCells]
end bld
namespace txt
open Go.RowKit Am
structure akN (D : FnD) : Prop where
 l0 : 0 < D.ls.length
 l1 : D.ls.length <= 16
 b0 : 0 < D.bs.length
 b1 : D.bs.length <= 24
 s : ∀ b ∈ D.bs, b.st.length <= 24
 p : 0 <= D.p /\ D.p <= 8
 ty : ∀ t ∈ D.ls, ng t = true
 st : ∀ b ∈ D.bs, ∀ x ∈ b.st, dn.val x = true
 jm : ∀ b ∈ D.bs, okJ b.pre b.ops b.post = true
theorem jW {D : FnD} (hc : check.jK D = 0) : akN D := by
 obtain ⟨h1, h2, _⟩ := size.ZE hc
 obtain ⟨m1, m2, m3⟩ := check.xU h1
 have hk := check.LP h2
 unfold made.kV head.mM head.guard at h2
 simp only [apK, decide_eq_true_eq] at h2
 obtain ⟨⟨⟨g1, g2, g3, g4⟩, g5, g6⟩, g7, g8⟩ := h2
 refine ⟨g1, m1, g7, m2, m3, ⟨g2, g3⟩, fun t ht => apC.1 g5 t ht, fun b hb x hx => ?_, fun b hb => ?_⟩
 ·have := hk b hb
  unfold made.okB at this
  exact apC.1 (apF.1 this).1 x hx
 ·have := hk b hb
  unfold made.okB at this
  exact (apF.1 this).2
theorem ani {w : World} {v : Value} {pre : List Value} {sv : Value} {post : List Value} {els : List (List Value)} (hj : dO w v pre sv post els) (h : okJ pre els post = true) : els.length < 9 := by
 rcases isJ hj h with ⟨_, _, _, _, l, _⟩ | ⟨_, _, _, _, _, l, _⟩ | ⟨_, _, l, _⟩ | ⟨_, _, _, _, _, l, _, _⟩
 ·rw [l]; decide
 ·rw [l]; decide
 ·rw [l]; decide
 ·exact l
open loan bld
def D6 : List (Nat × Nat) := [(1, 0), (2, 0), (3, 1), (3, 2), (4, 1), (4, 2), (5, 1), (5, 2)]
def Uw (p : Nat × Nat) : List Value := [.int .u8 p.1, .int .u8 p.2]
def anu (p : Nat × Nat) : List S := [.int .u8 p.1, .int .u8 p.2]
abbrev ZG (f : FuncId) (p : Nat × Nat) : R := @runs Know.nought (mY Tryz.prog) (nC Tryz.prog) nN 12 8 f [.g (anu p)] ⟨[], 0⟩ 0
theorem a5L : D6.all (fun p => vY (.t [.s (.str (pI (Uw p))), .s (.int .i64 0)]) (ZG 37 p)) = true := by kernel_rfl
theorem uH {t : List Value} (h : ak Kd.ok [.i .u8, .i .u8] t) (hk : ng t = true) : ∃ p ∈ D6, t = Uw p := by
 match t, h with
 | [_, _], ⟨⟨a, rfl, ha⟩, ⟨b, rfl, hb⟩, _⟩ =>
  have h : ((decide (a = 1) || decide (a = 2)) && decide (b = 0)) || ((!decide (a < 3)) && (decide (a < 6) && (decide (b = 1) || decide (b = 2)))) = true := by
   have : IB.num (ah [Value.int .u8 a, .int .u8 b]) = true := hk
   simpa [IB, E.num, ands, isE, ah, bf] using this
  simp only [Bool.or_eq_true, apK, decide_eq_true_eq, apJ, decide_eq_false_iff_not] at h
  have : (a = 1 /\ b = 0) \/ (a = 2 /\ b = 0) \/ (a = 3 /\ b = 1) \/ (a = 3 /\ b = 2) \/ (a = 4 /\ b = 1) \/ (a = 4 /\ b = 2) \/ (a = 5 /\ b = 1) \/ (a = 5 /\ b = 2) := by omega
  rcases this with ⟨rfl, rfl⟩ | ⟨rfl, rfl⟩ | ⟨rfl, rfl⟩ | ⟨rfl, rfl⟩ | ⟨rfl, rfl⟩ | ⟨rfl, rfl⟩ | ⟨rfl, rfl⟩ | ⟨rfl, rfl⟩
  ·exact ⟨(1, 0), by decide, rfl⟩
  ·exact ⟨(2, 0), by decide, rfl⟩
  ·exact ⟨(3, 1), by decide, rfl⟩
  ·exact ⟨(3, 2), by decide, rfl⟩
  ·exact ⟨(4, 1), by decide, rfl⟩
  ·exact ⟨(4, 2), by decide, rfl⟩
  ·exact ⟨(5, 1), by decide, rfl⟩
  ·exact ⟨(5, 2), by decide, rfl⟩
theorem GV {f : FuncId} {p : Nat × Nat} {v : V} (w : World) (h : vY v (ZG f p) = true) :
  Calls Tryz.prog f #[.agg (Uw p).toArray] w fun e w' => ∃ u, e = .returned u /\ (∃ r, @VV (uJ w (aG.nought (fun _ => 0) (fun _ => []))) r v u) /\ Below w.heap.size w w' := by
 have ok := aG.nought (fun _ => 0) (fun _ => [])
 letI : Base := uJ w ok
 have hS := su ok (@mV w _ _ _ ok) 12 8
 cases hr : ZG f p with
 | none => rw [hr] at h; cases h
 | some q =>
  obtain ⟨v', h'⟩ := q
  rw [hr] at h
  have hv := V.jO (show V.same v' v = true from h)
  subst hv
  exact (iC w (Nat.zero_le _) (fun k hk => absurd hk (Nat.not_lt_zero k)) hS (args := [.g (anu p)]) (vs := [.agg (Uw p).toArray]) ⟨⟨_, rfl, ⟨rfl, rfl, trivial⟩⟩, trivial⟩ hr).mono fun e w' ⟨u, r', e1, e2, e3⟩ => ⟨u, e1, ⟨r', e2⟩, e3⟩
theorem alO {t : List Value} (h : ak Kd.ok [.i .u8, .i .u8] t) (hk : ng t = true) (w : World) : Calls Tryz.prog 37 #[.agg t.toArray] w (bld.Ans w (.tuple #[.string ⟨(pI t).toArray⟩, .int .i64 0])) := by
 obtain ⟨p, hp, rfl⟩ := uH h hk
 refine (GV w (apC.1 a5L p hp)).mono ?_
 rintro e w' ⟨u, rfl, ⟨r, us, rfl, hu⟩, hb⟩
 match us, hu with
 | [x, y], ⟨h1, h2, _⟩ =>
  refine ⟨?_, hb⟩
  rw [show x = .string ⟨(pI (Uw p)).toArray⟩ from h1, show y = .int .i64 0 from h2]
end txt
namespace bld
open Go.RowKit Am loan
abbrev tB : TypeId := 66
abbrev tU : TypeId := 5
theorem ao4 : (Tryz.prog.info? 66).map (·.size) = some 2 := by kernel_rfl
theorem a0s (b : Nat) (w : World) (h0 : w.cell? ⟨b, 0, none⟩ = some (.pointer (some ⟨b, 0, none⟩))) :
  Calls Tryz.prog 99 #[.pointer (some ⟨b, 0, none⟩)] w fun e w' => e = .returned (.tuple #[]) /\ w' = w := by
 obtain ⟨j, hj, _⟩ := apE.1 ao4
 go_enter Tryz.func99, Tryz.ntmps99
 go_wp2
 rw [Lib.run_neq_ptr_same w _ Tryz.underlying63 hj]
 go_wp2
 go_end0
 exact ⟨rfl, rfl⟩
theorem Yj (b : Nat) (w : World) (h0 : w.cell? ⟨b, 0, none⟩ = some (.pointer none)) (hsh : w.shape? b = some (tB, 2)) (hfz : w.frozen? ⟨b, 0, none⟩ = false) :
  Calls Tryz.prog 99 #[.pointer (some ⟨b, 0, none⟩)] w fun e w' => e = .returned (.tuple #[]) /\ w' = w.setCell ⟨b, 0, none⟩ (.pointer (some ⟨b, 0, none⟩)) := by
 obtain ⟨j, hj, hjs⟩ := apE.1 ao4
 go_enter Tryz.func99, Tryz.ntmps99
 go_wp2
 rw [Lib.run_to_unsafe w ⟨b, 0, none⟩ Tryz.underlying63 Tryz.underlying160 hj (by rw [hjs]; decide) hsh (Nat.zero_lt_succ 1)]
 simp only [Result.andThen]
 rw [Oper.upon_value]
 go_wp2
 rw [run_callFunc_extern Tryz.func121 (by kernel_rfl) (by kernel_rfl) (by kernel_rfl) (e := Extern.AbiNoEscape.same) (by kernel_rfl)]
 rw [Lib.run_noEscape]
 simp only [Result.andThen]
 rw [Oper.upon_value]
 go_wp2
 rw [Lib.run_from_unsafe w ⟨b, 0, none⟩ Tryz.underlying160 Tryz.underlying63 hj hsh (Tryz.Builder_Extra_169.liesBuilder)]
 simp only [Result.andThen]
 rw [Oper.upon_value]
 go_wp2
 go_end0
 exact ⟨rfl, rfl⟩
theorem a2t {b : Nat} {bs : List Value} {w : World} (h : Lib.IsBuilderF tB tU b b bs w) :
  Calls Tryz.prog 99 #[.pointer (some ⟨b, 0, none⟩)] w fun e w' => e = .returned (.tuple #[]) /\ Lib.BuilderAtF tB tU b b (.pointer (some ⟨b, 0, none⟩)) bs w' /\ Below b w w' /\ Lib.OthersKept tU (some b) w w' := by
 rcases h with h | h
 ·refine (Yj b w h.cell0 h.shape h.frozen0).mono ?_
  rintro e w' ⟨rfl, rfl⟩
  exact ⟨rfl, h.used _, (Below.refl b w).setCell (p := ⟨b, 0, none⟩) h.1 _, (Lib.OthersKept.refl _ _ w).setCell ⟨b, 0, none⟩ rfl _⟩
 ·refine (a0s b w h.cell0).mono ?_
  rintro e w' ⟨rfl, rfl⟩
  exact ⟨rfl, h, Below.refl b _, Lib.OthersKept.refl _ _ _⟩
theorem XG {b : Nat} {l : List UInt8} (c : UInt8) {w : World} (h : Bld tB tU b l w) (hlen : l.length + 1 <= 140737488355328) :
  Calls Tryz.prog 64 #[.pointer (some ⟨b, 0, none⟩), .int .u8 c.toNat] w fun e w' => e = .returned .nilIface /\ Bld tB tU b (l ++ [c]) w' /\ Wrote tU b w w' := by
 have hBw : b <= w.heap.size := apI h.lt
 have hlen2 : (Lib.byteCells l).length + 1 <= 140737488355328 := by rw [Lib.byteCells_length l]; exact hlen
 clear hlen
 have hbc : Lib.byteCells (l ++ [c]) = Lib.byteCells l ++ [.int .u8 c.toNat] := Lib.byteCells_append l [c]
 unfold Bld at h |-
 rw [hbc]
 generalize Lib.byteCells l = bs at *
 generalize (c.toNat : Int) = c at *
 obtain ⟨i0, hi, hz0, hz1, hz2⟩ := info_parts Tryz.Builder_Extra_169.infoByte
 go_enter Tryz.func64, Tryz.ntmps64
 go_wp2_with (go_at_call 99; refine (a2t h).mono ?_)
 rintro e w1 ⟨rfl, h1, hb1, hk1⟩
 obtain ⟨hB, v, hbk, hown, hne⟩ := h1
 have c0 : w1.cell? ⟨b, 0, none⟩ = some (.pointer (some ⟨b, 0, none⟩)) := by rw [Lib.cell_of_heap hbk]; rfl
 have c1 : w1.cell? ⟨b, 1, none⟩ = some v := by rw [Lib.cell_of_heap hbk]; rfl
 go_wp2_with (at_builtin; refine wpList_append_ownF _ rfl _ _ 64 rfl b tU i0 (.int .u8 0) 1 1 Tryz.underlying64 hi hz0 hz1 hz2 rfl (by decide) _ _ _ rfl (hown.alloc _) ⟨w1.heap.size, 0, none⟩ 1 1 [.int .u8 c] rfl rfl ?c1 ?c2 ?c3 ?c4 ?c5 ?_)
 case c1 =>
  intro j u hj
  match j, hj with
  | 0, hj => simp at hj; subst hj; simp [Addr.add]
 case c2 => intro u hu; simp at hu; subst hu; rfl
 case c3 => unfold maxLen; omega
 case c4 => omega
 case c5 => have := hb1.size; simp; omega
 intro v' w2 hown' hgrow _
 have hlt : b < w1.heap.size := (apv.1 hbk).1
 have hb2 : w2.heap[b]? = some (.cells #[.pointer (some ⟨b, 0, none⟩), v] tB (0, 0)) := by
  rw [hgrow.block b (by simp; omega) (fun e => hne e.symm), Lib.alloc_old w1 _ b hlt]
  exact hbk
 have d0 : w2.cell? ⟨b, 0, none⟩ = some (.pointer (some ⟨b, 0, none⟩)) := by rw [Lib.cell_of_heap hb2]; rfl
 have d1 : w2.cell? ⟨b, 1, none⟩ = some v := by rw [Lib.cell_of_heap hb2]; rfl
 have f1 : w2.frozen? ⟨b, 1, none⟩ = false := Lib.frozen_of_heap hb2 1
 obtain ⟨g, cap, rfl⟩ : ∃ g cap, v' = .slice (some ⟨g, 0, none⟩) (bs.length + 1) cap := by
  rcases hown'.2 with ⟨_, h0⟩ | ⟨g, cap, cur, fz, hv, _⟩
  ·omega
  ·exact ⟨g, cap, hv⟩
 go_wp2
 go_ret
 refine ⟨rfl, .inr ?_, ?_, ((hk1.alloc _).grown hgrow (Lib.ownsRowF_kind (hown.alloc _))).setCell ⟨b, 1, none⟩ rfl _⟩
 ·exact Lib.BuilderAtF.put (T := tB) (e := tU) hB hb2 (bs' := bs ++ [.int .u8 c]) (by simpa using hown') Tryz.Builder_Extra_169.neB5
 ·exact ((hb1.alloc (by have := hb1.size; omega) _).grown hgrow (by have := hb1.size; simp; omega) (fun k hk => (hown.lt k hk).1)).setCell (p := ⟨b, 1, none⟩) hB _
theorem Qj {b : Nat} {l : List UInt8} (m : List UInt8) {w : World} (h : Bld tB tU b l w) (hlen : l.length + m.length <= 140737488355328) :
  Calls Tryz.prog 63 #[.pointer (some ⟨b, 0, none⟩), .string ⟨m.toArray⟩] w fun e w' => (∃ v, e = .returned v) /\ Bld tB tU b (l ++ m) w' /\ Wrote tU b w w' := by
 have hBw : b <= w.heap.size := apI h.lt
 have hlen2 : (Lib.byteCells l).length + m.length <= 140737488355328 := by rw [Lib.byteCells_length l]; exact hlen
 clear hlen
 have hbc : Lib.byteCells (l ++ m) = Lib.byteCells l ++ Lib.strCells ⟨m.toArray⟩ := by rw [a8b]; exact Lib.byteCells_append l m
 have hsz : (⟨m.toArray⟩ : ByteArray).size = m.length := by simp [ByteArray.size]
 rw [<- hsz] at hlen2
 clear hsz
 unfold Bld at h |-
 rw [hbc]
 generalize (⟨m.toArray⟩ : ByteArray) = s at *
 generalize Lib.byteCells l = bs at *
 obtain ⟨i0, hi, hz0, hz1, hz2⟩ := info_parts Tryz.Builder_Extra_169.infoByte
 go_enter Tryz.func63, Tryz.ntmps63
 go_wp2_with (go_at_call 99; refine (a2t h).mono ?_)
 rintro e w1 ⟨rfl, h1, hb1, hk1⟩
 obtain ⟨hB, v, hbk, hown, hne⟩ := h1
 have c0 : w1.cell? ⟨b, 0, none⟩ = some (.pointer (some ⟨b, 0, none⟩)) := by rw [Lib.cell_of_heap hbk]; rfl
 have c1 : w1.cell? ⟨b, 1, none⟩ = some v := by rw [Lib.cell_of_heap hbk]; rfl
 go_wp2_with (at_builtin; refine Lib.wpList_append_own_stringF _ rfl _ _ 64 9 rfl b tU i0 Tryz.underlying64 Tryz.underlying9 hi hz0 hz1 hz2 _ _ _ rfl hown s rfl ?c3 ?c4 ?c5 ?_)
 case c3 => unfold maxLen; omega
 case c4 => omega
 case c5 => have := hb1.size; omega
 intro v' w2 hown' hgrow _
 have hlt : b < w1.heap.size := (apv.1 hbk).1
 have hb2 : w2.heap[b]? = some (.cells #[.pointer (some ⟨b, 0, none⟩), v] tB (0, 0)) := by
  rw [hgrow.block b hlt (fun e => hne e.symm)]
  exact hbk
 have d0 : w2.cell? ⟨b, 0, none⟩ = some (.pointer (some ⟨b, 0, none⟩)) := by rw [Lib.cell_of_heap hb2]; rfl
 have d1 : w2.cell? ⟨b, 1, none⟩ = some v := by rw [Lib.cell_of_heap hb2]; rfl
 have f1 : w2.frozen? ⟨b, 1, none⟩ = false := Lib.frozen_of_heap hb2 1
 obtain ⟨ao, n', cap, rfl⟩ : ∃ ao n' cap, v' = .slice ao n' cap := by
  rcases hown'.2 with ⟨hv, _⟩ | ⟨g, cap, cur, fz, hv, _⟩
  ·exact ⟨_, _, _, hv⟩
  ·exact ⟨_, _, _, hv⟩
 go_wp2
 go_ret2
 refine ⟨⟨_, rfl⟩, .inr ?_, ?_, (hk1.grown hgrow (Lib.ownsRowF_kind hown)).setCell ⟨b, 1, none⟩ rfl _⟩
 ·exact Lib.BuilderAtF.put (T := tB) (e := tU) hB hb2 (bs' := bs ++ Lib.strCells s) (by simpa [Lib.strCells_length] using hown') Tryz.Builder_Extra_169.neB5
 ·exact (hb1.grown hgrow (by have := hb1.size; omega) (fun k hk => (hown.lt k hk).1)).setCell (p := ⟨b, 1, none⟩) hB _
end bld
namespace txt
open Go.RowKit Am loan bld
abbrev tS1 : TypeId := 9
abbrev tPB : TypeId := 63
def Wr (b : Nat) (l : List UInt8) (W : World) (e : Ending) (W' : World) : Prop := e = .returned (.tuple #[]) /\ Bld tB tU b l W' /\ Wrote tU b W W'
theorem ap1 {b : Nat} {l : List UInt8} {w : World} (h : Bld tB tU b l w) (hlen : l.length + 1 <= 140737488355328) :
  Calls Tryz.prog 64 #[.pointer (some ⟨b, 0, none⟩), .int .u8 10] w fun e w' => e = .returned .nilIface /\ Bld tB tU b (l ++ [10]) w' /\ Wrote tU b w w' := XG 10 h hlen
theorem ahD {l : List (List UInt8)} {i : Nat} {s : List UInt8} (h : l[i]? = some s) : (l.take i).flatten.length + s.length <= l.flatten.length := by
 have h1 : l.flatten = (l.take (i + 1)).flatten ++ (l.drop (i + 1)).flatten := by rw [<- apz, List.take_append_drop]
 have h2 : l.take (i + 1) = l.take i ++ [s] := by rw [apB, h]; rfl
 rw [h1, h2, apz]
 simp only [apu, List.flatten_cons, List.flatten_nil, List.append_nil]
 omega
theorem VN {b : Nat} {acc : List UInt8} {A : Option Addr} {c : Nat} {parts : List (List UInt8)} {w : World} (h : Bld tB tU b acc w) (hp : oW w b tU A parts) (hlen : acc.length + parts.flatten.length + 1 <= 140737488355328) (hn : (parts.length : Int) <= 1000) :
  Calls Tryz.prog 35 #[.pointer (some ⟨b, 0, none⟩), .slice A parts.length c] w (Wr b (acc ++ (parts.flatten ++ [10])) w) := by
 have HP := Lib.hid hp
 have HB := Lib.hid h
 clear hp h
 go_enter Tryz.func35, Tryz.ntmps35
 go_wp2
 go_loopg [8] parts.length (fun g s8 wr => ∃ i : Nat, s8 = .int .i64 i /\ i <= parts.length /\ g = parts.length - i /\ Bld tB tU b (acc ++ (parts.take i).flatten) wr /\ Wrote tU b w wr)
 case atStart => exact ⟨0, rfl, Nat.zero_le _, rfl, by simpa using HB.out, .refl _ _ _⟩
 case round =>
  obtain ⟨i, rfl, hi, rfl, hb, hw⟩ := hrel
  have h0I : (0 : Int) <= (i : Int) := Int.natCast_nonneg _
  have HW := Lib.hid hw
  have HBI := Lib.hid hb
  have hp := HP.out.wrote hw
  clear hw hb
  rcases Nat.lt_or_ge i parts.length with hlt | hge
  ·have hltI : (i : Int) < (parts.length : Int) := by omega
   obtain ⟨s, hs⟩ : ∃ s, parts[i]? = some s := ⟨_, List.getElem?_eq_getElem hlt⟩
   obtain ⟨g, o, eA, hc⟩ := hp.cell hs
   subst eA
   have hfl := ahD hs
   have HS := Lib.hid hs
   clear hs hp
   go_wp2_with (go_at_call 63; refine (Qj s HBI.out (by rw [apu]; omega)).mono ?_; rintro e w2 ⟨⟨v, rfl⟩, hb2, hw2⟩)
   go_roundg (parts.length - (i + 1))
   case measure => omega
   case rel =>
    refine ⟨i + 1, by simp, by omega, rfl, ?_, HW.out.trans hw2⟩
    rw [apB, HS.out, apz]
    simpa using hb2
  ·obtain rfl : i = parts.length := by omega
   have hl2 := HBI.out
   rw [List.take_length] at hl2
   have HL := Lib.hid hl2
   clear hl2 hp
   go_wp2_with (go_at_call 64; refine (ap1 HL.out (by rw [apu]; omega)).mono ?_; rintro e w2 ⟨rfl, hb2, hw2⟩)
   go_end0
   exact ⟨rfl, by rw [<- List.append_assoc]; exact hb2, HW.out.trans hw2⟩
theorem aoi {b X : Nat} {acc m : List UInt8} {w : World} (h : Bld tB tU b acc w) (hX : w.heap[X]? = some (.cells #[.pointer (some ⟨b, 0, none⟩)] tPB (0, 0))) (hlen : acc.length + m.length <= 100000000000) :
  Calls Tryz.prog 38 #[.string ⟨m.toArray⟩, .int .i64 0, .pointer (some ⟨X, 0, none⟩)] w (Wr b (acc ++ (([32, 32] ++ m) ++ [10])) w) := by
 have hc : w.cell? ⟨X, 0, none⟩ = some (.pointer (some ⟨b, 0, none⟩)) := by rw [cell_of_row w X 0 _ tPB (0, 0) hX]; rfl
 have HB := Lib.hid h
 have hbl := h.lt
 clear h hX
 go_enter Tryz.func38, Tryz.ntmps38
 have hb1 : Below w.heap.size w (w.alloc (.cells #[.string ⟨#[32, 32]⟩, .string ⟨m.toArray⟩] tS1)) := (Below.refl _ _).alloc (Nat.le_refl _) _
 have HL := Lib.hid (VN (c := 2) (parts := [[32, 32], m]) (HB.out.below hb1) (oW.new (b := b) (t := tS1) (l := [[32, 32], m]) (Nat.ne_of_gt hbl) (by decide) (aX rfl)) (by simp; omega) (by simp))
 have HW := Lib.hid (Wrote.of_below (e := tU) hb1 (apI hbl))
 clear hb1
 go_wp2_with (go_at_call 35; refine HL.out.mono ?_; rintro e w2 ⟨rfl, hb2, hw2⟩)
 go_end0
 exact ⟨rfl, by simpa using hb2, HW.out.trans hw2⟩
end txt
end Go.Proofs.YtglmonlofejcgaaGreatDoor
