/- Jumps. -/
import Derived.Test.YtglmonlofejcgaaGreatDoorJump2
set_option maxHeartbeats 1000000
set_option maxRecDepth 100000
noncomputable section
open List renaming all_append → apu, all_eq_true → apw
open Bool renaming and_self → apv, and_eq_true → apx
set_option linter.unusedVariables false
set_option linter.unusedSectionVars false
namespace Go.Proofs.YtglmonlofejcgaaGreatDoor
namespace Am
open Go.RowKit
def a4e : Lf := L0J
def XT : Lf := (a4e.hi 0 (4 - 1))
def aiy : Lf := (XT.hi 0 (2 - 1))
def ahk : Sp := (.cut 0 1 (.cut 6 0 .leaf (.cut 6 1 (.cut 9 1 .leaf .leaf) .leaf)) (.cut 7 0 (.cut 6 0 .leaf (.cut 6 1 (.cut 9 1 (.conj [(10, 0), (11, 0), (12, 0)] (.conj [(1, 0), (2, 0), (3, 0), (4, 0), (5, 0)] .leaf .leaf) .leaf) .leaf) .leaf)) (.cut 7 24 (.cut 8 0 (.cut 6 0 .leaf (.cut 6 1 (.cut 9 1 (.conj [(10, 0), (11, 0), (12, 0)] (.conj [(1, 0), (2, 0), (3, 0), (4, 0), (5, 0)] .leaf .leaf) .leaf) .leaf) .leaf)) (.cut 8 1 (.conj [(1, 0), (2, 0), (3, 0), (4, 0), (5, 0)] (.cut 6 0 .leaf (.cut 6 1 (.cut 9 1 (.conj [(10, 0), (11, 0), (12, 0)] .leaf .leaf) .leaf) .leaf)) (.cut 6 0 .leaf (.cut 6 1 (.cut 9 1 (.conj [(10, 0), (11, 0), (12, 0)] .leaf .leaf) .leaf) .leaf))) (.cut 6 0 .leaf (.cut 6 1 (.cut 9 1 (.conj [(10, 0), (11, 0), (12, 0)] (.conj [(1, 0), (2, 0), (3, 0), (4, 0), (5, 0)] .leaf .leaf) .leaf) .leaf) .leaf)))) (.cut 6 0 .leaf (.cut 6 1 (.cut 9 1 (.conj [(10, 0), (11, 0), (12, 0)] (.conj [(1, 0), (2, 0), (3, 0), (4, 0), (5, 0)] .leaf .leaf) .leaf) .leaf) .leaf)))))
def Xa : Lf := (XT.lo 0 2)
def aiU : Lf := (Xa.hi 0 (3 - 1))
def agq : Sp := (.cut 7 0 (.cut 6 0 .leaf (.cut 6 1 (.cut 9 1 (.conj [(10, 0), (11, 0), (12, 0)] (.cut 14 1 .leaf .leaf) .leaf) .leaf) .leaf)) (.cut 7 24 (.cut 8 0 (.cut 6 0 .leaf (.cut 6 1 (.cut 9 1 (.conj [(10, 0), (11, 0), (12, 0)] (.cut 14 1 .leaf .leaf) .leaf) .leaf) .leaf)) (.cut 8 24 (.cut 14 1 (.cut 6 0 .leaf (.cut 6 1 (.cut 9 1 (.conj [(10, 0), (11, 0), (12, 0)] .leaf .leaf) .leaf) .leaf)) (.cut 6 0 .leaf (.cut 6 1 (.cut 9 1 (.conj [(10, 0), (11, 0), (12, 0)] .leaf .leaf) .leaf) .leaf))) (.cut 6 0 .leaf (.cut 6 1 (.cut 9 1 (.conj [(10, 0), (11, 0), (12, 0)] (.cut 14 1 .leaf .leaf) .leaf) .leaf) .leaf)))) (.cut 6 0 .leaf (.cut 6 1 (.cut 9 1 (.conj [(10, 0), (11, 0), (12, 0)] (.cut 14 1 .leaf .leaf) .leaf) .leaf) .leaf))))
def ahA : Lf := (Xa.lo 0 3)
def acv : Sp := (.cut 7 0 (.cut 6 0 .leaf (.cut 6 1 (.cut 9 1 (.conj [(10, 0), (11, 0), (12, 0)] (.conj [(1, 0), (2, 0), (3, 0), (4, 0), (5, 0)] .leaf .leaf) .leaf) .leaf) .leaf)) (.cut 7 1 (.cut 8 0 (.cut 6 0 .leaf (.cut 6 1 (.cut 9 1 (.conj [(10, 0), (11, 0), (12, 0)] (.conj [(1, 0), (2, 0), (3, 0), (4, 0), (5, 0)] .leaf .leaf) .leaf) .leaf) .leaf)) (.cut 8 1 (.conj [(1, 0), (2, 0), (3, 0), (4, 0), (5, 0)] (.cut 6 0 .leaf (.cut 6 1 (.cut 9 1 (.conj [(10, 0), (11, 0), (12, 0)] .leaf .leaf) .leaf) .leaf)) (.cut 6 0 .leaf (.cut 6 1 (.cut 9 1 (.conj [(10, 0), (11, 0), (12, 0)] .leaf .leaf) .leaf) .leaf))) (.cut 6 0 .leaf (.cut 6 1 (.cut 9 1 (.conj [(10, 0), (11, 0), (12, 0)] (.conj [(1, 0), (2, 0), (3, 0), (4, 0), (5, 0)] .leaf .leaf) .leaf) .leaf) .leaf)))) (.cut 6 0 .leaf (.cut 6 1 (.cut 9 1 (.conj [(10, 0), (11, 0), (12, 0)] (.conj [(1, 0), (2, 0), (3, 0), (4, 0), (5, 0)] .leaf .leaf) .leaf) .leaf) .leaf))))
def Zz : Sp := .cut 0 3 agq acv
def a1b : Sp := .cut 0 2 ahk Zz
def Zn : Lf := (a4e.lo 0 4)
def Z7 : Lf := (Zn.hi 0 (5 - 1))
def aiu : Lf := (Z7.hi 7 (0 - 1))
def afp : Sp := (.cut 6 0 (.conj [(1, 0), (2, 0), (3, 0), (4, 0), (5, 0)] .leaf .leaf) (.cut 6 1 (.cut 9 1 (.conj [(1, 0), (2, 0), (3, 0), (4, 0), (5, 0)] (.cut 15 1 .leaf .leaf) .leaf) (.conj [(1, 0), (2, 0), (3, 0), (4, 0), (5, 0)] (.cut 9 9 (.cut 15 1 .leaf .leaf) .leaf) .leaf)) (.conj [(1, 0), (2, 0), (3, 0), (4, 0), (5, 0)] (.cut 6 8 (.cut 9 9 (.cut 15 1 .leaf .leaf) .leaf) .leaf) .leaf)))
def YE : Lf := (Z7.lo 7 0)
def IV : Lf := (YE.hi 7 (24 - 1))
def a1M : Lf := (IV.hi 8 (0 - 1))
def Xr : Sp := (.cut 6 0 (.conj [(1, 0), (2, 0), (3, 0), (4, 0), (5, 0)] .leaf .leaf) (.cut 6 1 (.cut 9 1 (.conj [(1, 0), (2, 0), (3, 0), (4, 0), (5, 0)] (.cut 15 1 .leaf .leaf) .leaf) (.conj [(1, 0), (2, 0), (3, 0), (4, 0), (5, 0)] (.cut 9 9 (.cut 15 1 .leaf .leaf) .leaf) .leaf)) (.conj [(1, 0), (2, 0), (3, 0), (4, 0), (5, 0)] (.cut 6 8 (.cut 9 9 (.cut 15 1 .leaf .leaf) .leaf) .leaf) .leaf)))
def a2Q : Lf := (IV.lo 8 0)
def XB : Sp := (.cut 8 1 (.conj [(1, 0), (2, 0), (3, 0), (4, 0), (5, 0)] (.cut 6 0 .leaf (.cut 6 8 (.cut 9 9 (.cut 15 1 (.cut 6 1 (.cut 9 1 .leaf .leaf) .leaf) (.cut 9 1 (.cut 13 1 (.cut 6 1 .leaf .leaf) (.cut 6 1 .leaf .leaf)) (.cut 13 1 (.cut 6 1 .leaf .leaf) (.cut 6 1 .leaf .leaf)))) (.cut 6 1 .leaf .leaf)) .leaf)) (.cut 6 0 .leaf (.cut 6 1 (.cut 9 1 .leaf .leaf) .leaf))) (.cut 6 0 (.conj [(1, 0), (2, 0), (3, 0), (4, 0), (5, 0)] .leaf .leaf) (.cut 6 1 (.cut 9 1 (.conj [(1, 0), (2, 0), (3, 0), (4, 0), (5, 0)] (.cut 15 1 .leaf .leaf) .leaf) (.conj [(1, 0), (2, 0), (3, 0), (4, 0), (5, 0)] (.cut 9 9 (.cut 15 1 .leaf .leaf) .leaf) .leaf)) (.conj [(1, 0), (2, 0), (3, 0), (4, 0), (5, 0)] (.cut 6 8 (.cut 9 9 (.cut 15 1 .leaf .leaf) .leaf) .leaf) .leaf))))
def Pq : Sp := .cut 8 0 Xr XB
def a2N : Lf := (YE.lo 7 24)
def Zl : Sp := (.cut 6 0 (.conj [(1, 0), (2, 0), (3, 0), (4, 0), (5, 0)] .leaf .leaf) (.cut 6 1 (.cut 9 1 (.conj [(1, 0), (2, 0), (3, 0), (4, 0), (5, 0)] (.cut 15 1 .leaf .leaf) .leaf) (.conj [(1, 0), (2, 0), (3, 0), (4, 0), (5, 0)] (.cut 9 9 (.cut 15 1 .leaf .leaf) .leaf) .leaf)) (.conj [(1, 0), (2, 0), (3, 0), (4, 0), (5, 0)] (.cut 6 8 (.cut 9 9 (.cut 15 1 .leaf .leaf) .leaf) .leaf) .leaf)))
def a06 : Sp := .cut 7 24 Pq Zl
def ZV : Sp := .cut 7 0 afp a06
def a2Y : Lf := (Zn.lo 0 5)
def Zk : Sp := (.cut 0 6 (.cut 7 0 (.cut 6 0 .leaf (.cut 6 1 (.cut 9 1 (.conj [(10, 0), (11, 0), (12, 0)] (.conj [(1, 0), (2, 0), (3, 0), (4, 0), (5, 0)] .leaf .leaf) .leaf) .leaf) .leaf)) (.cut 7 1 (.cut 8 0 (.cut 6 0 .leaf (.cut 6 1 (.cut 9 1 (.conj [(10, 0), (11, 0), (12, 0)] (.conj [(1, 0), (2, 0), (3, 0), (4, 0), (5, 0)] .leaf .leaf) .leaf) .leaf) .leaf)) (.cut 8 1 (.conj [(1, 0), (2, 0), (3, 0), (4, 0), (5, 0)] (.cut 6 0 .leaf (.cut 6 1 (.cut 9 1 (.conj [(10, 0), (11, 0), (12, 0)] .leaf .leaf) .leaf) .leaf)) (.cut 6 0 .leaf (.cut 6 1 (.cut 9 1 (.conj [(10, 0), (11, 0), (12, 0)] .leaf .leaf) .leaf) .leaf))) (.cut 6 0 .leaf (.cut 6 1 (.cut 9 1 (.conj [(10, 0), (11, 0), (12, 0)] (.conj [(1, 0), (2, 0), (3, 0), (4, 0), (5, 0)] .leaf .leaf) .leaf) .leaf) .leaf)))) (.cut 6 0 .leaf (.cut 6 1 (.cut 9 1 (.conj [(10, 0), (11, 0), (12, 0)] (.conj [(1, 0), (2, 0), (3, 0), (4, 0), (5, 0)] .leaf .leaf) .leaf) .leaf) .leaf)))) (.cut 6 0 .leaf (.cut 6 1 (.cut 9 1 .leaf .leaf) .leaf)))
def a0O : Sp := .cut 0 5 ZV Zk
def a5h : Sp := .cut 0 4 a1b a0O
theorem alA : (ahk.leaves aiy).all (jAt m8 72) = true := by kernel_rfl
theorem amP : (agq.leaves aiU).all (jAt m8 72) = true := by kernel_rfl
theorem alK : (acv.leaves ahA).all (jAt m8 72) = true := by kernel_rfl
theorem amC : (afp.leaves aiu).all (jAt m8 72) = true := by kernel_rfl
theorem akj : (Xr.leaves a1M).all (jAt m8 72) = true := by kernel_rfl
theorem aiX : (XB.leaves a2Q).all (jAt m8 72) = true := by kernel_rfl
theorem ais : (Zl.leaves a2N).all (jAt m8 72) = true := by kernel_rfl
theorem ajY : (Zk.leaves a2Y).all (jAt m8 72) = true := by kernel_rfl
theorem an5 : (Zz.leaves Xa).all (jAt m8 72) = true := by
 have e : Zz.leaves Xa = agq.leaves aiU ++ acv.leaves ahA := rfl
 rw [e]
 simp only [apu, amP, alK, apv]
theorem amW : (a1b.leaves XT).all (jAt m8 72) = true := by
 have e : a1b.leaves XT = ahk.leaves aiy ++ Zz.leaves Xa := rfl
 rw [e]
 simp only [apu, alA, an5, apv]
theorem akr : (Pq.leaves IV).all (jAt m8 72) = true := by
 have e : Pq.leaves IV = Xr.leaves a1M ++ XB.leaves a2Q := rfl
 rw [e]
 simp only [apu, akj, aiX, apv]
theorem alE : (a06.leaves YE).all (jAt m8 72) = true := by
 have e : a06.leaves YE = Pq.leaves IV ++ Zl.leaves a2N := rfl
 rw [e]
 simp only [apu, akr, ais, apv]
theorem amM : (ZV.leaves Z7).all (jAt m8 72) = true := by
 have e : ZV.leaves Z7 = afp.leaves aiu ++ a06.leaves YE := rfl
 rw [e]
 simp only [apu, amC, alE, apv]
theorem amv : (a0O.leaves Zn).all (jAt m8 72) = true := by
 have e : a0O.leaves Zn = ZV.leaves Z7 ++ Zk.leaves a2Y := rfl
 rw [e]
 simp only [apu, amM, ajY, apv]
theorem an1 : (a5h.leaves a4e).all (jAt m8 72) = true := by
 have e : a5h.leaves a4e = a1b.leaves XT ++ a0O.leaves Zn := rfl
 rw [e]
 simp only [apu, amW, amv, apv]
theorem Nh : Ur 72 v8 := MH I5 (sp := a5h) an1
theorem aln : (ahk.leaves aiy).all (jAt mB 107) = true := by kernel_rfl
theorem alx : (agq.leaves aiU).all (jAt mB 107) = true := by kernel_rfl
theorem alu : (acv.leaves ahA).all (jAt mB 107) = true := by kernel_rfl
theorem alY : (afp.leaves aiu).all (jAt mB 107) = true := by kernel_rfl
theorem ajn : (Xr.leaves a1M).all (jAt mB 107) = true := by kernel_rfl
theorem ai3 : (XB.leaves a2Q).all (jAt mB 107) = true := by kernel_rfl
theorem ahv : (Zl.leaves a2N).all (jAt mB 107) = true := by kernel_rfl
theorem ajZ : (Zk.leaves a2Y).all (jAt mB 107) = true := by kernel_rfl
theorem alv : (Zz.leaves Xa).all (jAt mB 107) = true := by
 have e : Zz.leaves Xa = agq.leaves aiU ++ acv.leaves ahA := rfl
 rw [e]
 simp only [apu, alx, alu, apv]
theorem alS : (a1b.leaves XT).all (jAt mB 107) = true := by
 have e : a1b.leaves XT = ahk.leaves aiy ++ Zz.leaves Xa := rfl
 rw [e]
 simp only [apu, aln, alv, apv]
theorem akq : (Pq.leaves IV).all (jAt mB 107) = true := by
 have e : Pq.leaves IV = Xr.leaves a1M ++ XB.leaves a2Q := rfl
 rw [e]
 simp only [apu, ajn, ai3, apv]
theorem amV : (a06.leaves YE).all (jAt mB 107) = true := by
 have e : a06.leaves YE = Pq.leaves IV ++ Zl.leaves a2N := rfl
 rw [e]
 simp only [apu, akq, ahv, apv]
theorem amx : (ZV.leaves Z7).all (jAt mB 107) = true := by
 have e : ZV.leaves Z7 = afp.leaves aiu ++ a06.leaves YE := rfl
 rw [e]
 simp only [apu, alY, amV, apv]
theorem alm : (a0O.leaves Zn).all (jAt mB 107) = true := by
 have e : a0O.leaves Zn = ZV.leaves Z7 ++ Zk.leaves a2Y := rfl
 rw [e]
 simp only [apu, amx, ajZ, apv]
theorem alR : (a5h.leaves a4e).all (jAt mB 107) = true := by
 have e : a5h.leaves a4e = a1b.leaves XT ++ a0O.leaves Zn := rfl
 rw [e]
 simp only [apu, alS, alm, apv]
theorem VZ : Ur 107 .bool := MH afl (sp := a5h) alR
def aoy (post : List Value) : Prop := ah post 1 = 1 \/ 0 < ah post 2
instance (post : List Value) : Decidable (aoy post) := inferInstanceAs (Decidable (_ \/ _))
theorem zsv {us : List Value} {o n : Nat} (h : (E.zero (zs o n)).val us = true) : ∀ i, i < n -> ah us (o + i) = 0 := by
 intro i hi
 simp only [E.val, apw, zs, List.mem_map, List.mem_range] at h
 exact of_decide_eq_true (h (o + i, 0) ⟨i, hi, rfl⟩)
theorem Qc {us : List Value} {i : Nat} {c : Int} (h : (E.zero [(i, c)]).val us = true) : ah us i = c := by
 simp only [E.val, List.all_cons, List.all_nil, Bool.and_true] at h
 exact of_decide_eq_true h
theorem inv {us : List Value} {i : Nat} {c : Int} (h : (G5 i c).val us = true) : 0 <= ah us i /\ ah us i < c := by
 simp only [G5, E.ands, E.val, apx, Bool.not_eq_true', decide_eq_true_eq, decide_eq_false_iff_not] at h
 omega
section
variable {w : World} {v : Value} {pre : List Value} {sv : Value} {post : List Value} {els : List (List Value)} (hj : dO w v pre sv post els)
include hj
theorem D7 {i : Nat} (h : i < 9) : ah (aU pre els post) i = ah pre i := jE (by rw [fH hj]; exact h)
theorem Eo (i : Nat) : ah (aU pre els post) (10 + i) = ah post i := by
 unfold aU
 have : pre ++ Value.int .i64 els.length :: post = (pre ++ [Value.int .i64 els.length]) ++ post := by simp
 rw [this, kG (by simp [fH hj])]
inductive IsJ (pre : List Value) (els : List (List Value)) (post : List Value) : Prop where
 | goto (k : ah pre 0 = 1) (a : ∀ i, i < 6 -> ah pre (1 + i) = 0) (n : 0 <= ah pre 7 /\ ah pre 7 < 24) (e : ah pre 8 = 0) (l : els = []) (d : ∀ i, i < 3 -> ah post i = 0)
 | branch (k : ah pre 0 = 2) (a : (aY 0).val ((pre.drop 1).take 5) = true) (f : ah pre 6 = 0) (n : 0 <= ah pre 7 /\ ah pre 7 < 24) (e : 0 <= ah pre 8 /\ ah pre 8 < 24) (l : els = []) (d : ∀ i, i < 3 -> ah post i = 0)
 | last (k : ah pre 0 = 3 \/ ah pre 0 = 5) (a : ∀ i, i < 8 -> ah pre (1 + i) = 0) (l : els = []) (d : ∀ i, i < 3 -> ah post i = 0)
 | call (k : ah pre 0 = 4) (a : ∀ i, i < 5 -> ah pre (1 + i) = 0) (f : 0 <= ah pre 6 /\ ah pre 6 < 8) (n : 0 <= ah pre 7 /\ ah pre 7 < 24) (e : ah pre 8 = 0) (l : els.length < 9) (d : (dS 0).val post = true) (o : (els.all fun el => (aY 0).val el) = true)
theorem isJ (h : okJ pre els post = true) : IsJ pre els post := by
 have hl := iF hj
 have lt : ∀ {i : Nat}, i < 13 -> ah (aU pre els post ++ (lI pre els post).map (Value.int .i64)) i = ah (aU pre els post) i := fun {i} hi => jE (by rw [hl]; exact hi)
 have bit : ∀ {j : Nat} {x : Bool}, (lI pre els post)[j]? = some (b2i x) -> ah (aU pre els post ++ (lI pre els post).map (Value.int .i64)) (13 + j) = 1 -> x = true := fun {j x} hx hc => by
  rw [kG hl] at hc
  unfold ah at hc
  rw [List.getElem?_map, hx] at hc
  have hc : b2i x = 1 := hc
  cases x
  ·cases hc
  ·rfl
 have e : ∀ vs : List Value, a8t.val vs = (((E.zero [(0, 1)]).val vs && ((E.zero (zs 1 6)).val vs && ((G5 7 24).val vs && (E.zero (zs 8 5)).val vs))) ||
   (((E.zero [(0, 2)]).val vs && ((E.zero [(14, 1)]).val vs && ((E.zero [(6, 0)]).val vs && ((G5 7 24).val vs && ((G5 8 24).val vs && (E.zero (zs 9 4)).val vs))))) ||
   ((((E.zero [(0, 3)]).val vs || (E.zero [(0, 5)]).val vs) && (E.zero (zs 1 12)).val vs) ||
   ((E.zero [(0, 4)]).val vs && ((E.zero (zs 1 5)).val vs && ((G5 6 8).val vs && ((G5 7 24).val vs && ((E.zero [(8, 0)]).val vs && ((E.lt 9 9).val vs && ((E.zero [(15, 1)]).val vs && (E.zero [(13, 1)]).val vs)))))))))) := fun _ => rfl
 unfold okJ at h
 rw [e] at h
 simp only [Bool.or_eq_true, apx] at h
 have ln := jg hj
 have nil0 : ah (aU pre els post) 9 = 0 -> els = [] := fun h0 => List.eq_nil_of_length_eq_zero (by rw [ln] at h0; omega)
 have pr := fun {i : Nat} (hi : i < 9) => (lt (show i < 13 by omega)).trans (D7 hj hi)
 have po := fun {i : Nat} (hi : i < 3) => (lt (show 10 + i < 13 by omega)).trans (Eo hj i)
 rcases h with ⟨k, a, n, z⟩ | ⟨k, a, f, n, e8, z⟩ | ⟨k, z⟩ | ⟨k, a, f, n, e8, l, d, o⟩
 ·have a := zsv a; have n := inv n; have z := zsv z; have k := Qc k
  rw [pr (by decide)] at k n
  refine .goto k (fun i hi => ?_) n ?_ (nil0 ?_) fun i hi => ?_
  ·rw [<- pr (by omega)]; exact a i hi
  ·rw [<- pr (by decide)]; exact z 0 (by decide)
  ·rw [<- lt (by decide)]; exact z 1 (by decide)
  ·rw [<- po hi, show 10 + i = 8 + (2 + i) by omega]; exact z (2 + i) (by omega)
 ·have k := Qc k; have f := Qc f; have n := inv n; have e8 := inv e8; have z := zsv z
  have a : (aY 1).val (aU pre els post) = true := bit (j := 1) rfl (Qc a)
  rw [pr (by decide)] at k n f e8
  refine .branch k ?_ f n e8 (nil0 ?_) fun i hi => ?_
  ·have h0 : (aY 0).val (((aU pre els post).drop 1).take 5) = (aY 1).val (aU pre els post) := (wo (aY 0) (by decide)).trans rfl
   have h1 : ((aU pre els post).drop 1).take 5 = (pre.drop 1).take 5 := by
    unfold aU
    rw [List.drop_append_of_le_length (by rw [fH hj]; decide), List.take_append_of_le_length (by rw [List.length_drop, fH hj]; decide)]
   rw [<- h1, h0]
   exact a
  ·rw [<- lt (by decide)]; exact z 0 (by decide)
  ·rw [<- po hi, show 10 + i = 9 + (1 + i) by omega]; exact z (1 + i) (by omega)
 ·have z := zsv z
  refine .last (k.imp (fun k => by have k := Qc k; rwa [pr (by decide)] at k) (fun k => by have k := Qc k; rwa [pr (by decide)] at k)) (fun i hi => ?_) (nil0 ?_) fun i hi => ?_
  ·rw [<- pr (by omega)]; exact z i (by omega)
  ·rw [<- lt (by decide)]; exact z 8 (by decide)
  ·rw [<- po hi, show 10 + i = 1 + (9 + i) by omega]; exact z (9 + i) (by omega)
 ·have k := Qc k; have a := zsv a; have f := inv f; have n := inv n; have e8 := Qc e8
  have l : ah (aU pre els post ++ (lI pre els post).map (Value.int .i64)) 9 < 9 := by simpa [E.val] using l
  have d : (dS 10).val (aU pre els post) = true := bit (j := 2) rfl (Qc d)
  have o : (els.all fun el => (aY 0).val el) = true := bit (j := 0) rfl (Qc o)
  rw [pr (by decide)] at k f n e8
  rw [lt (by decide), ln] at l
  refine .call k (fun i hi => ?_) f n e8 (by omega) ?_ o
  ·rw [<- pr (by omega)]; exact a i hi
  ·have h0 : (dS 0).val (((aU pre els post).drop 10).take 3) = (dS 10).val (aU pre els post) := abH
   have h1 : ((aU pre els post).drop 10).take 3 = post := by
    unfold aU
    rw [List.drop_append, List.drop_of_length_le (by rw [fH hj]; decide), fH hj]
    show ((Value.int .i64 els.length :: post).drop 1).take 3 = post
    rw [List.drop_succ_cons, List.drop_zero, List.take_of_length_le (by rw [tV hj]; decide)]
   rw [<- h1, h0]
   exact d
theorem a1Y (i : Nat) (h : i < 9) {k : Kd} (hk : oK[i]? = some k) : ∃ x, pre[i]? = some x /\ k.ok x := by
 have := ak.nth hj.pre (n := i) (x := k) (by rw [aN]; exact hk)
 exact this
theorem Ue (i : Nat) {k : Kd} (hk : kW[i]? = some k) : ∃ x, post[i]? = some x /\ k.ok x := ak.nth hj.post (n := i) (x := k) (by rw [aN]; exact hk)
theorem acK : ah post 1 = 0 \/ ah post 1 = 1 := by
 obtain ⟨x, hx, b, hb⟩ := Ue hj 1 (k := .b) rfl
 subst hb
 unfold ah
 rw [hx]
 cases b
 ·exact .inl rfl
 ·exact .inr rfl
theorem amz : 0 <= ah post 2 := by
 obtain ⟨x, hx, n, hn, h0, _⟩ := Ue hj 2 (k := .i .u8) rfl
 subst hn
 unfold ah
 rw [hx]
 exact h0
end
section
variable {w : World} {v : Value} {pre : List Value} {sv : Value} {post : List Value} {els : List (List Value)} (hj : dO w v pre sv post els)
include hj
section
variable {b : Base} (r3 : b.rho 3 = ah pre 3) (r10 : b.rho 10 = ah post 0)
include r3 r10
end
theorem Lf.Holds.qG {L : Lf} {rho : Nat -> Int} {sig : Nat -> List UInt8} (h : L.Holds rho sig) {i : Nat} {c : Int} (e : rho i = c) : (qG L i c).Holds rho sig := (h.hi (i := i) (c := c) (by omega)).lo (i := i) (c := c) (by omega)
end
section
variable {w : World} {v : Value} {pre : List Value} {sv : Value} {post : List Value} {els : List (List Value)} (hj : dO w v pre sv post els)
include hj
end
theorem cells_one (L : Lf) : ((([.g uY] : List A).map L.nA).all A.rG) = true := by
 show ((uY.map L.nS).all S.rG && true) = true
 rw [Bool.and_true]
 have h1 := kK L oK 0 rfl
 have h2 := kK L kW 10 rfl
 have up : ∀ {l : List S}, l.all S.one = true -> l.all S.rG = true := fun {l} h => apw.2 fun x hx => by
  have := apw.1 h x hx
  cases x <;> first | exact this | rfl
 unfold uY
 rw [List.map_append, List.map_cons, apu, List.all_cons, up h1, up h2]
 rfl
end Am
end Go.Proofs.YtglmonlofejcgaaGreatDoor
