/- Jumps: which are valid: the runs. What a jump uses and moves: class by class. What a jump uses and moves: the runs of each class. What a jump uses and moves: Uses and Moves, and the reference's, answer with these lists. What a jump uses and moves: the contracts. What a jump uses and moves: the contracts, joined. -/
import Derived.Test.YtglmonlofejcgaaGreatDoorJump2
set_option linter.unusedVariables false
set_option linter.unusedSectionVars false
set_option maxRecDepth 100000
namespace Go.Proofs.YtglmonlofejcgaaGreatDoor.Am
open Go.RowKit
noncomputable def a2n : Lf := L0J
noncomputable def Wl : Lf := (a2n.hi 0 (4 - 1))
noncomputable def afK : Lf := (Wl.hi 0 (2 - 1))
def a8f : Sp := (.cut 0 1 (.cut 6 0 .leaf (.cut 6 1 (.cut 9 1 .leaf .leaf) .leaf)) (.cut 7 0 (.cut 6 0 .leaf (.cut 6 1 (.cut 9 1 (.conj [(10, 0), (11, 0), (12, 0)] (.conj [(1, 0), (2, 0), (3, 0), (4, 0), (5, 0)] .leaf .leaf) .leaf) .leaf) .leaf)) (.cut 7 24 (.cut 8 0 (.cut 6 0 .leaf (.cut 6 1 (.cut 9 1 (.conj [(10, 0), (11, 0), (12, 0)] (.conj [(1, 0), (2, 0), (3, 0), (4, 0), (5, 0)] .leaf .leaf) .leaf) .leaf) .leaf)) (.cut 8 1 (.conj [(1, 0), (2, 0), (3, 0), (4, 0), (5, 0)] (.cut 6 0 .leaf (.cut 6 1 (.cut 9 1 (.conj [(10, 0), (11, 0), (12, 0)] .leaf .leaf) .leaf) .leaf)) (.cut 6 0 .leaf (.cut 6 1 (.cut 9 1 (.conj [(10, 0), (11, 0), (12, 0)] .leaf .leaf) .leaf) .leaf))) (.cut 6 0 .leaf (.cut 6 1 (.cut 9 1 (.conj [(10, 0), (11, 0), (12, 0)] (.conj [(1, 0), (2, 0), (3, 0), (4, 0), (5, 0)] .leaf .leaf) .leaf) .leaf) .leaf)))) (.cut 6 0 .leaf (.cut 6 1 (.cut 9 1 (.conj [(10, 0), (11, 0), (12, 0)] (.conj [(1, 0), (2, 0), (3, 0), (4, 0), (5, 0)] .leaf .leaf) .leaf) .leaf) .leaf)))))
noncomputable def WQ : Lf := (Wl.lo 0 2)
noncomputable def aie : Lf := (WQ.hi 0 (3 - 1))
def ac9 : Sp := (.cut 7 0 (.cut 6 0 .leaf (.cut 6 1 (.cut 9 1 (.conj [(10, 0), (11, 0), (12, 0)] (.cut 14 1 .leaf .leaf) .leaf) .leaf) .leaf)) (.cut 7 24 (.cut 8 0 (.cut 6 0 .leaf (.cut 6 1 (.cut 9 1 (.conj [(10, 0), (11, 0), (12, 0)] (.cut 14 1 .leaf .leaf) .leaf) .leaf) .leaf)) (.cut 8 24 (.cut 14 1 (.cut 6 0 .leaf (.cut 6 1 (.cut 9 1 (.conj [(10, 0), (11, 0), (12, 0)] .leaf .leaf) .leaf) .leaf)) (.cut 6 0 .leaf (.cut 6 1 (.cut 9 1 (.conj [(10, 0), (11, 0), (12, 0)] .leaf .leaf) .leaf) .leaf))) (.cut 6 0 .leaf (.cut 6 1 (.cut 9 1 (.conj [(10, 0), (11, 0), (12, 0)] (.cut 14 1 .leaf .leaf) .leaf) .leaf) .leaf)))) (.cut 6 0 .leaf (.cut 6 1 (.cut 9 1 (.conj [(10, 0), (11, 0), (12, 0)] (.cut 14 1 .leaf .leaf) .leaf) .leaf) .leaf))))
noncomputable def ahS : Lf := (WQ.lo 0 3)
def aee : Sp := (.cut 7 0 (.cut 6 0 .leaf (.cut 6 1 (.cut 9 1 (.conj [(10, 0), (11, 0), (12, 0)] (.conj [(1, 0), (2, 0), (3, 0), (4, 0), (5, 0)] .leaf .leaf) .leaf) .leaf) .leaf)) (.cut 7 1 (.cut 8 0 (.cut 6 0 .leaf (.cut 6 1 (.cut 9 1 (.conj [(10, 0), (11, 0), (12, 0)] (.conj [(1, 0), (2, 0), (3, 0), (4, 0), (5, 0)] .leaf .leaf) .leaf) .leaf) .leaf)) (.cut 8 1 (.conj [(1, 0), (2, 0), (3, 0), (4, 0), (5, 0)] (.cut 6 0 .leaf (.cut 6 1 (.cut 9 1 (.conj [(10, 0), (11, 0), (12, 0)] .leaf .leaf) .leaf) .leaf)) (.cut 6 0 .leaf (.cut 6 1 (.cut 9 1 (.conj [(10, 0), (11, 0), (12, 0)] .leaf .leaf) .leaf) .leaf))) (.cut 6 0 .leaf (.cut 6 1 (.cut 9 1 (.conj [(10, 0), (11, 0), (12, 0)] (.conj [(1, 0), (2, 0), (3, 0), (4, 0), (5, 0)] .leaf .leaf) .leaf) .leaf) .leaf)))) (.cut 6 0 .leaf (.cut 6 1 (.cut 9 1 (.conj [(10, 0), (11, 0), (12, 0)] (.conj [(1, 0), (2, 0), (3, 0), (4, 0), (5, 0)] .leaf .leaf) .leaf) .leaf) .leaf))))
def Xm : Sp := .cut 0 3 ac9 aee
def XP : Sp := .cut 0 2 a8f Xm
noncomputable def WC : Lf := (a2n.lo 0 4)
noncomputable def Vf : Lf := (WC.hi 0 (5 - 1))
noncomputable def ag4 : Lf := (Vf.hi 7 (0 - 1))
def aav : Sp := (.cut 6 0 (.conj [(1, 0), (2, 0), (3, 0), (4, 0), (5, 0)] .leaf .leaf) (.cut 6 1 (.cut 9 1 (.conj [(1, 0), (2, 0), (3, 0), (4, 0), (5, 0)] (.cut 15 1 .leaf .leaf) .leaf) (.conj [(1, 0), (2, 0), (3, 0), (4, 0), (5, 0)] (.cut 9 9 (.cut 15 1 .leaf .leaf) .leaf) .leaf)) (.conj [(1, 0), (2, 0), (3, 0), (4, 0), (5, 0)] (.cut 6 8 (.cut 9 9 (.cut 15 1 .leaf .leaf) .leaf) .leaf) .leaf)))
noncomputable def X3 : Lf := (Vf.lo 7 0)
noncomputable def GH : Lf := (X3.hi 7 (24 - 1))
noncomputable def a0X : Lf := (GH.hi 8 (0 - 1))
def VT : Sp := (.cut 6 0 (.conj [(1, 0), (2, 0), (3, 0), (4, 0), (5, 0)] .leaf .leaf) (.cut 6 1 (.cut 9 1 (.conj [(1, 0), (2, 0), (3, 0), (4, 0), (5, 0)] (.cut 15 1 .leaf .leaf) .leaf) (.conj [(1, 0), (2, 0), (3, 0), (4, 0), (5, 0)] (.cut 9 9 (.cut 15 1 .leaf .leaf) .leaf) .leaf)) (.conj [(1, 0), (2, 0), (3, 0), (4, 0), (5, 0)] (.cut 6 8 (.cut 9 9 (.cut 15 1 .leaf .leaf) .leaf) .leaf) .leaf)))
noncomputable def a0j : Lf := (GH.lo 8 0)
def Wn : Sp := (.cut 8 1 (.conj [(1, 0), (2, 0), (3, 0), (4, 0), (5, 0)] (.cut 6 0 .leaf (.cut 6 8 (.cut 9 9 (.cut 15 1 (.cut 6 1 (.cut 9 1 .leaf .leaf) .leaf) (.cut 9 1 (.cut 13 1 (.cut 6 1 .leaf .leaf) (.cut 6 1 .leaf .leaf)) (.cut 13 1 (.cut 6 1 .leaf .leaf) (.cut 6 1 .leaf .leaf)))) (.cut 6 1 .leaf .leaf)) .leaf)) (.cut 6 0 .leaf (.cut 6 1 (.cut 9 1 .leaf .leaf) .leaf))) (.cut 6 0 (.conj [(1, 0), (2, 0), (3, 0), (4, 0), (5, 0)] .leaf .leaf) (.cut 6 1 (.cut 9 1 (.conj [(1, 0), (2, 0), (3, 0), (4, 0), (5, 0)] (.cut 15 1 .leaf .leaf) .leaf) (.conj [(1, 0), (2, 0), (3, 0), (4, 0), (5, 0)] (.cut 9 9 (.cut 15 1 .leaf .leaf) .leaf) .leaf)) (.conj [(1, 0), (2, 0), (3, 0), (4, 0), (5, 0)] (.cut 6 8 (.cut 9 9 (.cut 15 1 .leaf .leaf) .leaf) .leaf) .leaf))))
def IW : Sp := .cut 8 0 VT Wn
noncomputable def Zo : Lf := (X3.lo 7 24)
def VW : Sp := (.cut 6 0 (.conj [(1, 0), (2, 0), (3, 0), (4, 0), (5, 0)] .leaf .leaf) (.cut 6 1 (.cut 9 1 (.conj [(1, 0), (2, 0), (3, 0), (4, 0), (5, 0)] (.cut 15 1 .leaf .leaf) .leaf) (.conj [(1, 0), (2, 0), (3, 0), (4, 0), (5, 0)] (.cut 9 9 (.cut 15 1 .leaf .leaf) .leaf) .leaf)) (.conj [(1, 0), (2, 0), (3, 0), (4, 0), (5, 0)] (.cut 6 8 (.cut 9 9 (.cut 15 1 .leaf .leaf) .leaf) .leaf) .leaf)))
def XT : Sp := .cut 7 24 IW VW
def Yp : Sp := .cut 7 0 aav XT
noncomputable def a0g : Lf := (WC.lo 0 5)
def Vp : Sp := (.cut 0 6 (.cut 7 0 (.cut 6 0 .leaf (.cut 6 1 (.cut 9 1 (.conj [(10, 0), (11, 0), (12, 0)] (.conj [(1, 0), (2, 0), (3, 0), (4, 0), (5, 0)] .leaf .leaf) .leaf) .leaf) .leaf)) (.cut 7 1 (.cut 8 0 (.cut 6 0 .leaf (.cut 6 1 (.cut 9 1 (.conj [(10, 0), (11, 0), (12, 0)] (.conj [(1, 0), (2, 0), (3, 0), (4, 0), (5, 0)] .leaf .leaf) .leaf) .leaf) .leaf)) (.cut 8 1 (.conj [(1, 0), (2, 0), (3, 0), (4, 0), (5, 0)] (.cut 6 0 .leaf (.cut 6 1 (.cut 9 1 (.conj [(10, 0), (11, 0), (12, 0)] .leaf .leaf) .leaf) .leaf)) (.cut 6 0 .leaf (.cut 6 1 (.cut 9 1 (.conj [(10, 0), (11, 0), (12, 0)] .leaf .leaf) .leaf) .leaf))) (.cut 6 0 .leaf (.cut 6 1 (.cut 9 1 (.conj [(10, 0), (11, 0), (12, 0)] (.conj [(1, 0), (2, 0), (3, 0), (4, 0), (5, 0)] .leaf .leaf) .leaf) .leaf) .leaf)))) (.cut 6 0 .leaf (.cut 6 1 (.cut 9 1 (.conj [(10, 0), (11, 0), (12, 0)] (.conj [(1, 0), (2, 0), (3, 0), (4, 0), (5, 0)] .leaf .leaf) .leaf) .leaf) .leaf)))) (.cut 6 0 .leaf (.cut 6 1 (.cut 9 1 .leaf .leaf) .leaf)))
def Xx : Sp := .cut 0 5 Yp Vp
def a4K : Sp := .cut 0 4 XP Xx
theorem aku : (a8f.leaves afK).all (jAt m8 72) = true := by kernel_rfl
theorem akj : (ac9.leaves aie).all (jAt m8 72) = true := by kernel_rfl
theorem ajF : (aee.leaves ahS).all (jAt m8 72) = true := by kernel_rfl
theorem ak6 : (aav.leaves ag4).all (jAt m8 72) = true := by kernel_rfl
theorem ahZ : (VT.leaves a0X).all (jAt m8 72) = true := by kernel_rfl
theorem afR : (Wn.leaves a0j).all (jAt m8 72) = true := by kernel_rfl
theorem ai0 : (VW.leaves Zo).all (jAt m8 72) = true := by kernel_rfl
theorem ahy : (Vp.leaves a0g).all (jAt m8 72) = true := by kernel_rfl
theorem ajP : (Xm.leaves WQ).all (jAt m8 72) = true := by
 have e : Xm.leaves WQ = ac9.leaves aie ++ aee.leaves ahS := rfl
 rw [e]
 simp only [List.all_append, akj, ajF, Bool.and_self]
theorem ajx : (XP.leaves Wl).all (jAt m8 72) = true := by
 have e : XP.leaves Wl = a8f.leaves afK ++ Xm.leaves WQ := rfl
 rw [e]
 simp only [List.all_append, aku, ajP, Bool.and_self]
theorem ai7 : (IW.leaves GH).all (jAt m8 72) = true := by
 have e : IW.leaves GH = VT.leaves a0X ++ Wn.leaves a0j := rfl
 rw [e]
 simp only [List.all_append, ahZ, afR, Bool.and_self]
theorem ajh : (XT.leaves X3).all (jAt m8 72) = true := by
 have e : XT.leaves X3 = IW.leaves GH ++ VW.leaves Zo := rfl
 rw [e]
 simp only [List.all_append, ai7, ai0, Bool.and_self]
theorem ajV : (Yp.leaves Vf).all (jAt m8 72) = true := by
 have e : Yp.leaves Vf = aav.leaves ag4 ++ XT.leaves X3 := rfl
 rw [e]
 simp only [List.all_append, ak6, ajh, Bool.and_self]
theorem ajk : (Xx.leaves WC).all (jAt m8 72) = true := by
 have e : Xx.leaves WC = Yp.leaves Vf ++ Vp.leaves a0g := rfl
 rw [e]
 simp only [List.all_append, ajV, ahy, Bool.and_self]
theorem ak2 : (a4K.leaves a2n).all (jAt m8 72) = true := by
 have e : a4K.leaves a2n = XP.leaves Wl ++ Xx.leaves WC := rfl
 rw [e]
 simp only [List.all_append, ajx, ajk, Bool.and_self]
theorem KH : RJ 72 v8 := N9 Gi (sp := a4K) ak2
theorem akx : (a8f.leaves afK).all (jAt mB 107) = true := by kernel_rfl
theorem ak4 : (ac9.leaves aie).all (jAt mB 107) = true := by kernel_rfl
theorem akn : (aee.leaves ahS).all (jAt mB 107) = true := by kernel_rfl
theorem ajt : (aav.leaves ag4).all (jAt mB 107) = true := by kernel_rfl
theorem afF : (VT.leaves a0X).all (jAt mB 107) = true := by kernel_rfl
theorem agC : (Wn.leaves a0j).all (jAt mB 107) = true := by kernel_rfl
theorem ahx : (VW.leaves Zo).all (jAt mB 107) = true := by kernel_rfl
theorem ahf : (Vp.leaves a0g).all (jAt mB 107) = true := by kernel_rfl
theorem akz : (Xm.leaves WQ).all (jAt mB 107) = true := by
 have e : Xm.leaves WQ = ac9.leaves aie ++ aee.leaves ahS := rfl
 rw [e]
 simp only [List.all_append, ak4, akn, Bool.and_self]
theorem ajg : (XP.leaves Wl).all (jAt mB 107) = true := by
 have e : XP.leaves Wl = a8f.leaves afK ++ Xm.leaves WQ := rfl
 rw [e]
 simp only [List.all_append, akx, akz, Bool.and_self]
theorem agr : (IW.leaves GH).all (jAt mB 107) = true := by
 have e : IW.leaves GH = VT.leaves a0X ++ Wn.leaves a0j := rfl
 rw [e]
 simp only [List.all_append, afF, agC, Bool.and_self]
theorem ajR : (XT.leaves X3).all (jAt mB 107) = true := by
 have e : XT.leaves X3 = IW.leaves GH ++ VW.leaves Zo := rfl
 rw [e]
 simp only [List.all_append, agr, ahx, Bool.and_self]
theorem akk : (Yp.leaves Vf).all (jAt mB 107) = true := by
 have e : Yp.leaves Vf = aav.leaves ag4 ++ XT.leaves X3 := rfl
 rw [e]
 simp only [List.all_append, ajt, ajR, Bool.and_self]
theorem aja : (Xx.leaves WC).all (jAt mB 107) = true := by
 have e : Xx.leaves WC = Yp.leaves Vf ++ Vp.leaves a0g := rfl
 rw [e]
 simp only [List.all_append, akk, ahf, Bool.and_self]
theorem ak0 : (a4K.leaves a2n).all (jAt mB 107) = true := by
 have e : a4K.leaves a2n = XP.leaves Wl ++ Xx.leaves WC := rfl
 rw [e]
 simp only [List.all_append, ajg, aja, Bool.and_self]
theorem Xg : RJ 107 .bool := N9 a6E (sp := a4K) ak0
end Go.Proofs.YtglmonlofejcgaaGreatDoor.Am
namespace Go.Proofs.YtglmonlofejcgaaGreatDoor.Am
open Go.RowKit
end Go.Proofs.YtglmonlofejcgaaGreatDoor.Am
namespace Go.Proofs.YtglmonlofejcgaaGreatDoor.Am
open Go.RowKit
end Go.Proofs.YtglmonlofejcgaaGreatDoor.Am
namespace Go.Proofs.YtglmonlofejcgaaGreatDoor.Am
open Go.RowKit
set_option maxHeartbeats 1000000
def alD (post : List Value) : Prop := ah post 1 = 1 \/ 0 < ah post 2
instance (post : List Value) : Decidable (alD post) := inferInstanceAs (Decidable (_ \/ _))
theorem zsv {us : List Value} {o n : Nat} (h : (E.zero (zs o n)).val us = true) : ∀ i, i < n -> ah us (o + i) = 0 := by
 intro i hi
 simp only [E.val, List.all_eq_true, zs, List.mem_map, List.mem_range] at h
 exact of_decide_eq_true (h (o + i, 0) ⟨i, hi, rfl⟩)
theorem Oc {us : List Value} {i : Nat} {c : Int} (h : (E.zero [(i, c)]).val us = true) : ah us i = c := by
 simp only [E.val, List.all_cons, List.all_nil, Bool.and_true] at h
 exact of_decide_eq_true h
theorem inv {us : List Value} {i : Nat} {c : Int} (h : (F6 i c).val us = true) : 0 <= ah us i /\ ah us i < c := by
 simp only [F6, E.ands, E.val, Bool.and_eq_true, Bool.not_eq_true', decide_eq_true_eq, decide_eq_false_iff_not] at h
 omega
section
variable {w : World} {v : Value} {pre : List Value} {sv : Value} {post : List Value} {els : List (List Value)} (hj : eU w v pre sv post els)
include hj
theorem RF {i : Nat} (h : i < 9) : ah (aW pre els post) i = ah pre i := jQ (by rw [iD hj]; exact h)
theorem a1D (i : Nat) : ah (aW pre els post) (10 + i) = ah post i := by
 unfold aW
 have : pre ++ Value.int .i64 els.length :: post = (pre ++ [Value.int .i64 els.length]) ++ post := by simp
 rw [this, kH (by simp [iD hj])]
inductive IsJ (pre : List Value) (els : List (List Value)) (post : List Value) : Prop where
 | goto (k : ah pre 0 = 1) (a : ∀ i, i < 6 -> ah pre (1 + i) = 0) (n : 0 <= ah pre 7 /\ ah pre 7 < 24) (e : ah pre 8 = 0) (l : els = []) (d : ∀ i, i < 3 -> ah post i = 0)
 | branch (k : ah pre 0 = 2) (a : (bn 0).val ((pre.drop 1).take 5) = true) (f : ah pre 6 = 0) (n : 0 <= ah pre 7 /\ ah pre 7 < 24) (e : 0 <= ah pre 8 /\ ah pre 8 < 24) (l : els = []) (d : ∀ i, i < 3 -> ah post i = 0)
 | last (k : ah pre 0 = 3 \/ ah pre 0 = 5) (a : ∀ i, i < 8 -> ah pre (1 + i) = 0) (l : els = []) (d : ∀ i, i < 3 -> ah post i = 0)
 | call (k : ah pre 0 = 4) (a : ∀ i, i < 5 -> ah pre (1 + i) = 0) (f : 0 <= ah pre 6 /\ ah pre 6 < 8) (n : 0 <= ah pre 7 /\ ah pre 7 < 24) (e : ah pre 8 = 0) (l : els.length < 9) (d : (fU 0).val post = true) (o : (els.all fun el => (bn 0).val el) = true)
theorem isJ (h : okJ pre els post = true) : IsJ pre els post := by
 have hl := iI hj
 have lt : ∀ {i : Nat}, i < 13 -> ah (aW pre els post ++ (lX pre els post).map (Value.int .i64)) i = ah (aW pre els post) i := fun {i} hi => jQ (by rw [hl]; exact hi)
 have bit : ∀ {j : Nat} {x : Bool}, (lX pre els post)[j]? = some (b2i x) -> ah (aW pre els post ++ (lX pre els post).map (Value.int .i64)) (13 + j) = 1 -> x = true := fun {j x} hx hc => by
  rw [kH hl] at hc
  unfold ah at hc
  rw [List.getElem?_map, hx] at hc
  have hc : b2i x = 1 := hc
  cases x
  ·cases hc
  ·rfl
 have e : ∀ vs : List Value, a3b.val vs = (((E.zero [(0, 1)]).val vs && ((E.zero (zs 1 6)).val vs && ((F6 7 24).val vs && (E.zero (zs 8 5)).val vs))) ||
   (((E.zero [(0, 2)]).val vs && ((E.zero [(14, 1)]).val vs && ((E.zero [(6, 0)]).val vs && ((F6 7 24).val vs && ((F6 8 24).val vs && (E.zero (zs 9 4)).val vs))))) ||
   ((((E.zero [(0, 3)]).val vs || (E.zero [(0, 5)]).val vs) && (E.zero (zs 1 12)).val vs) ||
   ((E.zero [(0, 4)]).val vs && ((E.zero (zs 1 5)).val vs && ((F6 6 8).val vs && ((F6 7 24).val vs && ((E.zero [(8, 0)]).val vs && ((E.lt 9 9).val vs && ((E.zero [(15, 1)]).val vs && (E.zero [(13, 1)]).val vs)))))))))) := fun _ => rfl
 unfold okJ at h
 rw [e] at h
 simp only [Bool.or_eq_true, Bool.and_eq_true] at h
 have ln := iU hj
 have nil0 : ah (aW pre els post) 9 = 0 -> els = [] := fun h0 => List.eq_nil_of_length_eq_zero (by rw [ln] at h0; omega)
 have pr := fun {i : Nat} (hi : i < 9) => (lt (show i < 13 by omega)).trans (RF hj hi)
 have po := fun {i : Nat} (hi : i < 3) => (lt (show 10 + i < 13 by omega)).trans (a1D hj i)
 rcases h with ⟨k, a, n, z⟩ | ⟨k, a, f, n, e8, z⟩ | ⟨k, z⟩ | ⟨k, a, f, n, e8, l, d, o⟩
 ·have a := zsv a; have n := inv n; have z := zsv z; have k := Oc k
  rw [pr (by decide)] at k n
  refine .goto k (fun i hi => ?_) n ?_ (nil0 ?_) fun i hi => ?_
  ·rw [<- pr (by omega)]; exact a i hi
  ·rw [<- pr (by decide)]; exact z 0 (by decide)
  ·rw [<- lt (by decide)]; exact z 1 (by decide)
  ·rw [<- po hi, show 10 + i = 8 + (2 + i) by omega]; exact z (2 + i) (by omega)
 ·have k := Oc k; have f := Oc f; have n := inv n; have e8 := inv e8; have z := zsv z
  have a : (bn 1).val (aW pre els post) = true := bit (j := 1) rfl (Oc a)
  rw [pr (by decide)] at k n f e8
  refine .branch k ?_ f n e8 (nil0 ?_) fun i hi => ?_
  ·have h0 : (bn 0).val (((aW pre els post).drop 1).take 5) = (bn 1).val (aW pre els post) := (uK (bn 0) (by decide)).trans rfl
   have h1 : ((aW pre els post).drop 1).take 5 = (pre.drop 1).take 5 := by
    unfold aW
    rw [List.drop_append_of_le_length (by rw [iD hj]; decide), List.take_append_of_le_length (by rw [List.length_drop, iD hj]; decide)]
   rw [<- h1, h0]
   exact a
  ·rw [<- lt (by decide)]; exact z 0 (by decide)
  ·rw [<- po hi, show 10 + i = 9 + (1 + i) by omega]; exact z (1 + i) (by omega)
 ·have z := zsv z
  refine .last (k.imp (fun k => by have k := Oc k; rwa [pr (by decide)] at k) (fun k => by have k := Oc k; rwa [pr (by decide)] at k)) (fun i hi => ?_) (nil0 ?_) fun i hi => ?_
  ·rw [<- pr (by omega)]; exact z i (by omega)
  ·rw [<- lt (by decide)]; exact z 8 (by decide)
  ·rw [<- po hi, show 10 + i = 1 + (9 + i) by omega]; exact z (9 + i) (by omega)
 ·have k := Oc k; have a := zsv a; have f := inv f; have n := inv n; have e8 := Oc e8
  have l : ah (aW pre els post ++ (lX pre els post).map (Value.int .i64)) 9 < 9 := by simpa [E.val] using l
  have d : (fU 10).val (aW pre els post) = true := bit (j := 2) rfl (Oc d)
  have o : (els.all fun el => (bn 0).val el) = true := bit (j := 0) rfl (Oc o)
  rw [pr (by decide)] at k f n e8
  rw [lt (by decide), ln] at l
  refine .call k (fun i hi => ?_) f n e8 (by omega) ?_ o
  ·rw [<- pr (by omega)]; exact a i hi
  ·have h0 : (fU 0).val (((aW pre els post).drop 10).take 3) = (fU 10).val (aW pre els post) := a7O
   have h1 : ((aW pre els post).drop 10).take 3 = post := by
    unfold aW
    rw [List.drop_append, List.drop_of_length_le (by rw [iD hj]; decide), iD hj]
    show ((Value.int .i64 els.length :: post).drop 1).take 3 = post
    rw [List.drop_succ_cons, List.drop_zero, List.take_of_length_le (by rw [Us hj]; decide)]
   rw [<- h1, h0]
   exact d
theorem ale (i : Nat) (h : i < 9) {k : Kd} (hk : oM[i]? = some k) : ∃ x, pre[i]? = some x /\ k.ok x := by
 have := ak.nth hj.pre (n := i) (x := k) (by rw [aK]; exact hk)
 exact this
end
end Go.Proofs.YtglmonlofejcgaaGreatDoor.Am
namespace Go.Proofs.YtglmonlofejcgaaGreatDoor.Am
open Go.RowKit
set_option maxHeartbeats 1000000
section
variable {w : World} {v : Value} {pre : List Value} {sv : Value} {post : List Value} {els : List (List Value)} (hj : eU w v pre sv post els)
include hj
section
variable {b : Base} (r3 : b.rho 3 = ah pre 3) (r10 : b.rho 10 = ah post 0)
include r3 r10
end
theorem Lf.Holds.pX {L : Lf} {rho : Nat -> Int} {sig : Nat -> List UInt8} (h : L.Holds rho sig) {i : Nat} {c : Int} (e : rho i = c) : (pX L i c).Holds rho sig := (h.hi (i := i) (c := c) (by omega)).lo (i := i) (c := c) (by omega)
end
end Go.Proofs.YtglmonlofejcgaaGreatDoor.Am
namespace Go.Proofs.YtglmonlofejcgaaGreatDoor.Am
open Go.RowKit
set_option maxHeartbeats 1000000
section
variable {w : World} {v : Value} {pre : List Value} {sv : Value} {post : List Value} {els : List (List Value)} (hj : eU w v pre sv post els)
include hj
end
theorem cells_one (L : Lf) : ((([.g uh] : List A).map L.nA).all A.qJ) = true := by
 show ((uh.map L.nS).all S.qJ && true) = true
 rw [Bool.and_true]
 have h1 := jS L oM 0 rfl
 have h2 := jS L kT 10 rfl
 have up : ∀ {l : List S}, l.all S.one = true -> l.all S.qJ = true := fun {l} h => List.all_eq_true.2 fun x hx => by
  have := List.all_eq_true.1 h x hx
  cases x <;> first | exact this | rfl
 unfold uh
 rw [List.map_append, List.map_cons, List.all_append, List.all_cons, up h1, up h2]
 rfl
end Go.Proofs.YtglmonlofejcgaaGreatDoor.Am
