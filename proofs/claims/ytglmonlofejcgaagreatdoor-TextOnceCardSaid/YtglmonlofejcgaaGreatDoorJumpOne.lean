/- Two jumps with the same text are the same jump; two statements likewise. In plain words. -/
import Derived.Test.YtglmonlofejcgaaGreatDoorJump7
import Derived.Test.YtglmonlofejcgaaGreatDoorUses45
set_option maxHeartbeats 1000000
set_option maxRecDepth 100000
open List renaming getElem?_eq_none → apu, getElem?_eq_getElem → apv, ext_getElem? → apw, all_eq_true → apx
set_option linter.unusedVariables false
set_option linter.unusedSectionVars false
namespace Go.Proofs.YtglmonlofejcgaaGreatDoor
namespace jumpOne
open Go.RowKit Am
section
variable {w : World} {v v' : Value} {pre pre' : List Value} {sv sv' : Value} {post post' : List Value} {els els' : List (List Value)} (hj : dO w v pre sv post els) (hk : dO w v' pre' sv' post' els')
include hj hk
theorem WY {a b : List Value} {ks : List Kd} (ha : ak Kd.ok ks a) (hb : ak Kd.ok ks b) (hs : (ks.all fun k => match k with | .s => false | _ => true) = true) (h : ∀ i, i < ks.length -> ah a i = ah b i) : a = b := by
 refine apw fun i => ?_
 by_cases hi : i < ks.length
 ·by_cases e : a[i]? = b[i]?
  ·exact e
  ·have hkf : ks[i]? = some ks[i] := apv hi
   have hns : ks[i] ≠ .s := fun q => by
    have := apx.1 hs _ (List.getElem_mem hi)
    rw [q] at this
    cases this
   exact absurd (h i hi) (a3E hj hk ha hb hkf hns e)
 ·have h1 := ha.len
  have h2 := hb.len
  rw [apu (by omega), apu (by omega)]
omit hk in
theorem UJ {i : Nat} (hi : i < 9) (hk : oK[i]? = some (.i .i64)) : I64 (ah pre i) := by
 obtain ⟨x, hx, n, hn, h0, h1⟩ := a1Y hj i hi hk
 subst hn
 unfold ah
 rw [hx]
 exact ⟨h0, h1⟩
theorem al3 {el : List Value} (hk : ak Kd.ok opK el) (h : (aY 0).val el = true) : (jh el 0).Ok := by
 have h1 : I64 (ah el 1) := by
  obtain ⟨x, hx, n, hn, h0, h1⟩ := ak.nth hk (n := 1) (x := .i .i64) rfl
  subst hn
  unfold ah
  rw [hx]
  exact ⟨h0, h1⟩
 have h4 : 0 <= ah el 4 := by
  obtain ⟨x, hx, n, hn, h0, h1⟩ := ak.nth hk (n := 4) (x := .i .u8) rfl
  subst hn
  unfold ah
  rw [hx]
  exact h0
 exact UE h h1 h4
theorem Y7 (h : okJ pre els post = true) : V7 pre els post := by
 have i6 := UJ hj (i := 6) (by decide) rfl
 have i7 := UJ hj (i := 7) (by decide) rfl
 have i8 := UJ hj (i := 8) (by decide) rfl
 rcases isJ hj h with ⟨k, _, _, _, l, _⟩ | ⟨k, a, _, _, _, l, _⟩ | ⟨k, _, l, _⟩ | ⟨k, _, _, _, _, l, d, o⟩
 ·exact ⟨by omega, i6, i7, i8, fun q => by omega, fun q => by omega, fun el he => by rw [l] at he; cases he⟩
 ·exact ⟨by omega, i6, i7, i8, fun _ => al3 hj hk ((hj.pre.drop 1).take 5) a, fun q => by omega, fun el he => by rw [l] at he; cases he⟩
 ·exact ⟨by omega, i6, i7, i8, fun q => by omega, fun q => by omega, fun el he => by rw [l] at he; cases he⟩
 ·refine ⟨by omega, i6, i7, i8, fun q => by omega, fun _ => UH d (amz hj), fun el he => ?_⟩
  obtain ⟨i, hi⟩ := List.getElem?_of_mem he
  exact al3 hj hk (hj.ops.kd i el hi) (apx.1 o el he)
theorem XY {a b : List Value} (ha : ak Kd.ok opK a) (hb : ak Kd.ok opK b) (e : jh a 0 = jh b 0) : a = b := by
 obtain ⟨a0, a1, a2, a3, a4, rfl⟩ := qM ha
 obtain ⟨b0, b1, b2, b3, b4, rfl⟩ := qM hb
 have e : (⟨a0, a1, a2, decide ((if a3 then (1 : Int) else 0) = 1), a4⟩ : Opd) = ⟨b0, b1, b2, decide ((if b3 then (1 : Int) else 0) = 1), b4⟩ := e
 simp only [Opd.mk.injEq] at e
 obtain ⟨rfl, rfl, rfl, e3, rfl⟩ := e
 have : a3 = b3 := by cases a3 <;> cases b3 <;> first | rfl | exact absurd e3 (by decide)
 rw [this]
theorem all_eq (h : okJ pre els post = true) (h' : okJ pre' els' post' = true) (e : kD pre els post = kD pre' els' post') : pre = pre' /\ post = post' /\ els = els' := by
 obtain ⟨k0, k7, k2, k4⟩ := ab1 (Y7 hj hk h) (Y7 hk hj h') e
 have preE : (∀ i, i < 9 -> ah pre i = ah pre' i) -> pre = pre' := fun q => WY hj hk hj.pre hk.pre rfl q
 have postE : (∀ i, i < 3 -> ah post i = ah post' i) -> post = post' := fun q => WY hj hk hj.post hk.post rfl q
 rcases isJ hj h with ⟨k, a, _, e8, l, d⟩ | ⟨k, a, f, _, _, l, d⟩ | ⟨k, a, l, d⟩ | ⟨k, a, f, _, e8, l, d, o⟩ <;>
  rcases isJ hk h' with ⟨k', a', _, e8', l', d'⟩ | ⟨k', a', f', _, _, l', d'⟩ | ⟨k', a', l', d'⟩ | ⟨k', a', f', _, e8', l', d', o'⟩ <;> (try (exfalso; omega))
 ·refine ⟨preE fun i hi => ?_, postE fun i hi => by rw [d i hi, d' i hi], by rw [l, l']⟩
  by_cases h0 : i = 0
  ·subst h0; exact k0
  ·by_cases h7 : i < 7
   ·have q1 := a (i - 1) (by omega); have q2 := a' (i - 1) (by omega)
    rw [show 1 + (i - 1) = i by omega] at q1 q2
    rw [q1, q2]
   ·by_cases h77 : i = 7
    ·subst h77; exact k7 (.inl k)
    ·obtain rfl : i = 8 := by omega
     rw [e8, e8']
 ·obtain ⟨q8, qa⟩ := k2 k
  have hA := XY hj hk ((hj.pre.drop 1).take 5) ((hk.pre.drop 1).take 5) qa
  refine ⟨preE fun i hi => ?_, postE fun i hi => by rw [d i hi, d' i hi], by rw [l, l']⟩
  by_cases h0 : i = 0
  ·subst h0; exact k0
  ·by_cases h6 : i < 6
   ·have q1 : ah ((pre.drop 1).take 5) (i - 1) = ah pre (1 + (i - 1)) := qm (by omega)
    have q2 : ah ((pre'.drop 1).take 5) (i - 1) = ah pre' (1 + (i - 1)) := qm (by omega)
    rw [show 1 + (i - 1) = i by omega] at q1 q2
    rw [<- q1, <- q2, hA]
   ·have : i = 6 \/ i = 7 \/ i = 8 := by omega
    rcases this with rfl | rfl | rfl
    ·rw [f, f']
    ·exact k7 (.inr (.inl k))
    ·exact q8
 ·refine ⟨preE fun i hi => ?_, postE fun i hi => by rw [d i hi, d' i hi], by rw [l, l']⟩
  by_cases h0 : i = 0
  ·subst h0; exact k0
  ·have q1 := a (i - 1) (by omega); have q2 := a' (i - 1) (by omega)
   rw [show 1 + (i - 1) = i by omega] at q1 q2
   rw [q1, q2]
 ·obtain ⟨q6, ⟨p0, p1, p2⟩, qe⟩ := k4 k
  have b1 := acK hj; have b2 := acK hk
  refine ⟨preE fun i hi => ?_, postE fun i hi => ?_, ?_⟩
  ·by_cases h0 : i = 0
   ·subst h0; exact k0
   ·by_cases h6 : i < 6
    ·have q1 := a (i - 1) (by omega); have q2 := a' (i - 1) (by omega)
     rw [show 1 + (i - 1) = i by omega] at q1 q2
     rw [q1, q2]
    ·have : i = 6 \/ i = 7 \/ i = 8 := by omega
     rcases this with rfl | rfl | rfl
     ·exact q6
     ·exact k7 (.inr (.inr k))
     ·rw [e8, e8']
  ·have : i = 0 \/ i = 1 \/ i = 2 := by omega
   rcases this with rfl | rfl | rfl
   ·exact p0
   ·rcases b1 with q1 | q1 <;> rcases b2 with q2 | q2 <;> rw [q1, q2] at p1 |- <;> exact absurd p1 (by decide)
   ·exact p2
  ·have hl : els.length = els'.length := by have := congrArg List.length qe; simpa using this
   refine apw fun i => ?_
   by_cases hi : i < els.length
   ·have ha : els[i]? = some els[i] := apv hi
    have hb : els'[i]? = some (els'[i]'(by omega)) := apv _
    have q := congrArg (fun m => m[i]?) qe
    simp only [List.getElem?_map, ha, hb, Option.map_some, Option.some.injEq] at q
    rw [ha, hb, XY hj hk (hj.ops.kd i _ ha) (hk.ops.kd i _ hb) q]
   ·rw [apu (by omega), apu (by omega)]
end
theorem Nu : ∀ {ks : List Kd} {a b : List Value}, ak Kd.ok ks a -> ak Kd.ok ks b -> (ks.all fun k => match k with | .s => false | _ => true) = true -> (∀ i, i < ks.length -> ah a i = ah b i) -> a = b
 | [], [], [], _, _, _, _ => rfl
 | [], _ :: _, _, h, _, _, _ => h.elim
 | [], [], _ :: _, _, h, _, _ => h.elim
 | _ :: _, [], _, h, _, _, _ => h.elim
 | _ :: _, _ :: _, [], _, h, _, _ => h.elim
 | k :: ks, x :: a, y :: b, ha, hb, hs, h => by
  have h0 : bf x = bf y := h 0 (Nat.succ_pos _)
  have ht : a = b := Nu ha.2 hb.2 (by simp only [List.all_cons, Bool.and_eq_true] at hs; exact hs.2) fun i hi => h (i + 1) (Nat.succ_lt_succ hi)
  have hk : x = y := by
   have ka := ha.1
   have kb := hb.1
   cases k with
   | s => simp at hs
   | b =>
    obtain ⟨p, rfl⟩ := ka
    obtain ⟨q, rfl⟩ := kb
    cases p <;> cases q <;> first | rfl | exact absurd h0 (by decide)
   | i kd =>
    obtain ⟨p, rfl, _⟩ := ka
    obtain ⟨q, rfl, _⟩ := kb
    have e : p = q := h0
    rw [e]
  rw [hk, ht]
theorem am0 {us vs : List Value} (hu : ak Kd.ok kSt us) (hv : ak Kd.ok kSt vs) (e : uz us = uz vs) : us = vs :=
 Nu hu hv (by decide) ((anV hu hv).1 e)
theorem aki {us vs : List Value} (hu : ak Kd.ok kSt us) (hv : ak Kd.ok kSt vs) (h : dn.val us = true) (k : dn.val vs = true) (e : stT (uz us) = stT (uz vs)) : us = vs :=
 am0 hu hv (amD (aa0 h hu).1 (aa0 k hv).1 e)
end jumpOne
end Go.Proofs.YtglmonlofejcgaaGreatDoor
