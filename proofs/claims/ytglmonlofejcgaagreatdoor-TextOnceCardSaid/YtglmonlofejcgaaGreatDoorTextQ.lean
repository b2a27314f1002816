/- Lines of a text: none of them holds what ends a line; one text for each list of lines. In plain words. -/
import Derived.Test.YtglmonlofejcgaaGreatDoorTextX
open List renaming mem_cons_of_mem → apu, mem_cons_self → apv, mem_append → apw, mem_cons → apx, mem_singleton → apy, mem_map → apz, all_eq_true → apA
set_option linter.unusedVariables false
namespace Go.Proofs.YtglmonlofejcgaaGreatDoor
namespace txt
open Go.RowKit Am
def lu (l : List UInt8) : Prop := ∀ c ∈ l, c ≠ 10
theorem aee {p : UInt8 -> Bool} (hp : p 10 = false) {l : List UInt8} (h : l.all p = true) : lu l := fun c hc e => by
 have := apA.1 h c hc
 rw [e, hp] at this
 cases this
theorem an9 : lu [] := fun c hc => by cases hc
theorem dK {a b : List UInt8} (h : lu a) (k : lu b) : lu (a ++ b) := fun c hc => (apw.1 hc).elim (h c) (k c)
theorem rW {x : UInt8} {b : List UInt8} (h : x ≠ 10) (k : lu b) : lu (x :: b) := fun c hc => (apx.1 hc).elim (fun e => e ▸ h) (k c)
theorem gq {l : List UInt8} (h : l.all (fun c => !(c == 10)) = true) : lu l := aee (p := fun c => !(c == 10)) rfl h
theorem sG (n : Int) : lu (bM n) := aee (p := isNum) (by decide) (nJ n)
theorem uG (l : Int) (d : Bool) (f : Int) : lu (bn l d f) := aee (p := Iw) (by decide) (lY l d f)
theorem ED (o : Opd) : lu (opT o) := by
 unfold opT
 split
 ·exact sG _
 ·split
  ·exact dK (gq rfl) (uG _ _ _)
  ·exact dK (gq rfl) (uG _ _ _)
theorem amG (x : Int) : sgn x ≠ 10 := by
 unfold sgn
 repeat' split
 all_goals decide
theorem am9 (k bo : Int) : lu (Oj k bo) := by
 unfold Oj
 repeat' split
 all_goals exact gq rfl
theorem aoa (r : Rv) : lu (rvT r) := by
 unfold rvT
 split
 ·exact ED _
 ·split
  ·exact dK (ED _) (rW (by decide) (rW (amG _) (rW (by decide) (ED _))))
  ·split
   ·exact rW (by decide) (dK (ED _) (rW (by decide) (rW (by decide) (dK (ED _) (gq rfl)))))
   ·exact dK (am9 _ _) (uG _ _ _)
theorem ao6 (s : Stm) : lu (stT s) := by
 unfold stT
 split
 ·exact dK (uG _ _ _) (dK (gq rfl) (aoa _))
 ·split
  ·exact dK (gq rfl) (ED _)
  ·split
   ·exact dK (gq rfl) (ED _)
   ·exact dK (gq rfl) (uG _ _ _)
theorem a2B {sep : List UInt8} (hs : lu sep) : ∀ {l : List (List UInt8)}, (∀ x ∈ l, lu x) -> lu (iZ sep l)
 | [], _ => an9
 | [x], h => h x (apy.2 rfl)
 | x :: y :: r, h => by
  show lu (x ++ sep ++ iZ sep (y :: r))
  exact dK (dK (h x apv) hs) (a2B hs fun z hz => h z (apu _ hz))
theorem akc (pre : List Value) (els : List (List Value)) (post : List Value) : lu (kD pre els post) := by
 unfold kD
 split
 ·exact dK (gq rfl) (sG _)
 ·split
  ·exact dK (gq rfl) (dK (ED _) (dK (gq rfl) (dK (sG _) (dK (gq rfl) (sG _)))))
  ·split
   ·exact gq rfl
   ·split
    ·exact gq rfl
    ·refine dK (uG _ _ _) (dK (gq rfl) (dK (sG _) (dK (gq rfl) (dK (a2B (gq rfl) fun x hx => ?_) (dK (gq rfl) (sG _))))))
     obtain ⟨el, _, rfl⟩ := apz.1 hx
     exact ED _
theorem a1K (k : Int) : lu (QI k) := by unfold QI; split <;> exact gq rfl
theorem no_mark (k : Int) : lu (markT k) := by
 unfold markT
 repeat' split
 all_goals exact gq rfl
theorem alT (t : List Value) : lu (pI t) := by
 unfold pI
 split
 ·exact a1K _
 ·exact dK (no_mark _) (a1K _)
theorem ahx (n p : Int) (u : Bool) : lu (lN n p u) :=
 dK (gq rfl) (dK (sG _) (dK (gq rfl) (dK (sG _) (dK (gq rfl) (by cases u <;> exact gq rfl)))))
theorem ami (i : Nat) (t : List Value) : lu (GU i t) := rW (by decide) (dK (sG _) (dK (gq rfl) (alT _)))
theorem anx (i : Nat) : lu (bhT i) := rW (by decide) (dK (sG _) (gq rfl))
theorem am2 (el : List Value) : lu (stL el) := dK (gq rfl) (ao6 _)
theorem amI (b : bK) : lu (jmL b) := dK (gq rfl) (akc _ _ _)
theorem am8 (i : Nat) (b : bK) : ∀ l ∈ CG i b, lu l := fun l hl => by
 rcases apx.1 hl with rfl | hl
 ·exact anx _
 ·rcases apw.1 hl with hl | hl
  ·obtain ⟨s, _, rfl⟩ := apz.1 hl
   exact am2 _
  ·rw [apy.1 hl]; exact amI _
theorem Ld (D : FnD) (n : Int) : ∀ l ∈ lg D n, lu l := fun l hl => by
 rcases apx.1 hl with rfl | hl
 ·exact ahx _ _ _
 ·rcases apw.1 hl with hl | hl
  ·obtain ⟨k, _, rfl⟩ := apz.1 hl
   exact ami _ _
  ·obtain ⟨k, _, hl⟩ := List.mem_flatMap.1 hl
   exact am8 _ _ l hl
theorem agn {l : List UInt8} (h : lu l) : l.all (fun c => !(c == 10)) = true := apA.2 fun c hc => by simpa using h c hc
theorem a08 : ∀ {a b : List (List UInt8)}, (∀ l ∈ a, lu l) -> (∀ l ∈ b, lu l) -> nl a = nl b -> a = b
 | [], [], _, _, _ => rfl
 | [], m :: b, _, _, e => by rw [ET] at e; cases m <;> simp [nl] at e
 | l :: a, [], _, _, e => by rw [ET] at e; cases l <;> simp [nl] at e
 | l :: a, m :: b, ha, hb, e => by
  rw [ET, ET] at e
  obtain ⟨h1, h2⟩ := xO (p := fun c => !(c == 10)) (agn (ha l apv)) (agn (hb m apv)) (iK _ (by decide)) (iK _ (by decide)) e
  rw [h1, a08 (fun x hx => ha x (apu _ hx)) (fun x hx => hb x (apu _ hx)) (List.cons.inj h2).2]
end txt
end Go.Proofs.YtglmonlofejcgaaGreatDoor
