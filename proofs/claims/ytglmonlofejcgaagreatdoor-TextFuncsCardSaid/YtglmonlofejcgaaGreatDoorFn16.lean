/- The reference's Occurs and OccursJump answer with what has been counted. -/
import Derived.Test.YtglmonlofejcgaaGreatDoorFn15
set_option linter.unusedVariables false
set_option linter.unusedSectionVars false
set_option maxRecDepth 100000
namespace Go.Proofs.YtglmonlofejcgaaGreatDoor.Am
open Go.RowKit
def nZ (F : Nat -> Int) : Value := .agg ((List.range 16).map fun j => Value.int .i64 (F j)).toArray
theorem OB {b : Base} {cs : List S} {F : Nat -> Int} (h : ∀ j, j < 16 -> ∃ c, cs[j]? = some c /\ c.i64 b.rho = some (F j)) {us : List Value} {r : Ren} (hus : ak (@VS b r) cs us) (hl : cs.length = 16) : Value.agg us.toArray = nZ F := by
 unfold nZ
 congr 2
 refine List.ext_getElem? fun j => ?_
 have hlu := hus.len
 by_cases hj : j < 16
 ·obtain ⟨c, hc, e⟩ := h j hj
  obtain ⟨u, hu, hv⟩ := ak.nth hus (n := j) (x := c) (by rw [aK]; exact hc)
  rw [hu, List.getElem?_map, List.getElem?_range hj]
  exact congrArg some ((@i64_is b r c _ e u).1 hv)
 ·rw [List.getElem?_eq_none (by omega), List.getElem?_eq_none (by simp; omega)]
theorem uz {b : Base} {n : Nat} {F : Nat -> Int} (h : ∀ j, j < 16 -> b.rho (nm n j) = F j) (r : Ren) : @VA b r (.g (bJ n)) (nZ F) := by
 refine ⟨_, rfl, fC (by simp [bJ]) fun j x u hx hu => ?_⟩
 obtain ⟨hj, rfl⟩ := qH hx
 rw [List.getElem?_map, List.getElem?_range hj] at hu
 cases hu
 show Value.int .i64 _ = .int .i64 (b.rho (nm n j))
 rw [h j hj]
theorem uG {b : Base} {n : Nat} {F : Nat -> Int} (h : ∀ j, j < 16 -> b.rho (nm n j) = F j) {r : Ren} {u : Value} (hu : @VA b r (.g (bJ n)) u) : u = nZ F := by
 obtain ⟨us, rfl, hus⟩ := hu
 refine OB (fun j hj => ⟨.xi .i64 (nm n j), ?_, ?_⟩) hus (by simp [bJ])
 ·unfold bJ; rw [List.getElem?_map, List.getElem?_range hj]; rfl
 ·show some (b.rho (nm n j)) = _; rw [h j hj]
theorem J7 {b : Base} {F : Nat -> Int} (h : ∀ j, j < 16 -> F j = 0) {r : Ren} {u : Value} (hu : @VA b r (.g jg) u) : u = nZ F := by
 obtain ⟨us, rfl, hus⟩ := hu
 refine OB (fun j hj => ⟨.int .i64 0, ?_, ?_⟩) hus (by simp [jg])
 ·unfold jg; rw [List.getElem?_replicate, if_pos hj]
 ·show some (0 : Int) = _; rw [h j hj]
theorem ag6 {D : FnD} (q : At) (more : List Int) {e : E} (h : e.bd 9 = true) : (e.ren (8 + ·)).num (aF (aJ D q more)) = e.num (ah (D.blk q.i).pre) := by
 refine E.jY h fun j hj => ?_
 have e : aJ D q more = (zf D ++ [(q.i : Int), (q.i : Int) + 1, lK q.i D.bs.length, (D.blk q.i).st.length]) ++ (pR 9 (D.blk q.i).pre ++ ((((D.blk q.i).ops.length : Int) :: pR 3 (D.blk q.i).post) ++ (xsS D q ++ (xsO D q ++ (xsT D q ++ (xsC D q ++ more)))))) := by simp [aJ, xsB, a0P]
 rw [e]
 exact (jM (n := 8) rfl).trans (wS hj _)
theorem ams : aI (noT jmG) jmT (((Lf.of (ivU 16)).pin 0 2).pin 14 0) = true := by kernel_rfl
theorem am5 : (aI (noT jmG) jmT ((Lf.of (ivU 16)).hi 0 0) && aI (noT jmG) jmT ((Lf.of (ivU 16)).lo 0 6)) = true := by kernel_rfl
theorem am1 : (aI (noT jmG) jmT (((Lf.of (ivU 16)).lo 9 1).hi 0 3) && aI (noT jmG) jmT (((Lf.of (ivU 16)).lo 9 1).lo 0 5)) = true := by kernel_rfl
theorem Rz {w : World} {v : Value} {pre : List Value} {sv : Value} {post : List Value} {els : List (List Value)} (hj : eU w v pre sv post els) (h : okJ pre els post = true) :
  (ah pre 0 = 2 -> (bn 1).num (ah pre) = true) /\ (1 <= ah pre 0 /\ ah pre 0 <= 5) /\ (ah pre 0 ≠ 4 -> els = []) := by
 have hl := iI hj
 have lp := iD hj
 let us : List Value := aW pre els post ++ (lX pre els post).map (Value.int .i64)
 have hk : ak Kd.ok (kJ ++ [.i .i64, .i .i64, .i .i64]) us := (qP hj).app ⟨⟨_, rfl, by have := iY (els.all fun el => (bn 0).val el); show (-9223372036854775808 : Int) <= _; omega, by have := iY (els.all fun el => (bn 0).val el); show _ <= (9223372036854775807 : Int); omega⟩, ⟨_, rfl, by have := iY ((bn 1).val (aW pre els post)); show (-9223372036854775808 : Int) <= _; omega, by have := iY ((bn 1).val (aW pre els post)); show _ <= (9223372036854775807 : Int); omega⟩, ⟨_, rfl, by have := iY ((fU 10).val (aW pre els post)); show (-9223372036854775808 : Int) <= _; omega, by have := iY ((fU 10).val (aW pre els post)); show _ <= (9223372036854775807 : Int); omega⟩, trivial⟩
 have h0 : (Lf.of (ivU 16)).Holds (ah us) (fun _ => []) := KT hk rfl
 have ea : ∀ i, i < 13 -> ah us i = ah (aW pre els post) i := fun i hi => jQ (by omega)
 have ep : ∀ i, i < 9 -> ah us i = ah pre i := fun i hi => (ea i (by omega)).trans (by unfold aW; exact jQ (by omega))
 have eb : ∀ j m, (lX pre els post)[j]? = some m -> ah us (13 + j) = m := fun j m hm => by
  show ah (aW pre els post ++ _) _ = _
  rw [kH hl]
  unfold ah
  rw [List.getElem?_map, hm]
  rfl
 have e14 : ah us 14 = b2i ((bn 1).val (aW pre els post)) := eb 1 _ rfl
 have e15 : ah us 15 = b2i ((fU 10).val (aW pre els post)) := eb 2 _ rfl
 have idr : ∀ e : E, e.ren (fun i => i) = e := fun e => by
  induction e with
  | lt i c => rfl
  | zero l => simp [E.ren]
  | and a b ha hb => rw [E.ren, ha, hb]
  | or a b ha hb => rw [E.ren, ha, hb]
  | not a ha => rw [E.ren, ha]
 have sm : ∀ e : E, e.bd 13 = true -> e.num (ah us) = e.val (aW pre els post) := fun e he => by
  rw [E.jh]
  have := E.jY (f := fun i => i) he ea
  rwa [idr] at this
 have sp : ∀ e : E, e.bd 9 = true -> e.num (ah us) = e.num (ah pre) := fun e he => by
  have := E.jY (f := fun i => i) he ep
  rwa [idr] at this
 have one : ∀ i c, (isE i c).num (ah us) = decide (ah us i = c) := fun i c => by show (decide _ && true) = _; rw [Bool.and_true]
 have hg : ∀ p ∈ jmG, p.1.num (ah us) = p.2 := fun p hp => by
  simp only [jmG, List.mem_cons, List.not_mem_nil, or_false] at hp
  rcases hp with rfl | rfl | rfl
  ·unfold okJ at h
   rw [E.jh] at h
   exact h
  ·refine EC ?_
   rw [one, e14, made.fK, sm _ rfl]
  ·refine EC ?_
   rw [one, e15, made.fK, sm _ rfl]
 have c9 : ah us 9 = els.length := (ea 9 (by decide)).trans (iU hj)
 have c0 := ep 0 (by decide)
 have r4 := am5
 have r5 := am1
 rw [Bool.and_eq_true] at r4 r5
 refine ⟨fun h2 => ?_, ⟨?_, ?_⟩, fun h4 => ?_⟩
 ·rw [<- sp _ rfl, sm _ rfl]
  cases hb : (bn 1).val (aW pre els post) with
  | true => rfl
  | false =>
   rw [hb] at e14
   exact (cannot ams ((h0.pin (i := 0) (c := 2) (c0.trans h2)).pin (i := 14) (c := 0) e14) hg).elim
 ·apply Decidable.byContradiction; intro hc; exact cannot r4.1 (h0.hi (i := 0) (c := 0) (by omega)) hg
 ·apply Decidable.byContradiction; intro hc; exact cannot r4.2 (h0.lo (i := 0) (c := 6) (by omega)) hg
 ·apply Decidable.byContradiction
  intro hc
  have hlen : 1 <= els.length := by
   cases els with
   | nil => exact absurd rfl hc
   | cons x r => simp
  have h9 := h0.lo (i := 9) (c := 1) (by rw [c9]; omega)
  by_cases h3 : ah pre 0 <= 3
  ·exact cannot r5.1 (h9.hi (i := 0) (c := 3) (by omega)) hg
  ·exact cannot r5.2 (h9.lo (i := 0) (c := 5) (by omega)) hg
end Go.Proofs.YtglmonlofejcgaaGreatDoor.Am
namespace Go.Proofs.YtglmonlofejcgaaGreatDoor.occurs
open Go.RowKit Am
theorem fx {D : FnD} {q : At} : uj (Un Z T) (aF (aJ D q (more (D.stm q.i q.k)))) := by
 have l49 : aF (aJ D q (more (D.stm q.i q.k))) 49 = ah (D.stm q.i q.k) 25 := rfl
 have l46 : aF (aJ D q (more (D.stm q.i q.k))) 46 = ah (D.stm q.i q.k) 22 := rfl
 have l25 : aF (aJ D q (more (D.stm q.i q.k))) 25 = ah (D.stm q.i q.k) 1 := rfl
 have l41 : aF (aJ D q (more (D.stm q.i q.k))) 41 = ah (D.stm q.i q.k) 17 := rfl
 have l33 : aF (aJ D q (more (D.stm q.i q.k))) 33 = ah (D.stm q.i q.k) 9 := rfl
 have l38 : aF (aJ D q (more (D.stm q.i q.k))) 38 = ah (D.stm q.i q.k) 14 := rfl
 have b0 : ∀ j, 0 <= o0 j /\ o0 j <= 0 := fun j => ⟨Int.le_refl _, Int.le_refl _⟩
 have b1 := Cc (l := ah (D.stm q.i q.k) 1) b0
 have b2 := Cc (l := ah (D.stm q.i q.k) 9) b1
 refine UW (aQ D q _) (fun t ht => ?_) (fun t ht => ?_)
 ·unfold more at l49 l46 l25 |-
  simp only [Z, List.mem_cons, List.not_mem_nil, or_false] at ht
  rcases ht with rfl | rfl | rfl
  ·exact Il (N := 7) (n := 0) rfl (by rw [l49]; rfl) rfl rfl rfl
  ·exact Il (N := 7) (n := 2) rfl (by rw [l46]; rfl) rfl rfl rfl
  ·exact Il (N := 7) (n := 4) rfl (by rw [l25]; rfl) rfl rfl rfl
 ·unfold more at l41 l33 l38 |-
  simp only [T, List.mem_cons, List.not_mem_nil, or_false] at ht
  rcases ht with rfl | rfl | rfl | rfl
  ·exact jD (N := 7) (n := 6) rfl rfl (by rw [l41]; rfl) rfl (by rw [l41]; rfl) (by rw [l41]; rfl) b1 (by decide)
  ·exact jD (N := 7) (n := 8) rfl rfl (by rw [l33]; rfl) rfl (by rw [l33]; rfl) (by rw [l33]; rfl) b1 (by decide)
  ·exact jD (N := 7) (n := 10) rfl rfl (by rw [l38]; rfl) rfl (by rw [l38]; rfl) (by rw [l38]; rfl) b2 (by decide)
  ·exact jD (N := 7) (n := 12) rfl rfl (by rw [l38]; rfl) rfl (by rw [l38]; rfl) (by rw [l38]; rfl) b1 (by decide)
theorem ET (st : List Value) (s : Nat) (h0 : 1 <= s) (hs : s <= 7) : ∃ G, (rows st)[s - 1]? = some G /\ ∀ j, G j = cnt ((twos.fQ s).map (ah st)) j := by
 have h8 : s = 1 \/ s = 2 \/ s = 3 \/ s = 4 \/ s = 5 \/ s = 6 \/ s = 7 := by omega
 rcases h8 with rfl | rfl | rfl | rfl | rfl | rfl | rfl
 ·exact ⟨_, rfl, fun j => by simp [twos.fQ, cnt, acc, bump, o0]⟩
 ·exact ⟨_, rfl, fun j => by simp [twos.fQ, cnt, acc, bump, o0]⟩
 ·exact ⟨_, rfl, fun j => by simp [twos.fQ, cnt, acc, bump, o0]⟩
 ·exact ⟨_, rfl, fun j => by simp [twos.fQ, cnt, acc, bump, o0]⟩
 ·exact ⟨_, rfl, fun j => by simp [twos.fQ, cnt, acc, bump, o0]⟩
 ·exact ⟨_, rfl, fun j => by simp [twos.fQ, cnt, acc, bump, o0]; omega⟩
 ·exact ⟨_, rfl, fun j => by simp [twos.fQ, cnt, acc, bump, o0]⟩
section
variable {w : World} {v : Value} {D : FnD} (h : aT w v D)
include h
theorem Z5 (q : At) (m : List Int) (hi : q.i < D.bs.length) (hk : q.k < (D.blk q.i).st.length) : ak (@VA (fnB w D q m) r0) [.g kM] [.agg (D.stm q.i q.k).toArray] := by
 have hc := FC h hi hk m
 refine ⟨⟨_, rfl, fC hc.len fun i x u hx hu => ?_⟩, trivial⟩
 obtain ⟨u', hu', e⟩ := ak.nth hc (n := i) (x := x) (by rw [aK]; exact hx)
 rw [hu] at hu'
 cases hu'
 exact e r0
theorem a1f {i k : Nat} (hB : D.bs.length <= 1000) (hS : (D.blk i).st.length <= 1000) (hi : i < D.bs.length) (hk : k < (D.blk i).st.length) (hok : dJ.val (D.stm i k) = true) : bF f [.agg (D.stm i k).toArray] w (nZ (twos.qX (D.stm i k))) := by
 let q : At := made.atS i k
 have rg := fun c hc => Ee (BM h hi hk).1 hok (c := c) hc
 have hb : (Lf.of (fE ++ [])).Holds (aF (aJ D q (more (D.stm i k)))) (fun _ => []) := twos.eH h q (gU ⟨by show i <= 1000; omega, by show k <= 1000; omega, Nat.zero_le _, Nat.zero_le _⟩) _
 have nr : ∀ {L : Lf} {n c : Nat}, c ∈ [25, 1, 9, 14, 17, 22] -> aF (aJ D q (more (D.stm i k))) n = ah (D.stm i k) c -> L.Holds (aF (aJ D q (more (D.stm i k)))) (fun _ => []) -> (twos.kX L n).Holds (aF (aJ D q (more (D.stm i k)))) (fun _ => []) := fun {L n c} hc e hL => by
  obtain ⟨q1, q2⟩ := rg c hc
  exact (hL.lo (i := n) (c := 0) (by rw [e]; exact q1)).hi (i := n) (c := 15) (by rw [e]; exact q2)
 have hL : L1.Holds (aF (aJ D q (more (D.stm i k)))) (fun _ => []) := nr (n := 46) (c := 22) (by decide) rfl (nr (n := 41) (c := 17) (by decide) rfl (nr (n := 38) (c := 14) (by decide) rfl (nr (n := 33) (c := 9) (by decide) rfl (nr (n := 25) (c := 1) (by decide) rfl (nr (n := 49) (c := 25) (by decide) rfl hb)))))
 have := iW (b := fnB w D q (more (D.stm i k))) (w := w) (Nat.le_refl _) (fun _ _ => rfl) (bg (@aZ.nought (fnB w D q (more (D.stm i k))))) hL (fx (q := q)) (fun p hp => by
  obtain rfl := List.mem_singleton.1 hp
  exact (IE q _).trans hok) (Z5 h q _ hi hk) pG
 refine this.mono fun x w' ⟨u, r, e1, e2, e3⟩ => ⟨?_, e3⟩
 rw [e1]
 congr 1
 have eS : twos.je ((twos.wY.map twos.yA).map (E.num (fnB w D q (more (D.stm i k))).rho)) = twos.jO (D.stm i k) := by
  refine congrArg twos.je ?_
  rw [List.map_map]
  refine List.map_congr_left fun e he => yK q _ ?_
  simp only [twos.wY, List.mem_cons, List.not_mem_nil, or_false] at he
  rcases he with rfl | rfl | rfl | rfl | rfl | rfl <;> rfl
 unfold out at e2
 rw [eS] at e2
 have e2 : @VA (fnB w D q (more (D.stm i k))) r (.g (bif Nat.beq (twos.jO (D.stm i k)) 0 then jg else bJ (twos.jO (D.stm i k) - 1))) u := e2
 cases hs : Nat.beq (twos.jO (D.stm i k)) 0 with
 | true =>
  rw [hs, cond_true] at e2
  refine J7 (fun j hj => ?_) e2
  unfold twos.qX
  rw [Nat.eq_of_beq_eq_true hs]
  rfl
 | false =>
  rw [hs, cond_false] at e2
  have h1 : 1 <= twos.jO (D.stm i k) := by
   rcases Nat.eq_zero_or_pos (twos.jO (D.stm i k)) with e | e
   ·rw [e] at hs; cases hs
   ·exact e
  obtain ⟨G, g1, g2⟩ := ET (D.stm i k) _ h1 (twos.UR _)
  exact uG (fun j hj => (gI g1 hj).trans (g2 j)) e2
end
end Go.Proofs.YtglmonlofejcgaaGreatDoor.occurs
