/- The reference's Occurs and OccursJump answer with what has been counted. The reference's OccursJump. The reference's block and Made, as the machine runs them. -/
import Derived.Test.YtglmonlofejcgaaGreatDoorFn15
set_option maxRecDepth 100000
noncomputable section
open List renaming mem_singleton → apu, mem_cons → apv, getElem?_map → apw, not_mem_nil → apx, getElem?_range → apy, getElem?_eq_none → apA, headD_cons → apD
open Nat renaming zero_le → apz, le_refl → apC
open Bool renaming and_true → apB
set_option linter.unusedVariables false
set_option linter.unusedSectionVars false
namespace Go.Proofs.YtglmonlofejcgaaGreatDoor
namespace Am
open Go.RowKit
def oZ (F : Nat -> Int) : Value := .agg ((List.range 16).map fun j => Value.int .i64 (F j)).toArray
theorem RJ {b : Base} {cs : List S} {F : Nat -> Int} (h : ∀ j, j < 16 -> ∃ c, cs[j]? = some c /\ c.i64 b.rho = some (F j)) {us : List Value} {r : Ren} (hus : ak (@VS b r) cs us) (hl : cs.length = 16) : Value.agg us.toArray = oZ F := by
 unfold oZ
 congr 2
 refine List.ext_getElem? fun j => ?_
 have hlu := hus.len
 by_cases hj : j < 16
 ·obtain ⟨c, hc, e⟩ := h j hj
  obtain ⟨u, hu, hv⟩ := ak.nth hus (n := j) (x := c) (by rw [aN]; exact hc)
  rw [hu, apw, apy hj]
  exact congrArg some ((@i64_is b r c _ e u).1 hv)
 ·rw [apA (by omega), apA (by simp; omega)]
theorem vH {b : Base} {n : Nat} {F : Nat -> Int} (h : ∀ j, j < 16 -> b.rho (nm n j) = F j) (r : Ren) : @VA b r (.g (bI n)) (oZ F) := by
 refine ⟨_, rfl, fZ (by simp [bI]) fun j x u hx hu => ?_⟩
 obtain ⟨hj, rfl⟩ := qJ hx
 rw [apw, apy hj] at hu
 cases hu
 show Value.int .i64 _ = .int .i64 (b.rho (nm n j))
 rw [h j hj]
theorem vU {b : Base} {n : Nat} {F : Nat -> Int} (h : ∀ j, j < 16 -> b.rho (nm n j) = F j) {r : Ren} {u : Value} (hu : @VA b r (.g (bI n)) u) : u = oZ F := by
 obtain ⟨us, rfl, hus⟩ := hu
 refine RJ (fun j hj => ⟨.xi .i64 (nm n j), ?_, ?_⟩) hus (by simp [bI])
 ·unfold bI; rw [apw, apy hj]; rfl
 ·show some (b.rho (nm n j)) = _; rw [h j hj]
theorem KF {b : Base} {F : Nat -> Int} (h : ∀ j, j < 16 -> F j = 0) {r : Ren} {u : Value} (hu : @VA b r (.g jw) u) : u = oZ F := by
 obtain ⟨us, rfl, hus⟩ := hu
 refine RJ (fun j hj => ⟨.int .i64 0, ?_, ?_⟩) hus (by simp [jw])
 ·unfold jw; rw [List.getElem?_replicate, if_pos hj]
 ·show some (0 : Int) = _; rw [h j hj]
theorem ajb {D : FnD} (q : At) (more : List Int) {e : E} (h : e.bd 9 = true) : (e.ren (8 + ·)).num (aF (aK D q more)) = e.num (ah (D.blk q.i).pre) := by
 refine E.jM h fun j hj => ?_
 have e : aK D q more = (Aa D ++ [(q.i : Int), (q.i : Int) + 1, mZ q.i D.bs.length, (D.blk q.i).st.length]) ++ (qI 9 (D.blk q.i).pre ++ ((((D.blk q.i).ops.length : Int) :: qI 3 (D.blk q.i).post) ++ (xsS D q ++ (xsO D q ++ (xsT D q ++ (xsC D q ++ more)))))) := by simp [aK, xsB, a2f]
 rw [e]
 exact (kC (n := 8) rfl).trans (yO hj _)
theorem ap7 : aJ (noT jmG) jmT (((Lf.of (ivU 16)).pin 0 2).pin 14 0) = true := by kernel_rfl
theorem apb : (aJ (noT jmG) jmT ((Lf.of (ivU 16)).hi 0 0) && aJ (noT jmG) jmT ((Lf.of (ivU 16)).lo 0 6)) = true := by kernel_rfl
theorem aoO : (aJ (noT jmG) jmT (((Lf.of (ivU 16)).lo 9 1).hi 0 3) && aJ (noT jmG) jmT (((Lf.of (ivU 16)).lo 9 1).lo 0 5)) = true := by kernel_rfl
theorem UR {w : World} {v : Value} {pre : List Value} {sv : Value} {post : List Value} {els : List (List Value)} (hj : dO w v pre sv post els) (h : okJ pre els post = true) :
  (ah pre 0 = 2 -> (aY 1).num (ah pre) = true) /\ (1 <= ah pre 0 /\ ah pre 0 <= 5) /\ (ah pre 0 ≠ 4 -> els = []) := by
 have hl := iF hj
 have lp := fH hj
 let us : List Value := aU pre els post ++ (lI pre els post).map (Value.int .i64)
 have hk : ak Kd.ok (kJ ++ [.i .i64, .i .i64, .i .i64]) us := (qj hj).app ⟨⟨_, rfl, by have := gI (els.all fun el => (aY 0).val el); show (-9223372036854775808 : Int) <= _; omega, by have := gI (els.all fun el => (aY 0).val el); show _ <= (9223372036854775807 : Int); omega⟩, ⟨_, rfl, by have := gI ((aY 1).val (aU pre els post)); show (-9223372036854775808 : Int) <= _; omega, by have := gI ((aY 1).val (aU pre els post)); show _ <= (9223372036854775807 : Int); omega⟩, ⟨_, rfl, by have := gI ((dS 10).val (aU pre els post)); show (-9223372036854775808 : Int) <= _; omega, by have := gI ((dS 10).val (aU pre els post)); show _ <= (9223372036854775807 : Int); omega⟩, trivial⟩
 have h0 : (Lf.of (ivU 16)).Holds (ah us) (fun _ => []) := Gw hk rfl
 have ea : ∀ i, i < 13 -> ah us i = ah (aU pre els post) i := fun i hi => jE (by omega)
 have ep : ∀ i, i < 9 -> ah us i = ah pre i := fun i hi => (ea i (by omega)).trans (by unfold aU; exact jE (by omega))
 have eb : ∀ j m, (lI pre els post)[j]? = some m -> ah us (13 + j) = m := fun j m hm => by
  show ah (aU pre els post ++ _) _ = _
  rw [kG hl]
  unfold ah
  rw [apw, hm]
  rfl
 have e14 : ah us 14 = b2i ((aY 1).val (aU pre els post)) := eb 1 _ rfl
 have e15 : ah us 15 = b2i ((dS 10).val (aU pre els post)) := eb 2 _ rfl
 have idr : ∀ e : E, e.ren (fun i => i) = e := fun e => by
  induction e with
  | lt i c => rfl
  | zero l => simp [E.ren]
  | and a b ha hb => rw [E.ren, ha, hb]
  | or a b ha hb => rw [E.ren, ha, hb]
  | not a ha => rw [E.ren, ha]
 have sm : ∀ e : E, e.bd 13 = true -> e.num (ah us) = e.val (aU pre els post) := fun e he => by
  rw [E.iR]
  have := E.jM (f := fun i => i) he ea
  rwa [idr] at this
 have sp : ∀ e : E, e.bd 9 = true -> e.num (ah us) = e.num (ah pre) := fun e he => by
  have := E.jM (f := fun i => i) he ep
  rwa [idr] at this
 have one : ∀ i c, (isE i c).num (ah us) = decide (ah us i = c) := fun i c => by show (decide _ && true) = _; rw [apB]
 have hg : ∀ p ∈ jmG, p.1.num (ah us) = p.2 := fun p hp => by
  simp only [jmG, apv, apx, or_false] at hp
  rcases hp with rfl | rfl | rfl
  ·unfold okJ at h
   rw [E.iR] at h
   exact h
  ·refine tX ?_
   rw [one, e14, made.eG, sm _ rfl]
  ·refine tX ?_
   rw [one, e15, made.eG, sm _ rfl]
 have c9 : ah us 9 = els.length := (ea 9 (by decide)).trans (jg hj)
 have c0 := ep 0 (by decide)
 have r4 := apb
 have r5 := aoO
 rw [Bool.and_eq_true] at r4 r5
 refine ⟨fun h2 => ?_, ⟨?_, ?_⟩, fun h4 => ?_⟩
 ·rw [<- sp _ rfl, sm _ rfl]
  cases hb : (aY 1).val (aU pre els post) with
  | true => rfl
  | false =>
   rw [hb] at e14
   exact (cannot ap7 ((h0.pin (i := 0) (c := 2) (c0.trans h2)).pin (i := 14) (c := 0) e14) hg).elim
 ·apply Decidable.byContradiction; intro hc; exact cannot r4.1 (h0.hi (i := 0) (c := 0) (by omega)) hg
 ·apply Decidable.byContradiction; intro hc; exact cannot r4.2 (h0.lo (i := 0) (c := 6) (by omega)) hg
 ·apply Decidable.byContradiction
  intro hc
  have hlen : 1 <= els.length := by
   cases els with
   | nil => exact absurd rfl hc
   | cons x r => simp
  have h9 := h0.lo (i := 9) (c := 1) (by rw [c9]; omega)
  by_cases h3 : ah pre 0 <= 3
  ·exact cannot r5.1 (h9.hi (i := 0) (c := 3) (by omega)) hg
  ·exact cannot r5.2 (h9.lo (i := 0) (c := 5) (by omega)) hg
end Am
namespace occurs
open Go.RowKit Am
theorem fx {D : FnD} {q : At} : vT (YL Z T) (aF (aK D q (more (D.stm q.i q.k)))) := by
 have l49 : aF (aK D q (more (D.stm q.i q.k))) 49 = ah (D.stm q.i q.k) 25 := rfl
 have l46 : aF (aK D q (more (D.stm q.i q.k))) 46 = ah (D.stm q.i q.k) 22 := rfl
 have l25 : aF (aK D q (more (D.stm q.i q.k))) 25 = ah (D.stm q.i q.k) 1 := rfl
 have l41 : aF (aK D q (more (D.stm q.i q.k))) 41 = ah (D.stm q.i q.k) 17 := rfl
 have l33 : aF (aK D q (more (D.stm q.i q.k))) 33 = ah (D.stm q.i q.k) 9 := rfl
 have l38 : aF (aK D q (more (D.stm q.i q.k))) 38 = ah (D.stm q.i q.k) 14 := rfl
 have b0 : ∀ j, 0 <= o0 j /\ o0 j <= 0 := fun j => ⟨Int.le_refl _, Int.le_refl _⟩
 have b1 := Dw (l := ah (D.stm q.i q.k) 1) b0
 have b2 := Dw (l := ah (D.stm q.i q.k) 9) b1
 refine Wx (aQ D q _) (fun t ht => ?_) (fun t ht => ?_)
 ·unfold more at l49 l46 l25 |-
  simp only [Z, apv, apx, or_false] at ht
  rcases ht with rfl | rfl | rfl
  ·exact JH (N := 7) (n := 0) rfl (by rw [l49]; rfl) rfl rfl rfl
  ·exact JH (N := 7) (n := 2) rfl (by rw [l46]; rfl) rfl rfl rfl
  ·exact JH (N := 7) (n := 4) rfl (by rw [l25]; rfl) rfl rfl rfl
 ·unfold more at l41 l33 l38 |-
  simp only [T, apv, apx, or_false] at ht
  rcases ht with rfl | rfl | rfl | rfl
  ·exact jG (N := 7) (n := 6) rfl rfl (by rw [l41]; rfl) rfl (by rw [l41]; rfl) (by rw [l41]; rfl) b1 (by decide)
  ·exact jG (N := 7) (n := 8) rfl rfl (by rw [l33]; rfl) rfl (by rw [l33]; rfl) (by rw [l33]; rfl) b1 (by decide)
  ·exact jG (N := 7) (n := 10) rfl rfl (by rw [l38]; rfl) rfl (by rw [l38]; rfl) (by rw [l38]; rfl) b2 (by decide)
  ·exact jG (N := 7) (n := 12) rfl rfl (by rw [l38]; rfl) rfl (by rw [l38]; rfl) (by rw [l38]; rfl) b1 (by decide)
theorem Hw (st : List Value) (s : Nat) (h0 : 1 <= s) (hs : s <= 7) : ∃ G, (rows st)[s - 1]? = some G /\ ∀ j, G j = cnt ((twos.gu s).map (ah st)) j := by
 have h8 : s = 1 \/ s = 2 \/ s = 3 \/ s = 4 \/ s = 5 \/ s = 6 \/ s = 7 := by omega
 rcases h8 with rfl | rfl | rfl | rfl | rfl | rfl | rfl
 ·exact ⟨_, rfl, fun j => by simp [twos.gu, cnt, acc, bump, o0]⟩
 ·exact ⟨_, rfl, fun j => by simp [twos.gu, cnt, acc, bump, o0]⟩
 ·exact ⟨_, rfl, fun j => by simp [twos.gu, cnt, acc, bump, o0]⟩
 ·exact ⟨_, rfl, fun j => by simp [twos.gu, cnt, acc, bump, o0]⟩
 ·exact ⟨_, rfl, fun j => by simp [twos.gu, cnt, acc, bump, o0]⟩
 ·exact ⟨_, rfl, fun j => by simp [twos.gu, cnt, acc, bump, o0]; omega⟩
 ·exact ⟨_, rfl, fun j => by simp [twos.gu, cnt, acc, bump, o0]⟩
section
variable {w : World} {v : Value} {D : FnD} (h : aV w v D)
include h
theorem a0J (q : At) (m : List Int) (hi : q.i < D.bs.length) (hk : q.k < (D.blk q.i).st.length) : ak (@VA (fnB w D q m) r0) [.g lM] [.agg (D.stm q.i q.k).toArray] := by
 have hc := FY h hi hk m
 refine ⟨⟨_, rfl, fZ hc.len fun i x u hx hu => ?_⟩, trivial⟩
 obtain ⟨u', hu', e⟩ := ak.nth hc (n := i) (x := x) (by rw [aN]; exact hx)
 rw [hu] at hu'
 cases hu'
 exact e r0
theorem a1I {i k : Nat} (hB : D.bs.length <= 1000) (hS : (D.blk i).st.length <= 1000) (hi : i < D.bs.length) (hk : k < (D.blk i).st.length) (hok : dn.val (D.stm i k) = true) : bG f [.agg (D.stm i k).toArray] w (oZ (twos.sK (D.stm i k))) := by
 let q : At := made.atS i k
 have rg := fun c hc => EI (Dk h hi hk).1 hok (c := c) hc
 have hb : (Lf.of (fJ ++ [])).Holds (aF (aK D q (more (D.stm i k)))) (fun _ => []) := twos.fE h q (iD ⟨by show i <= 1000; omega, by show k <= 1000; omega, apz _, apz _⟩) _
 have nr : ∀ {L : Lf} {n c : Nat}, c ∈ [25, 1, 9, 14, 17, 22] -> aF (aK D q (more (D.stm i k))) n = ah (D.stm i k) c -> L.Holds (aF (aK D q (more (D.stm i k)))) (fun _ => []) -> (twos.lV L n).Holds (aF (aK D q (more (D.stm i k)))) (fun _ => []) := fun {L n c} hc e hL => by
  obtain ⟨q1, q2⟩ := rg c hc
  exact (hL.lo (i := n) (c := 0) (by rw [e]; exact q1)).hi (i := n) (c := 15) (by rw [e]; exact q2)
 have hL : L1.Holds (aF (aK D q (more (D.stm i k)))) (fun _ => []) := nr (n := 46) (c := 22) (by decide) rfl (nr (n := 41) (c := 17) (by decide) rfl (nr (n := 38) (c := 14) (by decide) rfl (nr (n := 33) (c := 9) (by decide) rfl (nr (n := 25) (c := 1) (by decide) rfl (nr (n := 49) (c := 25) (by decide) rfl hb)))))
 have := jl (b := fnB w D q (more (D.stm i k))) (w := w) (apC _) (fun _ _ => rfl) (bD (@bg.nought (fnB w D q (more (D.stm i k))))) hL (fx (q := q)) (fun p hp => by
  obtain rfl := apu.1 hp
  exact (JJ q _).trans hok) (a0J h q _ hi hk) qF
 refine this.mono fun x w' ⟨u, r, e1, e2, e3⟩ => ⟨?_, e3⟩
 rw [e1]
 congr 1
 have eS : twos.jy ((twos.xQ.map twos.xM).map (E.num (fnB w D q (more (D.stm i k))).rho)) = twos.jZ (D.stm i k) := by
  refine congrArg twos.jy ?_
  rw [List.map_map]
  refine List.map_congr_left fun e he => zL q _ ?_
  simp only [twos.xQ, apv, apx, or_false] at he
  rcases he with rfl | rfl | rfl | rfl | rfl | rfl <;> rfl
 unfold out at e2
 rw [eS] at e2
 have e2 : @VA (fnB w D q (more (D.stm i k))) r (.g (bif Nat.beq (twos.jZ (D.stm i k)) 0 then jw else bI (twos.jZ (D.stm i k) - 1))) u := e2
 cases hs : Nat.beq (twos.jZ (D.stm i k)) 0 with
 | true =>
  rw [hs, cond_true] at e2
  refine KF (fun j hj => ?_) e2
  unfold twos.sK
  rw [Nat.eq_of_beq_eq_true hs]
  rfl
 | false =>
  rw [hs, cond_false] at e2
  have h1 : 1 <= twos.jZ (D.stm i k) := by
   rcases Nat.eq_zero_or_pos (twos.jZ (D.stm i k)) with e | e
   ·rw [e] at hs; cases hs
   ·exact e
  obtain ⟨G, g1, g2⟩ := Hw (D.stm i k) _ h1 (twos.Z4 _)
  exact vU (fun j hj => (gV g1 hj).trans (g2 j)) e2
end
end occurs
namespace occJump
open Go.RowKit Am
def f : FuncId := 82
def F : Func := Tryz.f82
def iG : Code := dW F 0
def keep : List (Nat × S) := [(1, .ptr 0 0), (2, .ptr 1 0), (3, .ptr 2 0)]
def hp (n : Nat) : Hp := [(2, ⟨bI n, true⟩), (1, ⟨jw, true⟩), (0, ⟨ni, true⟩)]
def hdA : St := ⟨iU F.ntmps (keep ++ [(4, .rv 4), (5, .xi .i64 50)]), ⟨hp 0, 3⟩⟩
def sNA : St := ⟨iU F.ntmps keep, ⟨hp 0, 3⟩⟩
def T : List Cnt := [⟨0, 1, 55, 109⟩]
def F9 : E := .not (isE 53 1)
def okN : E := (aY 0).ren (53 + ·)
def us : List Upd := isU (.xi .i64 50) (.xi .i64 51) :: og 0 [F9] (fun bs => bif bs.headD false then 1 else 0)
def LA : Lf := twos.lV (((Lf.of (fJ ++ [])).pin 6 1).pin 52 1) 55
def LA0 : Lf := ((Lf.of (fJ ++ [])).pin 6 1).pin 52 0
theorem EL : aJ (dU (dH iq (bW.app (iQ.app ahq)) aZ) f (UU T) [(okN, true)] us ⟨21, 0, 5⟩ iG hdA .normal hdA) (occurs.op4 53 .leaf) LA = true := by kernel_rfl
theorem N7 : aJ (dU (dH iq (bW.app iQ) aZ) f eU [] (iT 0 0) ⟨21, 0, 5⟩ iG hdA (.exit 0) sNA) .leaf LA0 = true := by kernel_rfl
def Zj : List a0D := [⟨2, 11, 125⟩]
def Tj : List Cnt := [⟨0, 1, 18, 127⟩]
def rowA (K : Know) : Loops := iW 5 ⟨21, 0, 5⟩ (@thU K (isU (.xi .i64 50) (.int .i64 0) :: qg 0)) hdA (.exit 0) sNA
def isB : E := isE 8 2
def brN : E := .and (isE 8 2) (.not (isE 9 1))
def caN : E := isE 8 4
def okA : E := imp (isE 8 2) ((aY 1).ren (8 + ·))
def out (bs : List Bool) : V := .a (.g (bif bs.headD false then bI 2 else bif (bs.drop 1).headD false then jw else bif (bs.drop 2).headD false then bI 1 else bI 0))
def tree : HT := .on 8 2 .leaf (.on 8 3 (occurs.op4 9 .leaf) (.on 8 4 .leaf (.on 8 5 .leaf .leaf)))
def LJ : Lf := twos.lV (twos.lV ((Lf.of (fJ ++ [])).pin 6 1) 11) 18
theorem qF : aJ (kX (dH iq (bW.app iQ) fun K => dR [(f, rowA K)]) f (YL Zj Tj) [(okA, true)] [brN, isB, caN] out [.g ni]) tree LJ = true := by kernel_rfl
theorem Va : fM (F.body.getD .skip) 0 5 = true := by kernel_rfl
def Vm (b : bK) (m : Nat) (j : Nat) : Int := acc (fun op => twos.yH op j) (b.ops.take m)
def LC (b : bK) (j : Nat) : Int := acc (fun op => twos.yH op j) b.ops
def oV (b : bK) (j : Nat) : Int := if ah b.pre 0 = 2 then (if ah b.pre 1 = 1 then 0 else bump occurs.o0 (ah b.pre 3) j) else if ah b.pre 0 = 4 then bump (LC b) (ah b.post 0) j else LC b j
def mA (D : FnD) (i m : Nat) : List Int := bU [Vm (D.blk i) m, bump (Vm (D.blk i) m) (ah (D.opd i m) 2)] ++ twos.uV (Vm (D.blk i) m) (ah (D.opd i m) 2)
def a8N (b : bK) : List (Nat -> Int) := [LC b, bump (LC b) (ah b.post 0), bump occurs.o0 (ah b.pre 3)]
def mJ (b : bK) : List Int := bU (a8N b) ++ ([0, 1] ++ twos.uV (LC b) (ah b.post 0))
theorem afi (l : List (List Value)) (j : Nat) : 0 <= acc (fun op => twos.yH op j) l /\ acc (fun op => twos.yH op j) l <= l.length := by
 have := sQ (fun op => twos.yH op j) 1 l fun x _ => gI _
 omega
section
variable {w : World} {v : Value} {D : FnD} (h : aV w v D)
include h
theorem a1j {i : Nat} (q : At) (hq : q.i = i) (m : List Int) (hi : i < D.bs.length) : ak (@VA (fnB w D q m) r0) [.g ni] [.agg ((D.blk i).pre ++ (D.blk i).a :: (D.blk i).post).toArray] := by
 have hc := GZ h hi q hq m
 refine ⟨⟨_, rfl, fZ hc.len fun n x u hx hu => ?_⟩, trivial⟩
 obtain ⟨u', hu', e⟩ := ak.nth hc (n := n) (x := x) (by rw [aN]; exact hx)
 rw [hu] at hu'
 cases hu'
 exact e r0
theorem args {i : Nat} (hi : i < D.bs.length) (hB : D.bs.length <= 1000) (hA : (D.blk i).ops.length <= 1000) (hok : ((D.blk i).ops.all fun el => (aY 0).val el) = true) : ∀ K (ok : aG K (fnB w D (atB i) (mJ (D.blk i))).rho (fnB w D (atB i) (mJ (D.blk i))).sig), @aO ((fnB w D (atB i) (mJ (D.blk i))).aH K ok) Tryz.prog (rowA K) iG := by
 intro K ok
 have fit : ∀ k, k <= (D.blk i).ops.length -> Fits D (made.atM i k) := fun k hk => iD ⟨by show i <= 1000; omega, apz _, by show k <= 1000; omega, apz _⟩
 have okk := (iJ (D.blk i).ops [] fun el => (aY 0).val el).2 hok
 have r0 : ∀ k b G, [Vm (D.blk i) k, bump (Vm (D.blk i) k) (ah (D.opd i k) 2)][b]? = some G -> ∀ j, j < 16 -> (fnB w D (made.atM i k) (mA D i k)).rho (nm b j) = G j := fun k b G e j hj => gV e hj
 have ub : ∀ u ∈ isU (.xi .i64 50) (.int .i64 0) :: qg 0, iI (fnB w D (atB i) (mJ (D.blk i))) (fnB w D (made.atM i 0) (mA D i 0)) u := fun u hu => by
  rcases apv.1 hu with rfl | hu
  ·exact dP fun r v hv => hv
  exact uX (fun j hj => r0 0 0 _ rfl j hj) u hu
 refine @dh _ _ (fun k => fnB w D (made.atM i k) (mA D i k)) iG _ _ hdA _ _ (fun e => by cases e) (D.blk i).ops.length (bJ (atB i) (made.atM i 0) rfl _ _) ub (fun k hk => ?_) ?_ 5 K ok
 ·have rg := MX (PD h hi hk).1 (okk k hk)
  have hfx : vT (UU T) (aF (aK D (made.atM i k) (mA D i k))) := by
   refine EW (aQ D _ _) fun t ht => ?_
   obtain rfl := apu.1 ht
   have l55 : aF (aK D (made.atM i k) (mA D i k)) 55 = ah (D.opd i k) 2 := rfl
   unfold mA at l55 |-
   refine jG (N := 2) (n := 0) (M := 1000) rfl rfl (by rw [l55]; rfl) rfl (by rw [l55]; rfl) (by rw [l55]; rfl) (fun j => ?_) (by decide)
   have := afi ((D.blk i).ops.take k) j
   have hl : ((D.blk i).ops.take k).length <= 1000 := by rw [List.length_take]; omega
   show 0 <= acc _ _ /\ acc _ _ <= (1000 : Int)
   omega
  refine bF EL (bD (@aW (fnB w D (made.atM i k) (mA D i k)) _ _ (aT h _ _) (@aW (fnB w D (made.atM i k) (mA D i k)) _ _ (dM h (q := made.atM i k) hi _) (Jv h (q := made.atM i k) hi hk _)))) (bJ (made.atM i k) (made.atM i (k + 1)) rfl _ _) (L := LA) ?_ hfx (fun p hp => ?_) (fun u hu => ?_) rfl (bC f iG)
  ·have hb := ((twos.fE h (made.atM i k) (fit k (by omega)) (mA D i k)).pin (i := 6) (c := 1) (show b2i (decide ((i : Int) < D.bs.length)) = 1 from (bY _).2 (by omega))).pin (i := 52) (c := 1) (show b2i (decide ((k : Int) < (D.blk i).ops.length)) = 1 from (bY _).2 (by omega))
   exact (hb.lo (i := 55) (c := 0) (show 0 <= ah (D.opd i k) 2 from rg.1)).hi (i := 55) (c := 15) (show ah (D.opd i k) 2 <= 15 from rg.2)
  ·obtain rfl := apu.1 hp
   exact (a2q (made.atM i k) _ (e := aY 0) rfl).trans ((E.iR _ _).symm.trans (okk k hk))
  ·have e53 : (fnB w D (made.atM i k) (mA D i k)).rho 53 = ah (D.opd i k) 0 := rfl
   have sa : ∀ j, Vm (D.blk i) (k + 1) j = Vm (D.blk i) k j + twos.yH (D.opd i k) j := fun j => by show acc _ _ = acc _ _ + _; rw [qW _ _ [] hk]; rfl
   rcases apv.1 hu with rfl | hu
   ·exact dP fun r v hv => hv
   refine dI (fun j hj => ?_) u hu
   have eN : F9.num (fnB w D (made.atM i k) (mA D i k)).rho = !decide (ah (D.opd i k) 0 = 1) := by
    show (!(decide (_ = (1 : Int)) && true)) = _
    rw [e53, apB]
   simp only [List.map_cons, List.map_nil, apD]
   rw [eN, r0 (k + 1) 0 _ rfl j hj, sa j]
   unfold twos.yH
   cases hp : (!decide (ah (D.opd i k) 0 = 1)) with
   | false => rw [cond_false, r0 k 0 _ rfl j hj, Bool.false_and]; show _ = _ + (0 : Int); omega
   | true => rw [cond_true, r0 k 1 _ rfl j hj, Bool.true_and]; rfl
 ·refine bF N7 (bD (@aW (fnB w D (made.atM i _) (mA D i _)) _ _ (aT h _ _) (dM h (q := made.atM i _) hi _))) (bJ (made.atM i (D.blk i).ops.length) (atB i) rfl _ _) (L := LA0) ?_ (aQ D _ _) (fun p hp => by cases hp) (fun u hu => ?_) rfl (bC f iG)
  ·exact ((twos.fE h _ (fit _ (apC _)) _).pin (i := 6) (c := 1) (show b2i (decide ((i : Int) < D.bs.length)) = 1 from (bY _).2 (by omega))).pin (i := 52) (c := 0) (show b2i (decide (((D.blk i).ops.length : Int) < (D.blk i).ops.length)) = 0 by rw [decide_eq_false (by omega)]; rfl)
  ·have rr := r0 (D.blk i).ops.length
   refine dI (fun j hj => ?_) u hu
   refine (rr 0 _ rfl j hj).trans ((show Vm (D.blk i) (D.blk i).ops.length j = LC (D.blk i) j by unfold Vm LC; rw [List.take_length]).trans ?_)
   exact (gV (D := D) (q := atB i) (fs := a8N (D.blk i)) (b := 0) rfl hj).symm
theorem Xh {i : Nat} (hi : i < D.bs.length) (hB : D.bs.length <= 1000) (hok : A8 (D.blk i) = true) : bG f [.agg ((D.blk i).pre ++ (D.blk i).a :: (D.blk i).post).toArray] w (oZ (oV (D.blk i))) := by
 have hj := vC h hi
 obtain ⟨⟨j1, j2⟩, ⟨j3, j4⟩, jo⟩ := Fp hj hok
 obtain ⟨m1, m2, m3⟩ := UR hj hok
 have hl8 : (D.blk i).ops.length <= 8 := F8 (fH hj) hok
 have ops : ((D.blk i).ops.all fun el => (aY 0).val el) = true := by
  rcases jo with e | e
  ·exact e
  ·rw [List.eq_nil_of_length_eq_zero e]; rfl
 have hb := (twos.fE h (atB i) (gX (by omega)) (mJ (D.blk i))).pin (i := 6) (c := 1) (show b2i (decide ((i : Int) < D.bs.length)) = 1 from (bY _).2 (by omega))
 have hL : LJ.Holds (aF (aK D (atB i) (mJ (D.blk i)))) (fun _ => []) := (((hb.lo (i := 11) (c := 0) j1).hi (i := 11) (c := 15) j2).lo (i := 18) (c := 0) j3).hi (i := 18) (c := 15) j4
 have l11 : aF (aK D (atB i) (mJ (D.blk i))) 11 = ah (D.blk i).pre 3 := rfl
 have l18 : aF (aK D (atB i) (mJ (D.blk i))) 18 = ah (D.blk i).post 0 := rfl
 have hfx : vT (YL Zj Tj) (aF (aK D (atB i) (mJ (D.blk i)))) := by
  unfold mJ at l11 l18 |-
  refine Wx (aQ D _ _) (fun t ht => ?_) (fun t ht => ?_)
  ·obtain rfl := apu.1 ht
   exact JH (N := 3) (n := 0) rfl (by rw [l11]; rfl) rfl rfl rfl
  ·obtain rfl := apu.1 ht
   refine jG (N := 3) (n := 2) (M := 1000) rfl rfl (by rw [l18]; rfl) rfl (by rw [l18]; rfl) (by rw [l18]; rfl) (fun j => ?_) (by decide)
   have := afi (D.blk i).ops j
   show 0 <= acc _ _ /\ acc _ _ <= (1000 : Int)
   omega
 have hR : jT Tryz.prog (dH iq (bW.app iQ) fun K => dR [(f, rowA K)]) (fnB w D (atB i) (mJ (D.blk i))) :=
  fK je (@aW (fnB w D (atB i) (mJ (D.blk i))) _ _ (aT h _ _) (dM h (q := atB i) hi _)) (rows_ok (T := fun K => [(f, rowA K)]) fun K ok p hp => by
   obtain rfl := apu.1 hp
   exact ⟨F, Tryz.func82, fun c hc => iM Va (args h hi hB (by omega) ops K ok) hc⟩)
 have e8 : (fnB w D (atB i) (mJ (D.blk i))).rho 8 = ah (D.blk i).pre 0 := rfl
 have e9 : (fnB w D (atB i) (mJ (D.blk i))).rho 9 = ah (D.blk i).pre 1 := rfl
 have isN : ∀ n c, (isE n c).num (fnB w D (atB i) (mJ (D.blk i))).rho = decide ((fnB w D (atB i) (mJ (D.blk i))).rho n = c) := fun n c => by show (decide _ && true) = _; rw [apB]
 have := jl (b := fnB w D (atB i) (mJ (D.blk i))) (w := w) (apC _) (fun _ _ => rfl) hR hL hfx (fun p hp => by
  obtain rfl := apu.1 hp
  show (!(isE 8 2).num _ || ((aY 1).ren (8 + ·)).num _) = true
  rw [isN, e8, show ((aY 1).ren (8 + ·)).num (fnB w D (atB i) (mJ (D.blk i))).rho = _ from ajb (atB i) _ (e := aY 1) rfl]
  by_cases h2 : ah (D.blk i).pre 0 = 2
  ·rw [show (D.blk (atB i).i) = D.blk i from rfl, m1 h2, Bool.or_true]
  ·rw [decide_eq_false h2]; rfl) (a1j h (atB i) rfl _ hi) qF
 refine this.mono fun x w' ⟨u, r, e1, e2, e3⟩ => ⟨?_, e3⟩
 rw [e1]
 congr 1
 have eb : brN.num (fnB w D (atB i) (mJ (D.blk i))).rho = (decide (ah (D.blk i).pre 0 = 2) && !decide (ah (D.blk i).pre 1 = 1)) := by
  show ((isE 8 2).num _ && !(isE 9 1).num _) = _
  rw [isN, isN, e8, e9]
 have ei : isB.num (fnB w D (atB i) (mJ (D.blk i))).rho = decide (ah (D.blk i).pre 0 = 2) := by unfold isB; rw [isN, e8]
 have ec : caN.num (fnB w D (atB i) (mJ (D.blk i))).rho = decide (ah (D.blk i).pre 0 = 4) := by unfold caN; rw [isN, e8]
 have rj : ∀ b G, (a8N (D.blk i))[b]? = some G -> ∀ j, j < 16 -> (fnB w D (atB i) (mJ (D.blk i))).rho (nm b j) = G j := fun b G e j hj => gV e hj
 unfold out at e2
 simp only [List.map_cons, List.map_nil, apD, List.drop_succ_cons, List.drop_zero] at e2
 rw [eb, ei, ec] at e2
 by_cases h2 : ah (D.blk i).pre 0 = 2
 ·by_cases h1 : ah (D.blk i).pre 1 = 1
  ·rw [decide_eq_true h2, decide_eq_true h1] at e2
   exact KF (fun j hj => by unfold oV; rw [if_pos h2, if_pos h1]) (show @VA (fnB w D (atB i) (mJ (D.blk i))) r (.g jw) u from e2)
  ·rw [decide_eq_true h2, decide_eq_false h1] at e2
   exact vU (fun j hj => (rj 2 _ rfl j hj).trans (by unfold oV; rw [if_pos h2, if_neg h1])) (show @VA (fnB w D (atB i) (mJ (D.blk i))) r (.g (bI 2)) u from e2)
 ·by_cases h4 : ah (D.blk i).pre 0 = 4
  ·rw [decide_eq_false h2, decide_eq_true h4] at e2
   exact vU (fun j hj => (rj 1 _ rfl j hj).trans (by unfold oV; rw [if_neg h2, if_pos h4])) (show @VA (fnB w D (atB i) (mJ (D.blk i))) r (.g (bI 1)) u from e2)
  ·rw [decide_eq_false h2, decide_eq_false h4] at e2
   exact vU (fun j hj => (rj 0 _ rfl j hj).trans (by unfold oV; rw [if_neg h2, if_neg h4])) (show @VA (fnB w D (atB i) (mJ (D.blk i))) r (.g (bI 0)) u from e2)
end
end occJump
namespace block
open Go.RowKit Am
def f : FuncId := 77
def F : Func := Tryz.f77
def mQ : Code := dW F 0
def keep : List (Nat × S) := [(2, .ptr 0 0), (3, .ptr 1 0)]
def hp : Hp := [(1, ⟨lJ, true⟩), (0, ⟨bT, true⟩)]
def hd : St := ⟨iU F.ntmps (keep ++ [(5, .xi .i64 21)]), ⟨hp, 2⟩⟩
def sN : St := ⟨iU F.ntmps keep, ⟨hp, 2⟩⟩
def sR : St := ⟨iU F.ntmps [(4, .bool false)], ⟨[], 2⟩⟩
def rV (b : Bool) : aS := kU 105 [.g lM] (mB b)
def rO : aS := kU occurs.f [.g lM] (.a (.g (bI 0)))
def rF (b : Bool) : aS := kU far.f [.g (bI 0), .s (.xi .i64 2)] (mB b)
def Gh (l : List aS) : Know -> aS := fun _ => Jp l
def L1 : Lf := ((Lf.of (fJ ++ [])).pin 6 1).pin 23 1
def L3 : Lf := ((Lf.of (fJ ++ [])).pin 6 1).pin 23 0
def turn (l : List aS) (tb : Tabs) (us : List Upd) (x : X) (s1 : St) : Lf -> Bool := dU (dH (Gh l) tb aZ) f eU [] us ⟨21, 0, 5⟩ mQ hd x s1
def tbI : Tabs := bW.app (iQ.app a6G)
theorem step : aJ (turn [rV true, rO, rF false] tbI [isU (.xi .i64 21) (.xi .i64 22)] .normal hd) .leaf L1 = true := by kernel_rfl
theorem adu : aJ (turn [rV false] tbI [] .ret sR) .leaf L1 = true := by kernel_rfl
theorem vF : aJ (turn [rV true, rO, rF true] tbI [] .ret sR) .leaf L1 = true := by kernel_rfl
theorem stop : aJ (turn [] (bW.app iQ) [] (.exit 0) sN) .leaf L3 = true := by kernel_rfl
def rVJ (b : Bool) : aS := kU 107 [.g ni] (mB b)
def rOJ : aS := kU occJump.f [.g ni] (.a (.g (bI 0)))
def row (x : X) (s1 : St) (K : Know) : Loops := iW 3 ⟨21, 0, 5⟩ (@thU K [isU (.xi .i64 21) (.int .i64 0)]) hd x s1
def tgE : E := .or (.or (isE 8 3) (isE 8 5)) (.and (isE 72 1) (.or (.not (isE 8 2)) (.or (isE 74 1) (isE 73 1))))
def fxB : Fx := ⟨[], { eU.xt with eq := (16, 15, 74) :: eU.xt.eq }⟩
def run (l : List aS) (x : X) (s1 : St) (es : List E) (g : List Bool -> V) : Lf -> Bool := kX (dH (Gh l) (bW.app iQ) fun K => dR [(f, row x s1 K)]) f fxB [] es g [.g bT, .g lJ]
def LB : Lf := (Lf.of (fJ ++ [])).pin 6 1
def b2 (i : Nat) (t : HT) : HT := .both i 1 t
def tgT : HT := .on 8 2 (b2 72 .leaf) (.on 8 3 (b2 72 (b2 74 (b2 73 .leaf))) (.on 8 4 .leaf (.on 8 5 (b2 72 .leaf) (.on 8 6 .leaf (b2 72 .leaf)))))
theorem aon : aJ (run [] .ret sR [] fun _ => V.s (.bool false)) .leaf LB = true := by kernel_rfl
theorem anf : aJ (run [rVJ false] (.exit 0) sN [] fun _ => V.s (.bool false)) .leaf LB = true := by kernel_rfl
theorem aod : aJ (run [rVJ true, rOJ, rF true] (.exit 0) sN [] fun _ => V.s (.bool false)) .leaf LB = true := by kernel_rfl
theorem aft : aJ (run [rVJ true, rOJ, rF false] (.exit 0) sN [tgE] fun bs => V.s (.bool (bs.headD false))) tgT LB = true := by kernel_rfl
theorem tag : fM (F.body.getD .skip) 0 3 = true := by kernel_rfl
end block
namespace madeR
open Go.RowKit Am
def f : FuncId := 42
def F : Func := Tryz.f42
def ig : Code := dW F 0
def uD : Code := dW F 1
def keep : List (Nat × S) := [(1, .ptr 0 0)]
def hp : Hp := [(0, ⟨bT, true⟩)]
def hdT : St := ⟨iU F.ntmps (keep ++ [(3, .xi .i64 58)]), ⟨hp, 1⟩⟩
def hdB : St := ⟨iU F.ntmps (keep ++ [(4, .xi .i64 4)]), ⟨hp, 1⟩⟩
def sN : St := ⟨iU F.ntmps keep, ⟨hp, 1⟩⟩
def sR : St := ⟨iU F.ntmps [(2, .bool false)], ⟨[], 1⟩⟩
def L1 : Lf := (Lf.of (fJ ++ [])).pin 60 1
def L3 : Lf := (Lf.of (fJ ++ [])).pin 60 0
def MS (tb : Tabs) (giv : List (E × Bool)) (us : List Upd) (x : X) (s1 : St) : Lf -> Bool := dU (dH iq tb aZ) f eU giv us ⟨4, 0, 3⟩ ig hdT x s1
theorem stepT : aJ (MS (bW.app Ub) [(head.okN, true)] [isU (.xi .i64 58) (.xi .i64 59)] .normal hdT) head.hTy L1 = true := by kernel_rfl
theorem afg : aJ (MS (bW.app Ub) [(head.okN, false)] [] .ret sR) head.hTy L1 = true := by kernel_rfl
theorem XK : aJ (MS bW [] [] (.exit 0) sN) .leaf L3 = true := by kernel_rfl
def rB (b : Bool) : Know -> aS := fun _ => kU block.f [.g bT, .g lJ] (mB b)
def acX (lib : Know -> aS) (tb : Tabs) (us : List Upd) (x : X) (s1 : St) : Lf -> Bool := dU (dH lib tb aZ) f eU [] us ⟨4, 0, 3⟩ uD hdB x s1
def LB1 : Lf := (Lf.of (fJ ++ [])).pin 6 1
def LB0 : Lf := (Lf.of (fJ ++ [])).pin 6 0
theorem aha : aJ (acX (rB true) (bW.app iQ) [isU (.xi .i64 4) (.xi .i64 5)] .normal hdB) .leaf LB1 = true := by kernel_rfl
theorem alo : aJ (acX (rB false) (bW.app iQ) [] .ret sR) .leaf LB1 = true := by kernel_rfl
theorem aop : aJ (acX iq bW [] (.exit 2) sN) .leaf LB0 = true := by kernel_rfl
def rowT (x : X) (s1 : St) (K : Know) : Loops := iW 5 ⟨4, 0, 3⟩ (@thU K [isU (.xi .i64 58) (.int .i64 0)]) hdT x s1
def rowB (x : X) (s1 : St) (K : Know) : Loops := iW 12 ⟨4, 0, 3⟩ (@thU K [isU (.xi .i64 4) (.int .i64 0)]) hdB x s1
def aoo (b : Bool) : Know -> aS := fun _ => kU many.fB [.g bT] (mB b)
def run (m : Bool) (tb : Tabs) (rows : Know -> List (FuncId × Loops)) (giv : List (E × Bool)) (es : List E) (g : List Bool -> V) : Lf -> Bool := kX (dH (aoo m) tb fun K => dR (rows K)) f eU giv es g [.g bT]
def guardE : E := ands [.not (.lt 2 1), .not (.lt 3 1), .not (.lt 0 0), .lt 0 9, isE 76 1]
def gT : HT := .by 2 1 .leaf (.by 3 1 .leaf (.by 0 0 .leaf (.by 0 9 (.both 76 1 .leaf) .leaf)))
def LG : Lf := Lf.of (fJ ++ [])
def LS : Lf := (((((Lf.of (fJ ++ [])).lo 2 1).lo 3 1).lo 0 0).hi 0 8).pin 76 1
theorem anI : aJ (run true bW (fun _ => []) [] [] fun _ => V.s (.bool false)) .leaf LG = true := by kernel_rfl
theorem anQ : aJ (run false bW (fun _ => []) [(guardE, false)] [] fun _ => V.s (.bool false)) gT LG = true := by kernel_rfl
theorem aft : aJ (run false bW (fun K => [(f, rowT .ret sR K)]) [] [] fun _ => V.s (.bool false)) .leaf LS = true := by kernel_rfl
theorem anR : aJ (run false (bW.app Ya) (fun K => [(f, rowT (.exit 0) sN K)]) [(head.okN, true), (isE 62 0, false)] [] fun _ => V.s (.bool false)) head.hTy LS = true := by kernel_rfl
theorem anb : aJ (run false (bW.app Ya) (fun K => [(f, rowT (.exit 0) sN K), (f, rowB .ret sR K)]) [(head.okN, true), (isE 62 0, true)] [] fun _ => V.s (.bool false)) head.hTy LS = true := by kernel_rfl
theorem qF : aJ (run false (bW.app Ya) (fun K => [(f, rowT (.exit 0) sN K), (f, rowB (.exit 2) sN K)]) [(head.okN, true), (isE 62 0, true)] [] fun _ => V.s (.bool true)) head.hTy LS = true := by kernel_rfl
theorem aan : fM (F.body.getD .skip) 0 5 = true := by kernel_rfl
theorem amm : fM (F.body.getD .skip) 1 12 = true := by kernel_rfl
end madeR
end Go.Proofs.YtglmonlofejcgaaGreatDoor
