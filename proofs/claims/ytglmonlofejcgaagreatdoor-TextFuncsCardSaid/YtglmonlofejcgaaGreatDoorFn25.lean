/- once answers; the reference's Check, as the machine runs it. What the reference's Check answers. -/
import Derived.Test.YtglmonlofejcgaaGreatDoorFn23
set_option linter.unusedVariables false
set_option linter.unusedSectionVars false
set_option maxRecDepth 100000
namespace Go.Proofs.YtglmonlofejcgaaGreatDoor.onceR
open Go.RowKit Am
open twos (Ct)
section
variable {w : World} {v : Value} {D : FnD} (h : aT w v D)
include h
theorem outer (hs : twos.Sm D) (hok : ∀ b ∈ D.bs, made.okB b = true) {t : Nat} (ht : t < 16) : ∀ K (ok : aG K (fnB w D (atB 0) (mF D t)).rho (fnB w D (atB 0) (mF D t)).sig), @aO ((fnB w D (atB 0) (mF D t)).aH K ok) Tryz.prog (Oi t K) fM := by
 intro K ok
 have hn := hs.b
 have okb : ∀ i, i < D.bs.length -> ((D.blk i).st.all fun st => dJ.val st) = true /\ zi (D.blk i) = true := fun i hi => by
  have := hok _ (twos.kW hi)
  unfold made.okB at this
  rwa [Bool.and_eq_true] at this
 have hfP : fP ≠ f := by decide
 have inat : ∀ i, i < D.bs.length -> (Ct.at D i).In 24000 := fun i hi => twos.In.more (twos.In.at hs (by omega)) (by omega)
 have jf := fun i (hi : i < D.bs.length) => DX (uq h hi) (okb i hi).2
 have jmr := fun i (hi : i < D.bs.length) => Rz (uq h hi) (okb i hi).2
 have opsok : ∀ i, i < D.bs.length -> ((D.blk i).ops.all fun el => (bn 0).val el) = true := fun i hi => by
  rcases (jf i hi).2.2 with e | e
  ·exact e
  ·rw [List.eq_nil_of_length_eq_zero e]; rfl
 have sml : ∀ i, i < D.bs.length -> (D.blk i).st.length <= 24 /\ (D.blk i).ops.length <= 8 := fun i hi => hs.s _ (twos.kW hi)
 have rI : ∀ i (hi : i < D.bs.length) K (ok : aG K (fnB w D (atB i) (mO D t i)).rho (fnB w D (atB i) (mO D t i)).sig), @aO ((fnB w D (atB i) (mO D t i)).aH K ok) Tryz.prog (mD t K) aY := fun i hi =>
  inner h ht hi (by omega) (by have := (sml i hi).1; omega) (okb i hi).1 (inat i hi)
 have rA : ∀ i (hi : i < D.bs.length) K (ok : aG K (fnB w D (atB i) (mO D t i)).rho (fnB w D (atB i) (mO D t i)).sig), @aO ((fnB w D (atB i) (mO D t i)).aH K ok) Tryz.prog (rowA t K) iy := fun i hi =>
  args h ht hi (by omega) (by have := (sml i hi).2; omega) (opsok i hi)
 have n93 : ∀ i, (fnB w D (atB i) (mO D t i)).rho 93 = (Ct.at D i).s t := fun i => kD 0
 have n94 : ∀ i, (fnB w D (atB i) (mO D t i)).rho 94 = (Ct.at D i).p t := fun i => kD 1
 have n95 : ∀ i, (fnB w D (atB i) (mO D t i)).rho 95 = (Ct.at D i).a t := fun i => kD 2
 have n96 : ∀ i, (fnB w D (atB i) (mO D t i)).rho 96 = ((Ct.at D i).stm (D.blk i).st).s t := fun i => kD 3
 have n97 : ∀ i, (fnB w D (atB i) (mO D t i)).rho 97 = ((Ct.at D i).stm (D.blk i).st).p t := fun i => kD 4
 have n98 : ∀ i, (fnB w D (atB i) (mO D t i)).rho 98 = ((Ct.at D i).stm (D.blk i).st).a t := fun i => kD 5
 have n99 : ∀ i, (fnB w D (atB i) (mO D t i)).rho 99 = ((Ct.at D i).stm (D.blk i).st).a t + occJump.nN (D.blk i) t := fun i => kD 6
 have n100 : ∀ i, (fnB w D (atB i) (mO D t i)).rho 100 = ((Ct.at D i).stm (D.blk i).st).p t + aP (D.blk i) t := fun i => kD 7
 have n101 : ∀ i, (fnB w D (atB i) (mO D t i)).rho 101 = aP (D.blk i) t := fun i => kD 8
 refine @cZ _ _ (fun i => fnB w D (atB i) (mO D t i)) fM _ _ (hdO t) _ _ (fun e => by cases e) D.bs.length (bM _ _ _ _) (fun u hu => ?_) (fun i hi => ?_) ?_ 6 K ok
 ·simp only [List.mem_cons, List.not_mem_nil, or_false] at hu
  rcases hu with rfl | rfl | rfl | rfl
  ·exact dN fun r v hv => hv
  ·exact Ih (n93 0)
  ·exact Ih (n94 0)
  ·exact Ih (n95 0)
 ·have hO : ∀ K (ok : aG K (fnB w D (atB i) (mO D t i)).rho (fnB w D (atB i) (mO D t i)).sig), @Sound ((fnB w D (atB i) (mO D t i)).aH K ok) Tryz.prog rOJ :=
   Em h ⟨_, Tryz.func82, by kernel_rfl, by kernel_rfl⟩ (occJump.YB h (atB i) rfl _ hi) (by rfl) fun w' hw => occJump.Vb hw hi (by omega) (okb i hi).2
  have sl := sml i hi
  have bj := block.a01 (D.blk i) (by omega) t
  have hstm := twos.In.stm (inat i hi) (D.blk i).st
  have ba := hstm.a t
  have bp := hstm.p t
  have bP : 0 <= aP (D.blk i) t /\ aP (D.blk i) t <= 1000 := by
   have := rD (fun op => twos.qY op t) 1 (D.blk i).ops fun x _ => iY _
   unfold aP
   omega
  refine bG (List.all_eq_true.1 aez t (List.mem_range.2 ht)) (fG hO (@aV (fnB w D (atB i) (mO D t i)) _ _ (aU h _ _) (dL h (q := atB i) hi _)) (rows_ok (T := fun K => [(f, mD t K), (fP, rowA t K)]) fun K ok p hp => ?_)) (bM _ _ _ _) (L := LO) ?_ ?_ (fun p hp => by cases hp) (fun u hu => ?_) rfl (fun K ok => oP (F := F) (cc := fM) fun p hp e => ?_)
  ·simp only [List.mem_cons, List.not_mem_nil, or_false] at hp
   rcases hp with rfl | rfl
   ·exact ⟨F, Tryz.func44, fun c hc => iF Ep (rI i hi K ok) hc⟩
   ·exact ⟨FP, Tryz.func80, fun c hc => iF RX (rA i hi K ok) hc⟩
  ·exact (twos.eH h (atB i) (gG (by omega)) _).pin (i := 6) (c := 1) (show b2i (decide ((i : Int) < D.bs.length)) = 1 from (bY _).2 (by omega))
  ·have h0 := aQ D (atB i) (mO D t i)
   refine ⟨fun a c b hm => (by cases hm), ⟨h0.xt.lf, fun a b c hm => ?_, h0.xt.ld, h0.xt.sr, h0.xt.eq⟩⟩
   have hm : (a, b, c) ∈ [(98, nm 0 t, 99), (97, 101, 100)] := hm
   simp only [List.mem_cons, List.not_mem_nil, or_false, Prod.mk.injEq] at hm
   rcases hm with ⟨rfl, rfl, rfl⟩ | ⟨rfl, rfl, rfl⟩
   ·rw [show aF (aJ D (atB i) (mO D t i)) 98 = _ from n98 i, show aF (aJ D (atB i) (mO D t i)) 99 = _ from n99 i, show aF (aJ D (atB i) (mO D t i)) (nm 0 t) = _ from akH ht]
    exact ⟨rfl, by show (-9223372036854775808 : Int) <= _; omega, by show _ <= (9223372036854775807 : Int); omega⟩
   ·rw [show aF (aJ D (atB i) (mO D t i)) 97 = _ from n97 i, show aF (aJ D (atB i) (mO D t i)) 100 = _ from n100 i, show aF (aJ D (atB i) (mO D t i)) 101 = _ from n101 i]
    exact ⟨rfl, by show (-9223372036854775808 : Int) <= _; omega, by show _ <= (9223372036854775807 : Int); omega⟩
  ·obtain ⟨ja, jp, js⟩ := a7k h (D.blk i) ((Ct.at D i).stm (D.blk i).st) t (jmr i hi).2.2
   have hsucc : Ct.at D (i + 1) = ((Ct.at D i).stm (D.blk i).st).jmp (D.blk i) := twos.Ie hi
   simp only [usO, List.mem_cons, List.not_mem_nil, or_false] at hu
   rcases hu with rfl | rfl | rfl | rfl
   ·exact dN fun r v hv => hv
   ·exact su ((n96 i).trans (by rw [n93 (i + 1), hsucc, js]))
   ·refine I9 ?_
    have e8 : (fnB w D (atB i) (mO D t i)).rho 8 = ah (D.blk i).pre 0 := rfl
    have eN : (isE 8 4).num (fnB w D (atB i) (mO D t i)).rho = decide (ah (D.blk i).pre 0 = 4) := by
     show (decide (_ = (4 : Int)) && true) = _
     rw [e8, Bool.and_true]
    rw [eN, n94 (i + 1), hsucc, jp, n100 i, n97 i]
   ·exact su ((n99 i).trans (by rw [n95 (i + 1), hsucc, ja]))
  ·simp only [List.mem_cons, List.not_mem_nil, or_false] at hp
   rcases hp with rfl | rfl
   ·exact qy Rw (rI i hi K ok)
   ·exact absurd e hfP
 ·have e : Ct.at D D.bs.length = Ct.fn D := by unfold Ct.at Ct.fn; rw [List.take_length]
  have f93 : (fnB w D (atB 0) (mF D t)).rho 93 = (Ct.fn D).s t := kD 0
  have f94 : (fnB w D (atB 0) (mF D t)).rho 94 = (Ct.fn D).p t := kD 1
  have f95 : (fnB w D (atB 0) (mF D t)).rho 95 = (Ct.fn D).a t := kD 2
  refine bG (List.all_eq_true.1 acR t (List.mem_range.2 ht)) (bg (aU h _ _)) (bM _ _ _ _) (L := LO0) ?_ (aQ D _ _) (fun p hp => by cases hp) (fun u hu => ?_) rfl (bf f fM)
  ·exact (twos.eH h (atB D.bs.length) (gG (by omega)) _).pin (i := 6) (c := 0) (show b2i (decide ((D.bs.length : Int) < D.bs.length)) = 0 by rw [decide_eq_false (by omega)]; rfl)
  ·simp only [List.mem_cons, List.not_mem_nil, or_false] at hu
   rcases hu with rfl | rfl | rfl
   ·exact su ((n93 _).trans (by rw [e, f93]))
   ·exact su ((n94 _).trans (by rw [e, f94]))
   ·exact su ((n95 _).trans (by rw [e, f95]))
theorem a07 (hs : twos.Sm D) (t : Nat) : LF.Holds (aF (aJ D (atB 0) (mF D t))) (fun _ => []) := by
 have hc := twos.aiS h hs
 have a := hc.a t
 have p := hc.p t
 have s := hc.s t
 have : ak InI (List.replicate 16 twos.Hy ++ List.replicate 3 twos.Hy) (mF D t) :=
  fZ (a := List.replicate 16 twos.Hy) (b := bU [fun _ => 0]) (fZ (a := List.replicate 16 twos.Hy) (c := []) (twos.qm fun j => ⟨by decide, by decide⟩) trivial)
   ⟨by show (-9223372036854775808 : Int) <= _ /\ _ <= (9223372036854775807 : Int); omega, by show (-9223372036854775808 : Int) <= _ /\ _ <= (9223372036854775807 : Int); omega, by show (-9223372036854775808 : Int) <= _ /\ _ <= (9223372036854775807 : Int); omega, trivial⟩
 have := kQ h (q := atB 0) (gG (by omega)) this (m2 := []) (fun _ => [])
 rwa [List.append_nil] at this
theorem ae7 (hs : twos.Sm D) (hok : ∀ b ∈ D.bs, made.okB b = true) {t : Nat} (ht : t < 16) : bF f [v, .int .i64 t] w (.bool (Qm D t)) := by
 have hva : ak (@VA (fnB w D (atB 0) (mF D t)) r0) [.g bQ, .s (lit t)] [v, .int .i64 t] := ⟨xI h (atB 0) _ r0, rfl, trivial⟩
 unfold Qm
 by_cases hp : D.p < t
 ·rw [decide_eq_true hp, Bool.true_and]
  have hR : jG Tryz.prog (dH gZ bW fun K => dP [(f, Oi t K)]) (fnB w D (atB 0) (mF D t)) := fG iR (aU h _ _) (rows_ok (T := fun K => [(f, Oi t K)]) fun K ok p hp => by
   obtain rfl := List.mem_singleton.1 hp
   exact ⟨F, Tryz.func44, fun c hc => iF UU (outer h hs hok ht K ok) hc⟩)
  have := iW (b := fnB w D (atB 0) (mF D t)) (w := w) (Nat.le_refl _) (fun _ _ => rfl) hR ((a07 h hs t).hi (i := 0) (c := (t : Int) - 1) (show D.p <= (t : Int) - 1 by omega)) (aQ D _ _) (fun p hp => by cases hp) hva (List.all_eq_true.1 afp t (List.mem_range.2 ht))
  have e : abb.num (fnB w D (atB 0) (mF D t)).rho = (decide ((Ct.fn D).s t = 1) && (decide ((Ct.fn D).p t = 1) && decide ((Ct.fn D).a t = 2))) := by
   have f93 : (fnB w D (atB 0) (mF D t)).rho 93 = (Ct.fn D).s t := kD 0
   have f94 : (fnB w D (atB 0) (mF D t)).rho 94 = (Ct.fn D).p t := kD 1
   have f95 : (fnB w D (atB 0) (mF D t)).rho 95 = (Ct.fn D).a t := kD 2
   show ((decide (_ = (1 : Int)) && true) && ((decide (_ = (1 : Int)) && true) && (decide (_ = (2 : Int)) && true))) = _
   rw [f93, f94, f95, Bool.and_true, Bool.and_true, Bool.and_true]
  refine bF.of (b := fnB w D (atB 0) (mF D t)) (v := V.s (.bool (abb.num (fnB w D (atB 0) (mF D t)).rho))) (fun r x hx => ?_) this
  rw [e] at hx
  exact hx
 ·rw [decide_eq_false hp, Bool.false_and]
  have := iW (b := fnB w D (atB 0) (mF D t)) (w := w) (Nat.le_refl _) (fun _ _ => rfl) (bg (aU h (atB 0) (mF D t))) ((a07 h hs t).lo (i := 0) (c := (t : Int)) (show (t : Int) <= D.p by omega)) (aQ D _ _) (fun p hp => by cases hp) hva (List.all_eq_true.1 agz t (List.mem_range.2 ht))
  exact bF.of (b := fnB w D (atB 0) (mF D t)) (v := V.s (.bool false)) (fun r x hx => hx) this
end
end Go.Proofs.YtglmonlofejcgaaGreatDoor.onceR
namespace Go.Proofs.YtglmonlofejcgaaGreatDoor.refC
open Go.RowKit Am
noncomputable def f : FuncId := 24
noncomputable def F : Func := Tryz.f24
noncomputable def gQ : Code := dS F 0
noncomputable def fr3 : List (Nat × S) := [(1, .ptr 0 0), (2, .int .i64 0), (3, .ptr 1 0)]
def hp : Hp := [(1, ⟨jW 0, true⟩), (0, ⟨bQ, true⟩)]
noncomputable def hdT (t : Nat) : St := ⟨iM F.ntmps (fr3 ++ [(4, .int .i64 t)]), ⟨hp, 2⟩⟩
noncomputable def sN : St := ⟨iM F.ntmps fr3, ⟨hp, 2⟩⟩
noncomputable def sR : St := ⟨iM F.ntmps [(2, .int .i64 12)], ⟨[], 2⟩⟩
noncomputable def rOn (t : Nat) (b : Bool) : aS := ku onceR.f [.g bQ, .s (.int .i64 t)] (mB b)
noncomputable def LT : Lf := Lf.of (fE ++ List.replicate 16 ivB)
noncomputable def Ns (lib : aS) (giv : List (E × Bool)) (hd : St) (x : X) (s1 : St) (hs : HT) : Bool := aI (dQ (dH (fun _ => lib) bW aX) f eu giv [] ⟨93, 0, 3⟩ gQ hd x s1) hs LT
noncomputable def a7C (t : Nat) : Bool := Ns (rOn t true) [] (hdT t) .normal (hdT (t + 1)) (.by (nm 0 t) 1 .leaf .leaf)
noncomputable def alC (t : Nat) : Bool := Ns (rOn t false) [(isE (nm 0 t) 1, false)] (hdT t) .normal (hdT (t + 1)) (.by (nm 0 t) 1 .leaf .leaf)
noncomputable def akg (t : Nat) : Bool := Ns (rOn t false) [(isE (nm 0 t) 1, true)] (hdT t) .ret sR (.by (nm 0 t) 1 .leaf .leaf)
theorem ZK : ((List.range 16).all a7C) = true := by kernel_rfl
theorem als : ((List.range 16).all alC) = true := by kernel_rfl
theorem aea : ((List.range 16).all akg) = true := by kernel_rfl
theorem WG : aI (dQ (dH gZ bW aX) f eu [] [] ⟨93, 0, 3⟩ gQ (hdT 16) (.exit 0) sN) .leaf LT = true := by kernel_rfl
noncomputable def rowT (x : X) (s1 : St) (K : Know) : Loops := iP 8 ⟨93, 0, 3⟩ (@thU K []) (hdT 0) x s1
noncomputable def lib (l : List (FuncId × V)) : Know -> aS := fun _ => I7 (l.map fun p => ku p.1 [.g bQ] p.2)
noncomputable def rL (b : Bool) : FuncId × V := (many.fB, V.s (.bool b))
noncomputable def rM (b : Bool) : FuncId × V := (madeR.f, V.s (.bool b))
noncomputable def rT : FuncId × V := (twoR.f, .a (.g (jW 0)))
noncomputable def run (l : List (FuncId × V)) (rows : Know -> List (FuncId × Loops)) (n : Int) : Bool := aI (kG (dH (lib l) bW fun K => dP (rows K)) f eu [] [] (fun _ => V.s (.int .i64 n)) [.g bQ]) .leaf LT
theorem ajd : run [rL true] (fun _ => []) 4 = true := by kernel_rfl
theorem ajb : run [rL false, rM false] (fun _ => []) 8 = true := by kernel_rfl
theorem a9c : run [rL false, rM true, rT] (fun K => [(f, rowT .ret sR K)]) 12 = true := by kernel_rfl
theorem ajQ : run [rL false, rM true, rT] (fun K => [(f, rowT (.exit 0) sN K)]) 0 = true := by kernel_rfl
theorem adJ : fH (F.body.getD .skip) 0 8 = true := by kernel_rfl
end Go.Proofs.YtglmonlofejcgaaGreatDoor.refC
namespace Go.Proofs.YtglmonlofejcgaaGreatDoor.refC
open Go.RowKit Am
open twos (Ct)
def NK (D : FnD) (t : Nat) : Bool := !(Ct.fn D).i t || onceR.Qm D t
def Qb (D : FnD) : Bool := (List.range 16).all (NK D)
def ai9 (D : FnD) : Int := if many.iO D then 4 else if !madeR.uF D then 8 else if !Qb D then 12 else 0
def mF (D : FnD) : List Int := bU [fun j => b2i ((Ct.fn D).i j)] ++ []
theorem Nu {D : FnD} (h : madeR.uF D = true) : ∀ b ∈ D.bs, made.okB b = true := fun b hb => by
 unfold madeR.uF at h
 simp only [Bool.and_eq_true] at h
 have h := List.all_eq_true.1 h.2.2.2.2 b hb
 unfold block.okB at h
 simp only [Bool.and_eq_true] at h
 unfold made.okB
 rw [Bool.and_eq_true]
 refine ⟨List.all_eq_true.2 fun st hst => ?_, h.2.1⟩
 have := List.all_eq_true.1 h.1 st hst
 unfold block.okS at this
 rw [Bool.and_eq_true] at this
 exact this.1
theorem ahl (D : FnD) (t : Nat) : NK D t = twos.Dy D t := by
 unfold NK twos.Dy onceR.Qm
 congr 2
 cases decide ((Ct.fn D).s t = 1) <;> cases decide ((Ct.fn D).p t = 1) <;> cases decide ((Ct.fn D).a t = 2) <;> rfl
section
variable {w : World} {v : Value} {D : FnD} (h : aT w v D)
include h
theorem a88 (hs : many.iO D = false) (ok : ∀ b ∈ D.bs, made.okB b = true) : twos.Sm D := by
 obtain ⟨_, h2, h3⟩ := check.vC hs
 refine ⟨h2, fun b hb => ⟨h3 b hb, ?_⟩⟩
 have ok := ok b hb
 unfold made.okB at ok
 rw [Bool.and_eq_true] at ok
 exact Dw (by rw [<- (h.blk b hb).BO.len]; rfl) ok.2
theorem yD : LT.Holds (aF (aJ D (atB 0) (mF D))) (fun _ => []) := by
 have : ak InI (List.replicate 16 ivB) (mF D) := fZ (a := List.replicate 16 ivB) (c := []) (fZ (a := List.replicate 16 ivB) (c := []) (twos.qm fun j => rC _) trivial) trivial
 have := kQ h (q := atB 0) (gG (by omega)) this (m2 := []) (fun _ => [])
 rwa [List.append_nil] at this
theorem aio {t : Nat} (ht : t < 16) : aF (aJ D (atB 0) (mF D)) (nm 0 t) = b2i ((Ct.fn D).i t) := gI (fs := [fun j => b2i ((Ct.fn D).i j)]) (b := 0) (f := fun j => b2i ((Ct.fn D).i j)) rfl ht
theorem last (hs : twos.Sm D) (hok : ∀ b ∈ D.bs, made.okB b = true) {r : Bool} (hr : Qb D = r) : ∀ K (ok : aG K (fnB w D (atB 0) (mF D)).rho (fnB w D (atB 0) (mF D)).sig), @aO ((fnB w D (atB 0) (mF D)).aH K ok) Tryz.prog (rowT (if r then .exit 0 else .ret) (if r then sN else sR) K) gQ := by
 intro K ok
 have hLT := yD h
 have rg : ∀ t, t < 16 -> ∀ b, onceR.Qm D t = b -> jG Tryz.prog (dH (fun _ => rOn t b) bW aX) (fnB w D (atB 0) (mF D)) := fun t ht b e => by
  refine fG (fun K ok => ?_) (aU h _ _) nK
  refine @dA ((fnB w D (atB 0) (mF D)).aH K ok) _ onceR.f ⟨_, Tryz.func44, by kernel_rfl, by kernel_rfl⟩ _ _ (by rfl) [v, .int .i64 t] ⟨xI h (atB 0) _ r0, rfl, trivial⟩ (.bool b) (fun r => vmB _ r b) fun w' hw => ?_
  rw [<- e]
  exact onceR.ae7 (h.frz hw) hs hok ht
 have gv : ∀ t b, t < 16 -> (Ct.fn D).i t = b -> ∀ p ∈ [(isE (nm 0 t) 1, b)], p.1.num (aF (aJ D (atB 0) (mF D))) = p.2 := fun t b ht e p hp => by
  obtain rfl := List.mem_singleton.1 hp
  show (decide (_ = (1 : Int)) && true) = b
  rw [aio h ht, made.fK, Bool.and_true]
  exact e
 have step : ∀ t, t < 16 -> NK D t = true -> gJ Tryz.prog (fnB w D (atB 0) (mF D)) (fnB w D (atB 0) (mF D)) gQ (hdT t) .normal (hdT (t + 1)) := fun t ht e => by
  cases ho : onceR.Qm D t with
  | true => exact bG (show aI (dQ (dH (fun _ => rOn t true) bW aX) f eu [] [] ⟨93, 0, 3⟩ gQ (hdT t) .normal (hdT (t + 1))) (.by (nm 0 t) 1 .leaf .leaf) LT = true from List.all_eq_true.1 ZK t (List.mem_range.2 ht)) (rg t ht true ho) (twos.iJ _ _) hLT (aQ D _ _) (fun p hp => by cases hp) (fun u hu => by cases hu) rfl (bf f gQ)
  | false =>
   have hi : (Ct.fn D).i t = false := by
    unfold NK at e
    rw [ho, Bool.or_false, Bool.not_eq_true'] at e
    exact e
   exact bG (show aI (dQ (dH (fun _ => rOn t false) bW aX) f eu [(isE (nm 0 t) 1, false)] [] ⟨93, 0, 3⟩ gQ (hdT t) .normal (hdT (t + 1))) (.by (nm 0 t) 1 .leaf .leaf) LT = true from List.all_eq_true.1 als t (List.mem_range.2 ht)) (rg t ht false ho) (twos.iJ _ _) hLT (aQ D _ _) (gv t false ht hi) (fun u hu => by cases hu) rfl (bf f gQ)
 cases r with
 | true =>
  refine @Ef _ _ _ gQ _ _ hdT _ _ (fun e => by cases e) 16 (twos.iJ _ _) (fun u hu => by cases hu) (fun t ht => step t ht (List.all_eq_true.1 hr t (List.mem_range.2 ht))) ?_ 8 K ok
  exact bG WG (bg (aU h _ _)) (twos.iJ _ _) hLT (aQ D _ _) (fun p hp => by cases hp) (fun u hu => by cases hu) rfl (bf f gQ)
 | false =>
  rcases jl (NK D) 16 with hall | ⟨N, hN, h0, hn⟩
  ·unfold Qb at hr
   rw [List.all_eq_true.2 fun t ht => hall t (List.mem_range.1 ht)] at hr
   cases hr
  ·refine @Ef _ _ _ gQ _ _ hdT _ _ (fun e => by cases e) N (twos.iJ _ _) (fun u hu => by cases hu) (fun t ht => step t (by omega) (h0 t ht)) ?_ 8 K ok
   unfold NK at hn
   rw [Bool.or_eq_false_iff, Bool.not_eq_false'] at hn
   exact bG (show aI (dQ (dH (fun _ => rOn N false) bW aX) f eu [(isE (nm 0 N) 1, true)] [] ⟨93, 0, 3⟩ gQ (hdT N) .ret sR) (.by (nm 0 N) 1 .leaf .leaf) LT = true from List.all_eq_true.1 aea N (List.mem_range.2 hN)) (rg N hN false hn.2) (twos.iJ _ _) hLT (aQ D _ _) (gv N true hN hn.1) (fun u hu => by cases hu) rfl (bf f gQ)
theorem agh : bF f [v] w (.int .i64 (ai9 D)) := by
 have pL : ∀ b, many.iO D = b -> dB Tryz.prog (rL b).1 /\ ∃ u, (∀ (b0 : Base) r, (b0.rho = (fnB w D (atB 0) (mF D)).rho) -> @VV b0 r (rL b).2 u) /\ ∀ w', aT w' v D -> bF (rL b).1 [v] w' u := fun b e => ⟨⟨_, Tryz.func41, by kernel_rfl, by kernel_rfl⟩, .bool b, fun _ _ _ => rfl, fun w' hw => e ▸ many.V9 hw⟩
 have pM : ∀ b, madeR.uF D = b -> dB Tryz.prog (rM b).1 /\ ∃ u, (∀ (b0 : Base) r, (b0.rho = (fnB w D (atB 0) (mF D)).rho) -> @VV b0 r (rM b).2 u) /\ ∀ w', aT w' v D -> bF (rM b).1 [v] w' u := fun b e => ⟨⟨_, Tryz.func42, by kernel_rfl, by kernel_rfl⟩, .bool b, fun _ _ _ => rfl, fun w' hw => e ▸ madeR.a5e hw⟩
 have pT : twos.Sm D -> (∀ b ∈ D.bs, made.okB b = true) -> dB Tryz.prog rT.1 /\ ∃ u, (∀ (b0 : Base) r, (b0.rho = (fnB w D (atB 0) (mF D)).rho) -> @VV b0 r rT.2 u) /\ ∀ w', aT w' v D -> bF rT.1 [v] w' u := fun hs hok => ⟨⟨_, Tryz.func43, by kernel_rfl, by kernel_rfl⟩, twos.isV D, fun b0 r e => by
   refine ⟨_, rfl, fC (by simp [jW]) fun j x u hx hu => ?_⟩
   have hj : j < 16 := by have := (List.getElem?_eq_some_iff.1 hx).1; simpa [jW] using this
   unfold jW at hx
   rw [List.getElem?_map, List.getElem?_range hj] at hx hu
   cases hx
   cases hu
   show Value.bool _ = .bool (decide (b0.rho (nm 0 j) = 1) || false)
   rw [e, show (fnB w D (atB 0) (mF D)).rho (nm 0 j) = _ from aio h hj, made.fK, Bool.or_false], fun w' hw => twoR.ahn hw hs hok⟩
 have go : ∀ {l : List (FuncId × V)} {rows : Know -> List (FuncId × Loops)} {n : Int}, run l rows n = true -> (∀ p ∈ l, dB Tryz.prog p.1 /\ ∃ u, (∀ (b0 : Base) r, (b0.rho = (fnB w D (atB 0) (mF D)).rho) -> @VV b0 r p.2 u) /\ ∀ w', aT w' v D -> bF p.1 [v] w' u) ->
   (∀ K (ok : aG K (fnB w D (atB 0) (mF D)).rho (fnB w D (atB 0) (mF D)).sig), ∀ p ∈ rows K, ∃ F : Func, Tryz.prog.funcs[p.1]? = some F /\ ∀ c, F.body = some c -> Loops.ok (@aO ((fnB w D (atB 0) (mF D)).aH K ok) Tryz.prog p.2) c) -> bF f [v] w (.int .i64 n) := fun {l rows n} hr hl hrows => by
  have hr : aI (kG (dH (lib l) bW fun K => dP (rows K)) f eu [] [] (fun _ => V.s (.int .i64 n)) [.g bQ]) .leaf LT = true := hr
  refine jw h hr (fG (fun K ok => @jA ((fnB w D (atB 0) (mF D)).aH K ok) _ _ fun o ho => ?_) (aU h _ _) (rows_ok hrows)) (yD h) (aQ D _ _) (fun p hp => by cases hp) (fun r x hx => hx)
  obtain ⟨p, hp, rfl⟩ := List.mem_map.1 ho
  obtain ⟨h1, u, h2, h3⟩ := hl p hp
  exact @dA ((fnB w D (atB 0) (mF D)).aH K ok) _ p.1 h1 _ _ (by rfl) [v] ⟨xI h (atB 0) (mF D) r0, trivial⟩ u (fun r => h2 _ r rfl) fun w' hw => h3 w' (h.frz hw)
 unfold ai9
 cases e0 : many.iO D with
 | true => exact go ajd (fun p hp => by obtain rfl := List.mem_singleton.1 hp; exact pL true e0) (fun K ok p hp => by cases hp)
 | false =>
  cases e1 : madeR.uF D with
  | false => exact go ajb (fun p hp => by
    simp only [List.mem_cons, List.not_mem_nil, or_false] at hp
    rcases hp with rfl | rfl
    ·exact pL false e0
    ·exact pM false e1) (fun K ok p hp => by cases hp)
  | true =>
   have hok := Nu e1
   have hs := a88 h e0 hok
   have rw3 : ∀ p ∈ [rL false, rM true, rT], dB Tryz.prog p.1 /\ ∃ u, (∀ (b0 : Base) r, (b0.rho = (fnB w D (atB 0) (mF D)).rho) -> @VV b0 r p.2 u) /\ ∀ w', aT w' v D -> bF p.1 [v] w' u := fun p hp => by
    simp only [List.mem_cons, List.not_mem_nil, or_false] at hp
    rcases hp with rfl | rfl | rfl
    ·exact pL false e0
    ·exact pM true e1
    ·exact pT hs hok
   have rl : ∀ r, Qb D = r -> ∀ K (ok : aG K (fnB w D (atB 0) (mF D)).rho (fnB w D (atB 0) (mF D)).sig), ∀ p ∈ [(f, rowT (if r then .exit 0 else .ret) (if r then sN else sR) K)], ∃ F : Func, Tryz.prog.funcs[p.1]? = some F /\ ∀ c, F.body = some c -> Loops.ok (@aO ((fnB w D (atB 0) (mF D)).aH K ok) Tryz.prog p.2) c := fun r e K ok p hp => by
    obtain rfl := List.mem_singleton.1 hp
    exact ⟨F, Tryz.func24, fun c hc => iF adJ (last h hs hok e K ok) hc⟩
   cases e2 : Qb D with
   | false => exact go a9c rw3 (rl false e2)
   | true => exact go ajQ rw3 (rl true e2)
end
end Go.Proofs.YtglmonlofejcgaaGreatDoor.refC
