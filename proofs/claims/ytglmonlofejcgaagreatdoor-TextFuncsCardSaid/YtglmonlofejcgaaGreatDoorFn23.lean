/- What the reference's once answers. -/
import Derived.Test.YtglmonlofejcgaaGreatDoorFn22
set_option linter.unusedVariables false
set_option linter.unusedSectionVars false
set_option maxRecDepth 100000
namespace Go.Proofs.YtglmonlofejcgaaGreatDoor.onceR
open Go.RowKit Am
open twos (Ct)
theorem su {b1 b2 : Base} {y x : Nat} (e : b1.rho x = b2.rho y) : ig b1 b2 (isU (xi y) (xi x)) := by
 intro r v hv
 have hv : v = .int .i64 (b1.rho x) := hv
 show v = .int .i64 (b2.rho y)
 rw [hv, e]
theorem Ih {b1 b2 : Base} {y : Nat} (e : b2.rho y = 0) : ig b1 b2 (isU (xi y) (.int .i64 0)) := by
 intro r v hv
 have hv : v = .int .i64 0 := hv
 show v = .int .i64 (b2.rho y)
 rw [hv, e]
theorem I9 {b1 b2 : Base} {y a b : Nat} {e : E} (h : (bif e.num b1.rho then b1.rho a else b1.rho b) = b2.rho y) : ig b1 b2 (pick y [e] a b) := by
 intro r v hv
 have hv : @VS b1 r (bif e.num b1.rho then xi a else xi b) v := hv
 show v = .int .i64 (b2.rho y)
 rw [<- h]
 cases he : e.num b1.rho with
 | true => rw [he] at hv; exact hv
 | false => rw [he] at hv; exact hv
theorem kD {D : FnD} {q : At} {G : Nat -> Int} {tl : List Int} (j : Nat) : aF (aJ D q (bU [G] ++ tl)) (93 + j) = aF tl j := by
 rw [show 93 + j = 77 + (16 * 1 + j) by omega]
 exact CY (fs := [G]) rfl j
theorem akH {D : FnD} {q : At} {G : Nat -> Int} {tl : List Int} {j : Nat} (hj : j < 16) : aF (aJ D q (bU [G] ++ tl)) (nm 0 j) = G j := gI (fs := [G]) (b := 0) rfl hj
def Qm (D : FnD) (t : Nat) : Bool := decide (D.p < t) && (decide ((Ct.fn D).s t = 1) && (decide ((Ct.fn D).p t = 1) && decide ((Ct.fn D).a t = 2)))
def tI (C : Ct) (G : Nat -> Int) (t : Nat) : List Int := [C.s t, C.p t, C.a t, C.a t + G t, C.s t + 1, C.p t + 1]
def mI (D : FnD) (i t k : Nat) : List Int := bU [twos.qX (D.stm i k)] ++ tI (twos.ctK D (Ct.at D i) i k) (twos.qX (D.stm i k)) t
def nP (b : bH) (t k : Nat) : Int := acc (fun op => twos.qY op t) (b.ops.take k)
def aP (b : bH) (t : Nat) : Int := acc (fun op => twos.qY op t) b.ops
def mA (b : bH) (t k : Nat) : List Int := [nP b t k, nP b t k + 1]
def tO (b : bH) (C C1 : Ct) (t : Nat) : List Int := [C.s t, C.p t, C.a t, C1.s t, C1.p t, C1.a t, C1.a t + occJump.nN b t, C1.p t + aP b t, aP b t]
def mO (D : FnD) (t i : Nat) : List Int := bU [occJump.nN (D.blk i)] ++ tO (D.blk i) (Ct.at D i) ((Ct.at D i).stm (D.blk i).st) t
def mF (D : FnD) (t : Nat) : List Int := bU [fun _ => 0] ++ [(Ct.fn D).s t, (Ct.fn D).p t, (Ct.fn D).a t]
theorem amr (a b c d : Bool) : (a && (b && (c && d))) = ((a && (b && c)) && d) := by cases a <;> cases b <;> cases c <;> cases d <;> rfl
theorem agj (st : List Value) (t : Nat) : (twos.VN st && (decide (ah st 1 = (t : Int)) && (decide (ah st 2 = 0) && (decide (ah st 3 = 0) && !decide (ah st 17 = (t : Int)))))) = (twos.setB st && decide (ah st 1 = (t : Int))) := by
 unfold twos.setB
 by_cases h1 : ah st 1 = (t : Int)
 ·rw [h1, decide_eq_true (rfl : (t : Int) = t)]; cases twos.VN st <;> cases decide (ah st 2 = 0) <;> cases decide (ah st 3 = 0) <;> cases decide (ah st 17 = (t : Int)) <;> rfl
 ·rw [decide_eq_false h1]; cases twos.VN st <;> cases decide (ah st 2 = 0) <;> cases decide (ah st 3 = 0) <;> cases decide (ah st 17 = ah st 1) <;> rfl
theorem a7k {w : World} {v : Value} {D : FnD} (h : aT w v D) (b : bH) (C1 : Ct) (t : Nat) (hno : ah b.pre 0 ≠ 4 -> b.ops = []) :
  (C1.jmp b).a t = C1.a t + occJump.nN b t /\ (C1.jmp b).p t = (bif decide (ah b.pre 0 = 4) then C1.p t + aP b t else C1.p t) /\ (C1.jmp b).s t = C1.s t := by
 obtain ⟨ja, jp, js, _⟩ := twos.TK h b C1 t
 refine ⟨?_, ?_, js⟩
 ·rw [ja]
  unfold occJump.nN occJump.MJ
  by_cases h2 : ah b.pre 0 = 2
  ·rw [if_pos h2, decide_eq_true h2, decide_eq_false (show ¬ ah b.pre 0 = 4 by omega)]
   by_cases h1 : ah b.pre 1 = 1
   ·rw [if_pos h1, decide_eq_true h1]; show C1.a t = _; omega
   ·rw [if_neg h1, decide_eq_false h1]
    show C1.a t + _ = C1.a t + (0 + _)
    omega
  ·rw [if_neg h2, decide_eq_false h2]
   by_cases h4 : ah b.pre 0 = 4
   ·rw [if_pos h4, decide_eq_true h4]
    show (C1.a t + b2i _) + acc _ _ = C1.a t + (acc _ _ + b2i _)
    omega
   ·rw [if_neg h4, decide_eq_false h4, hno h4]
    show C1.a t = C1.a t + 0
    omega
 ·rw [jp]
  rfl
section
variable {w : World} {v : Value} {D : FnD} (h : aT w v D)
include h
theorem Em {F : FuncId} (hF : dB Tryz.prog F) {q : At} {G : Nat -> Int} {tl : List Int} {cs : List S} {u : Value} (hu : ak (@VA (fnB w D q (bU [G] ++ tl)) r0) [.g cs] [u]) (h1 : [A.g cs].all A.qJ = true) (ha : ∀ w', aT w' v D -> bF F [u] w' (nZ G)) (K : Know) (ok : aG K (fnB w D q (bU [G] ++ tl)).rho (fnB w D q (bU [G] ++ tl)).sig) : @Sound ((fnB w D q (bU [G] ++ tl)).aH K ok) Tryz.prog (ku F [.g cs] (.a (.g (bJ 0)))) := by
 refine @dA ((fnB w D q (bU [G] ++ tl)).aH K ok) _ F hF _ _ h1 [u] hu (nZ G) (fun r => @uz ((fnB w D q (bU [G] ++ tl)).aH K ok) 0 G (fun j hj => gI (D := D) (q := q) (fs := [G]) (tail := tl) (b := 0) rfl hj) r) fun w' hw => ha w' (h.frz hw)
theorem ajl {t : Nat} (ht : t < 16) {q : At} {G : Nat -> Int} {C : Ct} {M : Int} (hC : C.In M) (hM : M <= 900000) (hG : 0 <= G t /\ G t <= 1000) : uj (fxI t) (aF (aJ D q (bU [G] ++ tI C G t))) := by
 have h0 := aQ D q (bU [G] ++ tI C G t)
 have a0 : aF (aJ D q (bU [G] ++ tI C G t)) 93 = C.s t := kD 0
 have a1 : aF (aJ D q (bU [G] ++ tI C G t)) 94 = C.p t := kD 1
 have a2 : aF (aJ D q (bU [G] ++ tI C G t)) 95 = C.a t := kD 2
 have a3 : aF (aJ D q (bU [G] ++ tI C G t)) 96 = C.a t + G t := kD 3
 have a4 : aF (aJ D q (bU [G] ++ tI C G t)) 97 = C.s t + 1 := kD 4
 have a5 : aF (aJ D q (bU [G] ++ tI C G t)) 98 = C.p t + 1 := kD 5
 have b1 := hC.s t
 have b2 := hC.p t
 have b3 := hC.a t
 refine ⟨fun i c k hm => ?_, ⟨h0.xt.lf, fun i j k hm => ?_, h0.xt.ld, h0.xt.sr, h0.xt.eq⟩⟩
 ·simp only [fxI, List.mem_cons, List.not_mem_nil, or_false, Prod.mk.injEq] at hm
  rcases hm with ⟨rfl, rfl, rfl⟩ | ⟨rfl, rfl, rfl⟩ | ⟨rfl, rfl, rfl⟩
  ·rw [a0, a4]; exact ⟨rfl, by show (-9223372036854775808 : Int) <= _; omega, by show _ <= (9223372036854775807 : Int); omega⟩
  ·rw [a1, a5]; exact ⟨rfl, by show (-9223372036854775808 : Int) <= _; omega, by show _ <= (9223372036854775807 : Int); omega⟩
  ·rw [a1]; exact ⟨by omega, by show (-9223372036854775808 : Int) <= _; omega, by show _ <= (9223372036854775807 : Int); omega⟩
 ·obtain e := List.mem_singleton.1 (show (i, j, k) ∈ [(95, nm 0 t, 96)] from hm)
  cases e
  rw [a2, a3, akH ht]
  exact ⟨rfl, by show (-9223372036854775808 : Int) <= _; omega, by show _ <= (9223372036854775807 : Int); omega⟩
theorem inner {i t : Nat} (ht : t < 16) (hi : i < D.bs.length) (hB : D.bs.length <= 1000) (hS : (D.blk i).st.length <= 1000) (hok : ((D.blk i).st.all fun st => dJ.val st) = true) (hC : (Ct.at D i).In 24000) :
  ∀ K (ok : aG K (fnB w D (atB i) (mO D t i)).rho (fnB w D (atB i) (mO D t i)).sig), @aO ((fnB w D (atB i) (mO D t i)).aH K ok) Tryz.prog (mD t K) aY := by
 intro K ok
 have fit : ∀ k, k <= (D.blk i).st.length -> Fits D (made.atS i k) := fun k hk => gU ⟨by show i <= 1000; omega, by show k <= 1000; omega, Nat.zero_le _, Nat.zero_le _⟩
 have okk := (iC (D.blk i).st [] fun st => dJ.val st).2 hok
 have n93 : ∀ k, (fnB w D (made.atS i k) (mI D i t k)).rho 93 = (twos.ctK D (Ct.at D i) i k).s t := fun k => kD 0
 have n94 : ∀ k, (fnB w D (made.atS i k) (mI D i t k)).rho 94 = (twos.ctK D (Ct.at D i) i k).p t := fun k => kD 1
 have n95 : ∀ k, (fnB w D (made.atS i k) (mI D i t k)).rho 95 = (twos.ctK D (Ct.at D i) i k).a t := fun k => kD 2
 have n96 : ∀ k, (fnB w D (made.atS i k) (mI D i t k)).rho 96 = (twos.ctK D (Ct.at D i) i k).a t + twos.qX (D.stm i k) t := fun k => kD 3
 have n97 : ∀ k, (fnB w D (made.atS i k) (mI D i t k)).rho 97 = (twos.ctK D (Ct.at D i) i k).s t + 1 := fun k => kD 4
 have n98 : ∀ k, (fnB w D (made.atS i k) (mI D i t k)).rho 98 = (twos.ctK D (Ct.at D i) i k).p t + 1 := fun k => kD 5
 have o93 : (fnB w D (atB i) (mO D t i)).rho 93 = (Ct.at D i).s t := kD 0
 have o94 : (fnB w D (atB i) (mO D t i)).rho 94 = (Ct.at D i).p t := kD 1
 have o95 : (fnB w D (atB i) (mO D t i)).rho 95 = (Ct.at D i).a t := kD 2
 have o96 : (fnB w D (atB i) (mO D t i)).rho 96 = ((Ct.at D i).stm (D.blk i).st).s t := kD 3
 have o97 : (fnB w D (atB i) (mO D t i)).rho 97 = ((Ct.at D i).stm (D.blk i).st).p t := kD 4
 have o98 : (fnB w D (atB i) (mO D t i)).rho 98 = ((Ct.at D i).stm (D.blk i).st).a t := kD 5
 refine @cZ _ _ (fun k => fnB w D (made.atS i k) (mI D i t k)) aY _ _ (hdI t) _ _ (fun e => by cases e) (D.blk i).st.length (bK (atB i) (made.atS i 0) rfl _ _) (fun u hu => ?_) (fun k hk => ?_) ?_ 10 K ok
 ·simp only [List.mem_cons, List.not_mem_nil, or_false] at hu
  rcases hu with rfl | rfl | rfl | rfl
  ·exact dN fun r v hv => hv
  ·exact su (o93.trans ((n93 0).trans (by show (Ct.at D i).s t + 0 = _; omega)).symm)
  ·exact su (o94.trans ((n94 0).trans (by show (Ct.at D i).p t + 0 = _; omega)).symm)
  ·exact su (o95.trans ((n95 0).trans (by show (Ct.at D i).a t + 0 = _; omega)).symm)
 ·obtain ⟨sa, sp, ss, _⟩ := twos.Tv (C := Ct.at D i) hk
  have okS := okk k hk
  have hl : ((D.blk i).st.take k).length <= 1000 := by rw [List.length_take]; omega
  refine bG (af8 t ht) (fG (Em h ⟨_, Tryz.func79, by kernel_rfl, by kernel_rfl⟩ (occurs.Z5 h (made.atS i k) _ hi hk) (by rfl) fun w' hw => occurs.a1f hw hB hS hi hk okS) (@aV (fnB w D (made.atS i k) (mI D i t k)) _ _ (aU h _ _) (@aV (fnB w D (made.atS i k) (mI D i t k)) _ _ (dL h (q := made.atS i k) hi _) (Dt h (q := made.atS i k) hi hk _))) nK)
   (bK (made.atS i k) (made.atS i (k + 1)) rfl _ _) (L := L1) ?_ (ajl h ht (twos.In.stm hC _) (by omega) (by have := twos.Xz (D.stm i k) t; omega)) (fun p hp => ?_) (fun u hu => ?_) rfl (bf f aY)
  ·exact ((twos.eH h (made.atS i k) (fit k (by omega)) _).pin (i := 6) (c := 1) (show b2i (decide ((i : Int) < D.bs.length)) = 1 from (bY _).2 (by omega))).pin (i := 23) (c := 1) (show b2i (decide ((k : Int) < (D.blk i).st.length)) = 1 from (bY _).2 (by omega))
  ·obtain rfl := List.mem_singleton.1 hp
   exact (IE (made.atS i k) _).trans okS
  ·simp only [usI, List.mem_cons, List.not_mem_nil, or_false] at hu
   rcases hu with rfl | rfl | rfl | rfl
   ·exact dN fun r v hv => hv
   ·refine I9 ?_
    have e25 : (fnB w D (made.atS i k) (mI D i t k)).rho 25 = ah (D.stm i k) 1 := rfl
    have e26 : (fnB w D (made.atS i k) (mI D i t k)).rho 26 = ah (D.stm i k) 2 := rfl
    have e27 : (fnB w D (made.atS i k) (mI D i t k)).rho 27 = ah (D.stm i k) 3 := rfl
    have e41 : (fnB w D (made.atS i k) (mI D i t k)).rho 41 = ah (D.stm i k) 17 := rfl
    have eS : (akV t).num (fnB w D (made.atS i k) (mI D i t k)).rho = (twos.setB (D.stm i k) && decide (ah (D.stm i k) 1 = (t : Int))) := by
     show ((twos.yA twos.I5).num _ && ((decide (_ = (t : Int)) && true) && ((decide (_ = (0 : Int)) && true) && ((decide (_ = (0 : Int)) && true) && !(decide (_ = (t : Int)) && true))))) = _
     rw [show (twos.yA twos.I5).num (fnB w D (made.atS i k) (mI D i t k)).rho = twos.VN (D.stm i k) from yK (made.atS i k) _ rfl, e25, e26, e27, e41, Bool.and_true, Bool.and_true, Bool.and_true, Bool.and_true]
     exact agj _ _
    rw [eS, n93 (k + 1), ss t, n93 k, n97 k]
    unfold twos.adb
    cases (twos.setB (D.stm i k) && decide (ah (D.stm i k) 1 = (t : Int))) with
    | true => rfl
    | false => show _ = _ + (0 : Int); rw [cond_false]; omega
   ·refine I9 ?_
    have e33 : (fnB w D (made.atS i k) (mI D i t k)).rho 33 = ah (D.stm i k) 9 := rfl
    have eS : (alR t).num (fnB w D (made.atS i k) (mI D i t k)).rho = (twos.Ox (D.stm i k) && decide (ah (D.stm i k) 9 = (t : Int))) := by
     show ((twos.yA twos.KA).num _ && (decide (_ = (t : Int)) && true)) = _
     rw [show (twos.yA twos.KA).num (fnB w D (made.atS i k) (mI D i t k)).rho = twos.Ox (D.stm i k) from yK (made.atS i k) _ rfl, e33, Bool.and_true]
    rw [eS, n94 (k + 1), sp t, n94 k, n98 k]
    unfold twos.VG
    cases (twos.Ox (D.stm i k) && decide (ah (D.stm i k) 9 = (t : Int))) with
    | true => rfl
    | false => show _ = _ + (0 : Int); rw [cond_false]; omega
   ·exact su ((n96 k).trans (((n95 (k + 1)).trans (sa t)).symm))
 ·have e : twos.ctK D (Ct.at D i) i (D.blk i).st.length = (Ct.at D i).stm (D.blk i).st := by unfold twos.ctK; rw [List.take_length]
  refine bG (List.all_eq_true.1 acg t (List.mem_range.2 ht)) (bg (@aV (fnB w D (made.atS i _) (mI D i t _)) _ _ (aU h _ _) (dL h (q := made.atS i _) hi _))) (bK (made.atS i (D.blk i).st.length) (atB i) rfl _ _) (L := L3) ?_ (aQ D _ _) (fun p hp => by cases hp) (fun u hu => ?_) rfl (bf f aY)
  ·exact ((twos.eH h _ (fit _ (Nat.le_refl _)) _).pin (i := 6) (c := 1) (show b2i (decide ((i : Int) < D.bs.length)) = 1 from (bY _).2 (by omega))).pin (i := 23) (c := 0) (show b2i (decide (((D.blk i).st.length : Int) < (D.blk i).st.length)) = 0 by rw [decide_eq_false (by omega)]; rfl)
  ·simp only [List.mem_cons, List.not_mem_nil, or_false] at hu
   rcases hu with rfl | rfl | rfl
   ·exact su ((n93 _).trans ((congrArg (fun C : Ct => C.s t) e).trans o96.symm))
   ·exact su ((n94 _).trans ((congrArg (fun C : Ct => C.p t) e).trans o97.symm))
   ·exact su ((n95 _).trans ((congrArg (fun C : Ct => C.a t) e).trans o98.symm))
theorem args {i t : Nat} (ht : t < 16) (hi : i < D.bs.length) (hB : D.bs.length <= 1000) (hA : (D.blk i).ops.length <= 1000) (hok : ((D.blk i).ops.all fun el => (bn 0).val el) = true) :
  ∀ K (ok : aG K (fnB w D (atB i) (mO D t i)).rho (fnB w D (atB i) (mO D t i)).sig), @aO ((fnB w D (atB i) (mO D t i)).aH K ok) Tryz.prog (rowA t K) iy := by
 intro K ok
 have fit : ∀ k, k <= (D.blk i).ops.length -> Fits D (made.atM i k) := fun k hk => gU ⟨by show i <= 1000; omega, Nat.zero_le _, by show k <= 1000; omega, Nat.zero_le _⟩
 have okk := (iC (D.blk i).ops [] fun el => (bn 0).val el).2 hok
 have n77 : ∀ k, (fnB w D (made.atM i k) (mA (D.blk i) t k)).rho 77 = nP (D.blk i) t k := fun k => fJ (D := D) (q := made.atM i k) 0
 have n78 : ∀ k, (fnB w D (made.atM i k) (mA (D.blk i) t k)).rho 78 = nP (D.blk i) t k + 1 := fun k => fJ (D := D) (q := made.atM i k) 1
 have o101 : (fnB w D (atB i) (mO D t i)).rho 101 = aP (D.blk i) t := kD 8
 refine @cZ _ _ (fun k => fnB w D (made.atM i k) (mA (D.blk i) t k)) iy _ _ (hdA t) _ _ (fun e => by cases e) (D.blk i).ops.length (bK (atB i) (made.atM i 0) rfl _ _) (fun u hu => ?_) (fun k hk => ?_) ?_ 4 K ok
 ·simp only [List.mem_cons, List.not_mem_nil, or_false] at hu
  rcases hu with rfl | rfl
  ·exact dN fun r v hv => hv
  ·exact Ih (n77 0)
 ·have hb : 0 <= nP (D.blk i) t k /\ nP (D.blk i) t k <= 1000 := by
   have := rD (fun op => twos.qY op t) 1 ((D.blk i).ops.take k) fun x _ => iY _
   have hl : ((D.blk i).ops.take k).length <= 1000 := by rw [List.length_take]; omega
   unfold nP
   omega
  refine bG (List.all_eq_true.1 a8z t (List.mem_range.2 ht)) (bg (@aV (fnB w D (made.atM i k) (mA (D.blk i) t k)) _ _ (aU h _ _) (@aV (fnB w D (made.atM i k) (mA (D.blk i) t k)) _ _ (dL h (q := made.atM i k) hi _) (IB h (q := made.atM i k) hi hk _)))) (bK (made.atM i k) (made.atM i (k + 1)) rfl _ _) (L := LA) ?_ ?_ (fun p hp => ?_) (fun u hu => ?_) rfl (bf fP iy)
  ·exact ((twos.eH h (made.atM i k) (fit k (by omega)) _).pin (i := 6) (c := 1) (show b2i (decide ((i : Int) < D.bs.length)) = 1 from (bY _).2 (by omega))).pin (i := 52) (c := 1) (show b2i (decide ((k : Int) < (D.blk i).ops.length)) = 1 from (bY _).2 (by omega))
  ·refine ⟨fun a c b hm => ?_, (aQ D _ _).xt⟩
   obtain e := List.mem_singleton.1 (show (a, c, b) ∈ [(77, (1 : Int), 78)] from hm)
   cases e
   rw [show aF (aJ D (made.atM i k) (mA (D.blk i) t k)) 77 = _ from n77 k, show aF (aJ D (made.atM i k) (mA (D.blk i) t k)) 78 = _ from n78 k]
   exact ⟨rfl, by show (-9223372036854775808 : Int) <= _; omega, by show _ <= (9223372036854775807 : Int); omega⟩
  ·obtain rfl := List.mem_singleton.1 hp
   exact (Zw (made.atM i k) _ (e := bn 0) rfl).trans ((E.jh _ _).symm.trans (okk k hk))
  ·simp only [usA, List.mem_cons, List.not_mem_nil, or_false] at hu
   rcases hu with rfl | rfl
   ·exact dN fun r v hv => hv
   ·refine I9 ?_
    have e53 : (fnB w D (made.atM i k) (mA (D.blk i) t k)).rho 53 = ah (D.opd i k) 0 := rfl
    have e55 : (fnB w D (made.atM i k) (mA (D.blk i) t k)).rho 55 = ah (D.opd i k) 2 := rfl
    have e56 : (fnB w D (made.atM i k) (mA (D.blk i) t k)).rho 56 = ah (D.opd i k) 3 := rfl
    have e57 : (fnB w D (made.atM i k) (mA (D.blk i) t k)).rho 57 = ah (D.opd i k) 4 := rfl
    have eN : (WX t).num (fnB w D (made.atM i k) (mA (D.blk i) t k)).rho = (twos.Ey (D.opd i k) && decide (ah (D.opd i k) 2 = (t : Int))) := by
     show ((decide (_ = (3 : Int)) && true) && ((decide (_ = (0 : Int)) && true) && ((decide (_ = (0 : Int)) && true) && (decide (_ = (t : Int)) && true)))) = _
     rw [e53, e55, e56, e57, Bool.and_true, Bool.and_true, Bool.and_true, Bool.and_true]
     exact amr _ _ _ _
    have sn : nP (D.blk i) t (k + 1) = nP (D.blk i) t k + twos.qY (D.opd i k) t := by unfold nP; rw [pY _ _ [] hk]; rfl
    rw [eN, n77 (k + 1), sn, n77 k, n78 k]
    unfold twos.qY
    cases (twos.Ey (D.opd i k) && decide (ah (D.opd i k) 2 = (t : Int))) with
    | true => rfl
    | false => show _ = _ + (0 : Int); rw [cond_false]; omega
 ·refine bG (List.all_eq_true.1 abS t (List.mem_range.2 ht)) (bg (@aV (fnB w D (made.atM i _) (mA (D.blk i) t _)) _ _ (aU h _ _) (dL h (q := made.atM i _) hi _))) (bK (made.atM i (D.blk i).ops.length) (atB i) rfl _ _) (L := LA0) ?_ (aQ D _ _) (fun p hp => by cases hp) (fun u hu => ?_) rfl (bf fP iy)
  ·exact ((twos.eH h _ (fit _ (Nat.le_refl _)) _).pin (i := 6) (c := 1) (show b2i (decide ((i : Int) < D.bs.length)) = 1 from (bY _).2 (by omega))).pin (i := 52) (c := 0) (show b2i (decide (((D.blk i).ops.length : Int) < (D.blk i).ops.length)) = 0 by rw [decide_eq_false (by omega)]; rfl)
  ·obtain rfl := List.mem_singleton.1 hu
   exact su ((n77 _).trans ((show nP (D.blk i) t (D.blk i).ops.length = aP (D.blk i) t by unfold nP aP; rw [List.take_length]).trans o101.symm))
end
end Go.Proofs.YtglmonlofejcgaaGreatDoor.onceR
