/- once answers. -/
import Derived.Test.YtglmonlofejcgaaGreatDoorFn23
set_option maxRecDepth 100000
noncomputable section
open List renaming all_eq_true → apu, mem_cons → apw, not_mem_nil → apx, mem_range → apy, mem_singleton → apz, replicate → apA, getElem?_eq_some_iff → apC, mem_map → apE, getElem?_of_mem → apF, all_cons → apG, mem_filter → apI, range → apK, any_eq_true → apL, append_nil → apM
open Bool renaming and_eq_true → apv, and_true → apB, not_eq_true' → apD, eq_iff_iff → apH, false_and → apJ
set_option linter.unusedVariables false
set_option linter.unusedSectionVars false
namespace Go.Proofs.YtglmonlofejcgaaGreatDoor
namespace onceR
open Go.RowKit Am
open twos (Ct)
section
variable {w : World} {v : Value} {D : FnD} (h : aV w v D)
include h
theorem outer (hs : twos.Sm D) (hok : ∀ b ∈ D.bs, made.okB b = true) {t : Nat} (ht : t < 16) : ∀ K (ok : aG K (fnB w D (atB 0) (mF D t)).rho (fnB w D (atB 0) (mF D t)).sig), @aO ((fnB w D (atB 0) (mF D t)).aH K ok) Tryz.prog (Xj t K) fV := by
 intro K ok
 have hn := hs.b
 have okb : ∀ i, i < D.bs.length -> ((D.blk i).st.all fun st => dn.val st) = true /\ A8 (D.blk i) = true := fun i hi => by
  have := hok _ (twos.oG hi)
  unfold made.okB at this
  rwa [apv] at this
 have hfP : fP ≠ f := by decide
 have inat : ∀ i, i < D.bs.length -> (Ct.at D i).In 24000 := fun i hi => twos.In.more (twos.In.at hs (by omega)) (by omega)
 have jf := fun i (hi : i < D.bs.length) => Fp (vC h hi) (okb i hi).2
 have jmr := fun i (hi : i < D.bs.length) => UR (vC h hi) (okb i hi).2
 have opsok : ∀ i, i < D.bs.length -> ((D.blk i).ops.all fun el => (aY 0).val el) = true := fun i hi => by
  rcases (jf i hi).2.2 with e | e
  ·exact e
  ·rw [List.eq_nil_of_length_eq_zero e]; rfl
 have sml : ∀ i, i < D.bs.length -> (D.blk i).st.length <= 24 /\ (D.blk i).ops.length <= 8 := fun i hi => hs.s _ (twos.oG hi)
 have rI : ∀ i (hi : i < D.bs.length) K (ok : aG K (fnB w D (atB i) (mO D t i)).rho (fnB w D (atB i) (mO D t i)).sig), @aO ((fnB w D (atB i) (mO D t i)).aH K ok) Tryz.prog (nK t K) bf := fun i hi =>
  inner h ht hi (by omega) (by have := (sml i hi).1; omega) (okb i hi).1 (inat i hi)
 have rA : ∀ i (hi : i < D.bs.length) K (ok : aG K (fnB w D (atB i) (mO D t i)).rho (fnB w D (atB i) (mO D t i)).sig), @aO ((fnB w D (atB i) (mO D t i)).aH K ok) Tryz.prog (rowA t K) iG := fun i hi =>
  args h ht hi (by omega) (by have := (sml i hi).2; omega) (opsok i hi)
 have n93 : ∀ i, (fnB w D (atB i) (mO D t i)).rho 93 = (Ct.at D i).s t := fun i => kQ 0
 have n94 : ∀ i, (fnB w D (atB i) (mO D t i)).rho 94 = (Ct.at D i).p t := fun i => kQ 1
 have n95 : ∀ i, (fnB w D (atB i) (mO D t i)).rho 95 = (Ct.at D i).a t := fun i => kQ 2
 have n96 : ∀ i, (fnB w D (atB i) (mO D t i)).rho 96 = ((Ct.at D i).stm (D.blk i).st).s t := fun i => kQ 3
 have n97 : ∀ i, (fnB w D (atB i) (mO D t i)).rho 97 = ((Ct.at D i).stm (D.blk i).st).p t := fun i => kQ 4
 have n98 : ∀ i, (fnB w D (atB i) (mO D t i)).rho 98 = ((Ct.at D i).stm (D.blk i).st).a t := fun i => kQ 5
 have n99 : ∀ i, (fnB w D (atB i) (mO D t i)).rho 99 = ((Ct.at D i).stm (D.blk i).st).a t + occJump.oV (D.blk i) t := fun i => kQ 6
 have n100 : ∀ i, (fnB w D (atB i) (mO D t i)).rho 100 = ((Ct.at D i).stm (D.blk i).st).p t + aP (D.blk i) t := fun i => kQ 7
 have n101 : ∀ i, (fnB w D (atB i) (mO D t i)).rho 101 = aP (D.blk i) t := fun i => kQ 8
 refine @dh _ _ (fun i => fnB w D (atB i) (mO D t i)) fV _ _ (hdO t) _ _ (fun e => by cases e) D.bs.length (bQ _ _ _ _) (fun u hu => ?_) (fun i hi => ?_) ?_ 6 K ok
 ·simp only [apw, apx, or_false] at hu
  rcases hu with rfl | rfl | rfl | rfl
  ·exact dP fun r v hv => hv
  ·exact JM (n93 0)
  ·exact JM (n94 0)
  ·exact JM (n95 0)
 ·have hO : ∀ K (ok : aG K (fnB w D (atB i) (mO D t i)).rho (fnB w D (atB i) (mO D t i)).sig), @Sound ((fnB w D (atB i) (mO D t i)).aH K ok) Tryz.prog rOJ :=
   Ea h ⟨_, Tryz.func82, by kernel_rfl, by kernel_rfl⟩ (occJump.a1j h (atB i) rfl _ hi) (by rfl) fun w' hw => occJump.Xh hw hi (by omega) (okb i hi).2
  have sl := sml i hi
  have bj := block.a3K (D.blk i) (by omega) t
  have hstm := twos.In.stm (inat i hi) (D.blk i).st
  have ba := hstm.a t
  have bp := hstm.p t
  have bP : 0 <= aP (D.blk i) t /\ aP (D.blk i) t <= 1000 := by
   have := sQ (fun op => twos.tH op t) 1 (D.blk i).ops fun x _ => gI _
   unfold aP
   omega
  refine bF (apu.1 a9V t (apy.2 ht)) (fK hO (@aW (fnB w D (atB i) (mO D t i)) _ _ (aT h _ _) (dM h (q := atB i) hi _)) (rows_ok (T := fun K => [(f, nK t K), (fP, rowA t K)]) fun K ok p hp => ?_)) (bQ _ _ _ _) (L := LO) ?_ ?_ (fun p hp => by cases hp) (fun u hu => ?_) rfl (fun K ok => qo (F := F) (cc := fV) fun p hp e => ?_)
  ·simp only [apw, apx, or_false] at hp
   rcases hp with rfl | rfl
   ·exact ⟨F, Tryz.func44, fun c hc => iM DR (rI i hi K ok) hc⟩
   ·exact ⟨FP, Tryz.func80, fun c hc => iM Va (rA i hi K ok) hc⟩
  ·exact (twos.fE h (atB i) (gX (by omega)) _).pin (i := 6) (c := 1) (show b2i (decide ((i : Int) < D.bs.length)) = 1 from (bY _).2 (by omega))
  ·have h0 := aQ D (atB i) (mO D t i)
   refine ⟨fun a c b hm => (by cases hm), ⟨h0.xt.lf, fun a b c hm => ?_, h0.xt.ld, h0.xt.sr, h0.xt.eq⟩⟩
   have hm : (a, b, c) ∈ [(98, nm 0 t, 99), (97, 101, 100)] := hm
   simp only [apw, apx, or_false, Prod.mk.injEq] at hm
   rcases hm with ⟨rfl, rfl, rfl⟩ | ⟨rfl, rfl, rfl⟩
   ·rw [show aF (aK D (atB i) (mO D t i)) 98 = _ from n98 i, show aF (aK D (atB i) (mO D t i)) 99 = _ from n99 i, show aF (aK D (atB i) (mO D t i)) (nm 0 t) = _ from anl ht]
    exact ⟨rfl, by show (-9223372036854775808 : Int) <= _; omega, by show _ <= (9223372036854775807 : Int); omega⟩
   ·rw [show aF (aK D (atB i) (mO D t i)) 97 = _ from n97 i, show aF (aK D (atB i) (mO D t i)) 100 = _ from n100 i, show aF (aK D (atB i) (mO D t i)) 101 = _ from n101 i]
    exact ⟨rfl, by show (-9223372036854775808 : Int) <= _; omega, by show _ <= (9223372036854775807 : Int); omega⟩
  ·obtain ⟨ja, jp, js⟩ := ahi h (D.blk i) ((Ct.at D i).stm (D.blk i).st) t (jmr i hi).2.2
   have hsucc : Ct.at D (i + 1) = ((Ct.at D i).stm (D.blk i).st).jmp (D.blk i) := twos.JR hi
   simp only [usO, apw, apx, or_false] at hu
   rcases hu with rfl | rfl | rfl | rfl
   ·exact dP fun r v hv => hv
   ·exact uf ((n96 i).trans (by rw [n93 (i + 1), hsucc, js]))
   ·refine JI ?_
    have e8 : (fnB w D (atB i) (mO D t i)).rho 8 = ah (D.blk i).pre 0 := rfl
    have eN : (isE 8 4).num (fnB w D (atB i) (mO D t i)).rho = decide (ah (D.blk i).pre 0 = 4) := by
     show (decide (_ = (4 : Int)) && true) = _
     rw [e8, apB]
    rw [eN, n94 (i + 1), hsucc, jp, n100 i, n97 i]
   ·exact uf ((n99 i).trans (by rw [n95 (i + 1), hsucc, ja]))
  ·simp only [apw, apx, or_false] at hp
   rcases hp with rfl | rfl
   ·exact qB VI (rI i hi K ok)
   ·exact absurd e hfP
 ·have e : Ct.at D D.bs.length = Ct.fn D := by unfold Ct.at Ct.fn; rw [List.take_length]
  have f93 : (fnB w D (atB 0) (mF D t)).rho 93 = (Ct.fn D).s t := kQ 0
  have f94 : (fnB w D (atB 0) (mF D t)).rho 94 = (Ct.fn D).p t := kQ 1
  have f95 : (fnB w D (atB 0) (mF D t)).rho 95 = (Ct.fn D).a t := kQ 2
  refine bF (apu.1 ah8 t (apy.2 ht)) (bD (aT h _ _)) (bQ _ _ _ _) (L := LO0) ?_ (aQ D _ _) (fun p hp => by cases hp) (fun u hu => ?_) rfl (bC f fV)
  ·exact (twos.fE h (atB D.bs.length) (gX (by omega)) _).pin (i := 6) (c := 0) (show b2i (decide ((D.bs.length : Int) < D.bs.length)) = 0 by rw [decide_eq_false (by omega)]; rfl)
  ·simp only [apw, apx, or_false] at hu
   rcases hu with rfl | rfl | rfl
   ·exact uf ((n93 _).trans (by rw [e, f93]))
   ·exact uf ((n94 _).trans (by rw [e, f94]))
   ·exact uf ((n95 _).trans (by rw [e, f95]))
theorem a3Q (hs : twos.Sm D) (t : Nat) : LF.Holds (aF (aK D (atB 0) (mF D t))) (fun _ => []) := by
 have hc := twos.alh h hs
 have a := hc.a t
 have p := hc.p t
 have s := hc.s t
 have : ak InI (apA 16 twos.Jl ++ apA 3 twos.Jl) (mF D t) :=
  gG (a := apA 16 twos.Jl) (b := bU [fun _ => 0]) (gG (a := apA 16 twos.Jl) (c := []) (twos.qY fun j => ⟨by decide, by decide⟩) trivial)
   ⟨by show (-9223372036854775808 : Int) <= _ /\ _ <= (9223372036854775807 : Int); omega, by show (-9223372036854775808 : Int) <= _ /\ _ <= (9223372036854775807 : Int); omega, by show (-9223372036854775808 : Int) <= _ /\ _ <= (9223372036854775807 : Int); omega, trivial⟩
 have := lG h (q := atB 0) (gX (by omega)) this (m2 := []) (fun _ => [])
 rwa [apM] at this
theorem af7 (hs : twos.Sm D) (hok : ∀ b ∈ D.bs, made.okB b = true) {t : Nat} (ht : t < 16) : bG f [v, .int .i64 t] w (.bool (SQ D t)) := by
 have hva : ak (@VA (fnB w D (atB 0) (mF D t)) r0) [.g bT, .s (lit t)] [v, .int .i64 t] := ⟨xK h (atB 0) _ r0, rfl, trivial⟩
 unfold SQ
 by_cases hp : D.p < t
 ·rw [decide_eq_true hp, Bool.true_and]
  have hR : jT Tryz.prog (dH iq bW fun K => dR [(f, Xj t K)]) (fnB w D (atB 0) (mF D t)) := fK je (aT h _ _) (rows_ok (T := fun K => [(f, Xj t K)]) fun K ok p hp => by
   obtain rfl := apz.1 hp
   exact ⟨F, Tryz.func44, fun c hc => iM XD (outer h hs hok ht K ok) hc⟩)
  have := jl (b := fnB w D (atB 0) (mF D t)) (w := w) (Nat.le_refl _) (fun _ _ => rfl) hR ((a3Q h hs t).hi (i := 0) (c := (t : Int) - 1) (show D.p <= (t : Int) - 1 by omega)) (aQ D _ _) (fun p hp => by cases hp) hva (apu.1 ahH t (apy.2 ht))
  have e : aev.num (fnB w D (atB 0) (mF D t)).rho = (decide ((Ct.fn D).s t = 1) && (decide ((Ct.fn D).p t = 1) && decide ((Ct.fn D).a t = 2))) := by
   have f93 : (fnB w D (atB 0) (mF D t)).rho 93 = (Ct.fn D).s t := kQ 0
   have f94 : (fnB w D (atB 0) (mF D t)).rho 94 = (Ct.fn D).p t := kQ 1
   have f95 : (fnB w D (atB 0) (mF D t)).rho 95 = (Ct.fn D).a t := kQ 2
   show ((decide (_ = (1 : Int)) && true) && ((decide (_ = (1 : Int)) && true) && (decide (_ = (2 : Int)) && true))) = _
   rw [f93, f94, f95, apB, apB, apB]
  refine bG.of (b := fnB w D (atB 0) (mF D t)) (v := V.s (.bool (aev.num (fnB w D (atB 0) (mF D t)).rho))) (fun r x hx => ?_) this
  rw [e] at hx
  exact hx
 ·rw [decide_eq_false hp, apJ]
  have := jl (b := fnB w D (atB 0) (mF D t)) (w := w) (Nat.le_refl _) (fun _ _ => rfl) (bD (aT h (atB 0) (mF D t))) ((a3Q h hs t).lo (i := 0) (c := (t : Int)) (show (t : Int) <= D.p by omega)) (aQ D _ _) (fun p hp => by cases hp) hva (apu.1 ak7 t (apy.2 ht))
  exact bG.of (b := fnB w D (atB 0) (mF D t)) (v := V.s (.bool false)) (fun r x hx => hx) this
end
end onceR
namespace refC
open Go.RowKit Am
def f : FuncId := 24
def F : Func := Tryz.f24
def ig : Code := dW F 0
def fr3 : List (Nat × S) := [(1, .ptr 0 0), (2, .int .i64 0), (3, .ptr 1 0)]
def hp : Hp := [(1, ⟨kH 0, true⟩), (0, ⟨bT, true⟩)]
def hdT (t : Nat) : St := ⟨iU F.ntmps (fr3 ++ [(4, .int .i64 t)]), ⟨hp, 2⟩⟩
def sN : St := ⟨iU F.ntmps fr3, ⟨hp, 2⟩⟩
def sR : St := ⟨iU F.ntmps [(2, .int .i64 12)], ⟨[], 2⟩⟩
def rOn (t : Nat) (b : Bool) : aS := kU onceR.f [.g bT, .s (.int .i64 t)] (mB b)
def LT : Lf := Lf.of (fJ ++ apA 16 ivB)
def MS (lib : aS) (giv : List (E × Bool)) (hd : St) (x : X) (s1 : St) (hs : HT) : Bool := aJ (dU (dH (fun _ => lib) bW aZ) f eU giv [] ⟨93, 0, 3⟩ ig hd x s1) hs LT
def adz (t : Nat) : Bool := MS (rOn t true) [] (hdT t) .normal (hdT (t + 1)) (.by (nm 0 t) 1 .leaf .leaf)
def aom (t : Nat) : Bool := MS (rOn t false) [(isE (nm 0 t) 1, false)] (hdT t) .normal (hdT (t + 1)) (.by (nm 0 t) 1 .leaf .leaf)
def amF (t : Nat) : Bool := MS (rOn t false) [(isE (nm 0 t) 1, true)] (hdT t) .ret sR (.by (nm 0 t) 1 .leaf .leaf)
theorem a3w : ((apK 16).all adz) = true := by kernel_rfl
theorem aol : ((apK 16).all aom) = true := by kernel_rfl
theorem afg : ((apK 16).all amF) = true := by kernel_rfl
theorem XK : aJ (dU (dH iq bW aZ) f eU [] [] ⟨93, 0, 3⟩ ig (hdT 16) (.exit 0) sN) .leaf LT = true := by kernel_rfl
def rowT (x : X) (s1 : St) (K : Know) : Loops := iW 8 ⟨93, 0, 3⟩ (@thU K []) (hdT 0) x s1
def lib (l : List (FuncId × V)) : Know -> aS := fun _ => Jp (l.map fun p => kU p.1 [.g bT] p.2)
def rL (b : Bool) : FuncId × V := (many.fB, V.s (.bool b))
def rM (b : Bool) : FuncId × V := (madeR.f, V.s (.bool b))
def rT : FuncId × V := (twoR.f, .a (.g (kH 0)))
def run (l : List (FuncId × V)) (rows : Know -> List (FuncId × Loops)) (n : Int) : Bool := aJ (kX (dH (lib l) bW fun K => dR (rows K)) f eU [] [] (fun _ => V.s (.int .i64 n)) [.g bT]) .leaf LT
theorem amE : run [rL true] (fun _ => []) 4 = true := by kernel_rfl
theorem alZ : run [rL false, rM false] (fun _ => []) 8 = true := by kernel_rfl
theorem abv : run [rL false, rM true, rT] (fun K => [(f, rowT .ret sR K)]) 12 = true := by kernel_rfl
theorem alC : run [rL false, rM true, rT] (fun K => [(f, rowT (.exit 0) sN K)]) 0 = true := by kernel_rfl
theorem aan : fM (F.body.getD .skip) 0 8 = true := by kernel_rfl
open twos (Ct)
def NZ (D : FnD) (t : Nat) : Bool := !(Ct.fn D).i t || onceR.SQ D t
def Rn (D : FnD) : Bool := (apK 16).all (NZ D)
def ai4 (D : FnD) : Int := if many.iV D then 4 else if !madeR.vM D then 8 else if !Rn D then 12 else 0
def mF (D : FnD) : List Int := bU [fun j => b2i ((Ct.fn D).i j)] ++ []
theorem LP {D : FnD} (h : madeR.vM D = true) : ∀ b ∈ D.bs, made.okB b = true := fun b hb => by
 unfold madeR.vM at h
 simp only [apv] at h
 have h := apu.1 h.2.2.2.2 b hb
 unfold block.okB at h
 simp only [apv] at h
 unfold made.okB
 rw [apv]
 refine ⟨apu.2 fun st hst => ?_, h.2.1⟩
 have := apu.1 h.1 st hst
 unfold block.okS at this
 rw [apv] at this
 exact this.1
theorem ahy (D : FnD) (t : Nat) : NZ D t = twos.Fg D t := by
 unfold NZ twos.Fg onceR.SQ
 congr 2
 cases decide ((Ct.fn D).s t = 1) <;> cases decide ((Ct.fn D).p t = 1) <;> cases decide ((Ct.fn D).a t = 2) <;> rfl
section
variable {w : World} {v : Value} {D : FnD} (h : aV w v D)
include h
theorem aal (hs : many.iV D = false) (ok : ∀ b ∈ D.bs, made.okB b = true) : twos.Sm D := by
 obtain ⟨_, h2, h3⟩ := check.xU hs
 refine ⟨h2, fun b hb => ⟨h3 b hb, ?_⟩⟩
 have ok := ok b hb
 unfold made.okB at ok
 rw [apv] at ok
 exact F8 (by rw [<- (h.blk b hb).EU.len]; rfl) ok.2
theorem zS : LT.Holds (aF (aK D (atB 0) (mF D))) (fun _ => []) := by
 have : ak InI (apA 16 ivB) (mF D) := gG (a := apA 16 ivB) (c := []) (gG (a := apA 16 ivB) (c := []) (twos.qY fun j => sU _) trivial) trivial
 have := lG h (q := atB 0) (gX (by omega)) this (m2 := []) (fun _ => [])
 rwa [apM] at this
theorem al2 {t : Nat} (ht : t < 16) : aF (aK D (atB 0) (mF D)) (nm 0 t) = b2i ((Ct.fn D).i t) := gV (fs := [fun j => b2i ((Ct.fn D).i j)]) (b := 0) (f := fun j => b2i ((Ct.fn D).i j)) rfl ht
theorem last (hs : twos.Sm D) (hok : ∀ b ∈ D.bs, made.okB b = true) {r : Bool} (hr : Rn D = r) : ∀ K (ok : aG K (fnB w D (atB 0) (mF D)).rho (fnB w D (atB 0) (mF D)).sig), @aO ((fnB w D (atB 0) (mF D)).aH K ok) Tryz.prog (rowT (if r then .exit 0 else .ret) (if r then sN else sR) K) ig := by
 intro K ok
 have hLT := zS h
 have rg : ∀ t, t < 16 -> ∀ b, onceR.SQ D t = b -> jT Tryz.prog (dH (fun _ => rOn t b) bW aZ) (fnB w D (atB 0) (mF D)) := fun t ht b e => by
  refine fK (fun K ok => ?_) (aT h _ _) oU
  refine @dF ((fnB w D (atB 0) (mF D)).aH K ok) _ onceR.f ⟨_, Tryz.func44, by kernel_rfl, by kernel_rfl⟩ _ _ (by rfl) [v, .int .i64 t] ⟨xK h (atB 0) _ r0, rfl, trivial⟩ (.bool b) (fun r => vmB _ r b) fun w' hw => ?_
  rw [<- e]
  exact onceR.af7 (h.frz hw) hs hok ht
 have gv : ∀ t b, t < 16 -> (Ct.fn D).i t = b -> ∀ p ∈ [(isE (nm 0 t) 1, b)], p.1.num (aF (aK D (atB 0) (mF D))) = p.2 := fun t b ht e p hp => by
  obtain rfl := apz.1 hp
  show (decide (_ = (1 : Int)) && true) = b
  rw [al2 h ht, made.eG, apB]
  exact e
 have step : ∀ t, t < 16 -> NZ D t = true -> gZ Tryz.prog (fnB w D (atB 0) (mF D)) (fnB w D (atB 0) (mF D)) ig (hdT t) .normal (hdT (t + 1)) := fun t ht e => by
  cases ho : onceR.SQ D t with
  | true => exact bF (show aJ (dU (dH (fun _ => rOn t true) bW aZ) f eU [] [] ⟨93, 0, 3⟩ ig (hdT t) .normal (hdT (t + 1))) (.by (nm 0 t) 1 .leaf .leaf) LT = true from apu.1 a3w t (apy.2 ht)) (rg t ht true ho) (twos.iP _ _) hLT (aQ D _ _) (fun p hp => by cases hp) (fun u hu => by cases hu) rfl (bC f ig)
  | false =>
   have hi : (Ct.fn D).i t = false := by
    unfold NZ at e
    rw [ho, Bool.or_false, apD] at e
    exact e
   exact bF (show aJ (dU (dH (fun _ => rOn t false) bW aZ) f eU [(isE (nm 0 t) 1, false)] [] ⟨93, 0, 3⟩ ig (hdT t) .normal (hdT (t + 1))) (.by (nm 0 t) 1 .leaf .leaf) LT = true from apu.1 aol t (apy.2 ht)) (rg t ht false ho) (twos.iP _ _) hLT (aQ D _ _) (gv t false ht hi) (fun u hu => by cases hu) rfl (bC f ig)
 cases r with
 | true =>
  refine @Ej _ _ _ ig _ _ hdT _ _ (fun e => by cases e) 16 (twos.iP _ _) (fun u hu => by cases hu) (fun t ht => step t ht (apu.1 hr t (apy.2 ht))) ?_ 8 K ok
  exact bF XK (bD (aT h _ _)) (twos.iP _ _) hLT (aQ D _ _) (fun p hp => by cases hp) (fun u hu => by cases hu) rfl (bC f ig)
 | false =>
  rcases jD (NZ D) 16 with hall | ⟨N, hN, h0, hn⟩
  ·unfold Rn at hr
   rw [apu.2 fun t ht => hall t (apy.1 ht)] at hr
   cases hr
  ·refine @Ej _ _ _ ig _ _ hdT _ _ (fun e => by cases e) N (twos.iP _ _) (fun u hu => by cases hu) (fun t ht => step t (by omega) (h0 t ht)) ?_ 8 K ok
   unfold NZ at hn
   rw [Bool.or_eq_false_iff, Bool.not_eq_false'] at hn
   exact bF (show aJ (dU (dH (fun _ => rOn N false) bW aZ) f eU [(isE (nm 0 N) 1, true)] [] ⟨93, 0, 3⟩ ig (hdT N) .ret sR) (.by (nm 0 N) 1 .leaf .leaf) LT = true from apu.1 afg N (apy.2 hN)) (rg N hN false hn.2) (twos.iP _ _) hLT (aQ D _ _) (gv N true hN hn.1) (fun u hu => by cases hu) rfl (bC f ig)
theorem ak8 : bG f [v] w (.int .i64 (ai4 D)) := by
 have pL : ∀ b, many.iV D = b -> dG Tryz.prog (rL b).1 /\ ∃ u, (∀ (b0 : Base) r, (b0.rho = (fnB w D (atB 0) (mF D)).rho) -> @VV b0 r (rL b).2 u) /\ ∀ w', aV w' v D -> bG (rL b).1 [v] w' u := fun b e => ⟨⟨_, Tryz.func41, by kernel_rfl, by kernel_rfl⟩, .bool b, fun _ _ _ => rfl, fun w' hw => e ▸ many.WU hw⟩
 have pM : ∀ b, madeR.vM D = b -> dG Tryz.prog (rM b).1 /\ ∃ u, (∀ (b0 : Base) r, (b0.rho = (fnB w D (atB 0) (mF D)).rho) -> @VV b0 r (rM b).2 u) /\ ∀ w', aV w' v D -> bG (rM b).1 [v] w' u := fun b e => ⟨⟨_, Tryz.func42, by kernel_rfl, by kernel_rfl⟩, .bool b, fun _ _ _ => rfl, fun w' hw => e ▸ madeR.a5j hw⟩
 have pT : twos.Sm D -> (∀ b ∈ D.bs, made.okB b = true) -> dG Tryz.prog rT.1 /\ ∃ u, (∀ (b0 : Base) r, (b0.rho = (fnB w D (atB 0) (mF D)).rho) -> @VV b0 r rT.2 u) /\ ∀ w', aV w' v D -> bG rT.1 [v] w' u := fun hs hok => ⟨⟨_, Tryz.func43, by kernel_rfl, by kernel_rfl⟩, twos.isV D, fun b0 r e => by
   refine ⟨_, rfl, fZ (by simp [kH]) fun j x u hx hu => ?_⟩
   have hj : j < 16 := by have := (apC.1 hx).1; simpa [kH] using this
   unfold kH at hx
   rw [List.getElem?_map, List.getElem?_range hj] at hx hu
   cases hx
   cases hu
   show Value.bool _ = .bool (decide (b0.rho (nm 0 j) = 1) || false)
   rw [e, show (fnB w D (atB 0) (mF D)).rho (nm 0 j) = _ from al2 h hj, made.eG, Bool.or_false], fun w' hw => twoR.aii hw hs hok⟩
 have go : ∀ {l : List (FuncId × V)} {rows : Know -> List (FuncId × Loops)} {n : Int}, run l rows n = true -> (∀ p ∈ l, dG Tryz.prog p.1 /\ ∃ u, (∀ (b0 : Base) r, (b0.rho = (fnB w D (atB 0) (mF D)).rho) -> @VV b0 r p.2 u) /\ ∀ w', aV w' v D -> bG p.1 [v] w' u) ->
   (∀ K (ok : aG K (fnB w D (atB 0) (mF D)).rho (fnB w D (atB 0) (mF D)).sig), ∀ p ∈ rows K, ∃ F : Func, Tryz.prog.funcs[p.1]? = some F /\ ∀ c, F.body = some c -> Loops.ok (@aO ((fnB w D (atB 0) (mF D)).aH K ok) Tryz.prog p.2) c) -> bG f [v] w (.int .i64 n) := fun {l rows n} hr hl hrows => by
  have hr : aJ (kX (dH (lib l) bW fun K => dR (rows K)) f eU [] [] (fun _ => V.s (.int .i64 n)) [.g bT]) .leaf LT = true := hr
  refine jH h hr (fK (fun K ok => @jL ((fnB w D (atB 0) (mF D)).aH K ok) _ _ fun o ho => ?_) (aT h _ _) (rows_ok hrows)) (zS h) (aQ D _ _) (fun p hp => by cases hp) (fun r x hx => hx)
  obtain ⟨p, hp, rfl⟩ := apE.1 ho
  obtain ⟨h1, u, h2, h3⟩ := hl p hp
  exact @dF ((fnB w D (atB 0) (mF D)).aH K ok) _ p.1 h1 _ _ (by rfl) [v] ⟨xK h (atB 0) (mF D) r0, trivial⟩ u (fun r => h2 _ r rfl) fun w' hw => h3 w' (h.frz hw)
 unfold ai4
 cases e0 : many.iV D with
 | true => exact go amE (fun p hp => by obtain rfl := apz.1 hp; exact pL true e0) (fun K ok p hp => by cases hp)
 | false =>
  cases e1 : madeR.vM D with
  | false => exact go alZ (fun p hp => by
    simp only [apw, apx, or_false] at hp
    rcases hp with rfl | rfl
    ·exact pL false e0
    ·exact pM false e1) (fun K ok p hp => by cases hp)
  | true =>
   have hok := LP e1
   have hs := aal h e0 hok
   have rw3 : ∀ p ∈ [rL false, rM true, rT], dG Tryz.prog p.1 /\ ∃ u, (∀ (b0 : Base) r, (b0.rho = (fnB w D (atB 0) (mF D)).rho) -> @VV b0 r p.2 u) /\ ∀ w', aV w' v D -> bG p.1 [v] w' u := fun p hp => by
    simp only [apw, apx, or_false] at hp
    rcases hp with rfl | rfl | rfl
    ·exact pL false e0
    ·exact pM true e1
    ·exact pT hs hok
   have rl : ∀ r, Rn D = r -> ∀ K (ok : aG K (fnB w D (atB 0) (mF D)).rho (fnB w D (atB 0) (mF D)).sig), ∀ p ∈ [(f, rowT (if r then .exit 0 else .ret) (if r then sN else sR) K)], ∃ F : Func, Tryz.prog.funcs[p.1]? = some F /\ ∀ c, F.body = some c -> Loops.ok (@aO ((fnB w D (atB 0) (mF D)).aH K ok) Tryz.prog p.2) c := fun r e K ok p hp => by
    obtain rfl := apz.1 hp
    exact ⟨F, Tryz.func24, fun c hc => iM aan (last h hs hok e K ok) hc⟩
   cases e2 : Rn D with
   | false => exact go abv rw3 (rl false e2)
   | true => exact go alC rw3 (rl true e2)
end
open twos (Ct)
theorem Ou {F : Nat -> Int} {ls : List Int} {c : Nat} (hr : ∀ l ∈ ls, 0 <= l /\ l <= 15) (hF : ∀ j : Nat, 1 <= F j ↔ (j : Int) ∈ ls) : far.uy F c = ls.any fun l => !decide (l < c) := by
 unfold far.uy
 rw [apH, apL, apL]
 constructor
 ·rintro ⟨j, hj, e⟩
  simp only [apv, decide_eq_true_eq, apD, decide_eq_false_iff_not] at e
  exact ⟨j, (hF j).1 (by omega), by rw [apD, decide_eq_false_iff_not]; omega⟩
 ·rintro ⟨l, hl, e⟩
  rw [apD, decide_eq_false_iff_not] at e
  have h := hr l hl
  refine ⟨l.toNat, apy.2 (by omega), ?_⟩
  have hp := (hF l.toNat).2 (by rw [show ((l.toNat : Nat) : Int) = l by omega]; exact hl)
  simp only [apv, decide_eq_true_eq, apD, decide_eq_false_iff_not]
  omega
theorem Uo {α : Type} {f : α -> Bool} : ∀ l : List α, (0 <= acc (fun x => b2i (f x)) l) /\ (1 <= acc (fun x => b2i (f x)) l ↔ ∃ x ∈ l, f x = true)
 | [] => ⟨Int.le_refl _, by simp [acc]⟩
 | x :: l => by
  obtain ⟨h1, h2⟩ := Uo (f := f) l
  show 0 <= b2i (f x) + acc _ l /\ (1 <= b2i (f x) + acc _ l ↔ _)
  cases hx : f x with
  | true =>
   have : b2i true = 1 := rfl
   exact ⟨by omega, ⟨fun _ => ⟨x, by simp, hx⟩, fun _ => by omega⟩⟩
  | false =>
   have : b2i false = 0 := rfl
   refine ⟨by omega, ⟨fun h => ?_, fun ⟨y, hy, e⟩ => ?_⟩⟩
   ·obtain ⟨y, hy, e⟩ := h2.1 (by omega)
    exact ⟨y, by simp [hy], e⟩
   ·rcases apw.1 hy with rfl | hy
    ·rw [hx] at e; cases e
    ·have := h2.2 ⟨y, hy, e⟩; omega
theorem ajx (ls : List Int) (j : Nat) : 1 <= cnt ls j ↔ (j : Int) ∈ ls := by
 unfold cnt
 rw [(Uo (f := fun l : Int => decide (l = (j : Int))) ls).2]
 constructor
 ·rintro ⟨x, hx, e⟩
  rw [decide_eq_true_iff] at e
  rwa [<- e]
 ·exact fun h => ⟨_, h, decide_eq_true rfl⟩
theorem all_congr {α : Type} {l : List α} {p q : α -> Bool} (h : ∀ x ∈ l, p x = q x) : l.all p = l.all q := by
 induction l with
 | nil => rfl
 | cons x l ih => rw [apG, apG, h x (by simp), ih fun y hy => h y (by simp [hy])]
theorem apg : (aJ (noT [(dn, true)]) .leaf (((Lf.of (ivU 26)).pin 0 1).hi 4 0) && aJ (noT [(dn, true)]) .leaf (((Lf.of (ivU 26)).pin 0 1).lo 4 6)) = true := by kernel_rfl
theorem aiW {st : List Value} (h : ak Kd.ok vW st) (hv : dn.val st = true) (h1 : ah st 0 = 1) : 1 <= ah st 4 /\ ah st 4 <= 5 := by
 have h0 : (Lf.of (ivU 26)).Holds (ah st) (fun _ => []) := Gw h rfl
 have r := apg
 rw [apv] at r
 have hg : ∀ p ∈ [(dn, true)], p.1.num (ah st) = p.2 := fun p hp => by
  obtain rfl := apz.1 hp
  exact (E.iR _ _).symm.trans hv
 constructor
 ·apply Decidable.byContradiction; intro hc; exact cannot r.1 ((h0.pin (i := 0) (c := 1) h1).hi (i := 4) (c := 0) (by omega)) hg
 ·apply Decidable.byContradiction; intro hc; exact cannot r.2 ((h0.pin (i := 0) (c := 1) h1).lo (i := 4) (c := 6) (by omega)) hg
theorem aj7 (nL : Int) (st : List Value) : oP nL st = ((!decide (ah st 0 = 3) || decide (ah st 25 < nL)) && ((!(decide (ah st 0 = 2) || decide (ah st 0 = 4)) || (decide (ah st 20 = 1) || decide (ah st 22 < nL))) &&
  (!decide (ah st 0 = 1) || (decide (ah st 1 < nL) && ((!(decide (ah st 4 = 4) || decide (ah st 4 = 5)) || decide (ah st 17 < nL)) && ((!!(decide (ah st 4 = 4) || decide (ah st 4 = 5)) || (decide (ah st 7 = 1) || decide (ah st 9 < nL))) && (!(decide (ah st 4 = 2) || decide (ah st 4 = 3)) || (decide (ah st 12 = 1) || decide (ah st 14 < nL))))))))) := by
 have s : ∀ i, i < 26 -> stV nL st i = ah st i := fun i hi => by unfold stV; rw [if_pos hi]
 have s26 : stV nL st 26 = b2i (decide (ah st 25 < nL)) := rfl
 have s27 : stV nL st 27 = b2i (decide (ah st 1 < nL)) := rfl
 have s28 : stV nL st 28 = b2i (decide (ah st 9 < nL)) := rfl
 have s29 : stV nL st 29 = b2i (decide (ah st 14 < nL)) := rfl
 have s30 : stV nL st 30 = b2i (decide (ah st 17 < nL)) := rfl
 have s31 : stV nL st 31 = b2i (decide (ah st 22 < nL)) := rfl
 unfold oP
 simp only [Z9, ands, imp, isE, E.num, apG, List.all_nil, apB, s 0 (by decide), s 4 (by decide), s 7 (by decide), s 12 (by decide), s 20 (by decide), s26, s27, s28, s29, s30, s31, made.eG]
theorem aby (st : List Value) : twos.jZ st = twos.jy [decide (ah st 0 = 3), (decide (ah st 0 = 2) || decide (ah st 0 = 4)) && !decide (ah st 20 = 1), decide (ah st 0 = 1), decide (ah st 0 = 1) && (decide (ah st 4 = 4) || decide (ah st 4 = 5)),
  decide (ah st 0 = 1) && (!(decide (ah st 4 = 4) || decide (ah st 4 = 5)) && !decide (ah st 7 = 1)), decide (ah st 0 = 1) && (!(decide (ah st 4 = 1) || (decide (ah st 4 = 4) || decide (ah st 4 = 5))) && !decide (ah st 12 = 1))] := by
 unfold twos.jZ
 simp only [twos.xQ, List.map_cons, List.map_nil, ands, isE, E.num, apG, List.all_nil, apB]
theorem anL {st : List Value} (h : ak Kd.ok vW st) (hv : dn.val st = true) (nL : Nat) : (!far.uy (twos.sK st) nL) = oP nL st := by
 have rg := fun c hc => EI h hv (c := c) hc
 have hl : ∀ l ∈ (twos.gu (twos.jZ st)).map (ah st), 0 <= l /\ l <= 15 := fun l hl => by
  obtain ⟨c, hc, rfl⟩ := apE.1 hl
  refine rg c ?_
  unfold twos.gu at hc
  split at hc <;> simp only [apw, apx, or_false] at hc |- <;> omega
 rw [Ou (F := twos.sK st) hl (fun j => ajx _ j), aj7, aby]
 have kd := aiW h hv
 by_cases h1 : ah st 0 = 1
 ·obtain ⟨k1, k2⟩ := kd h1
  have h4 : ah st 4 = 1 \/ ah st 4 = 2 \/ ah st 4 = 3 \/ ah st 4 = 4 \/ ah st 4 = 5 := by omega
  rcases h4 with h4 | h4 | h4 | h4 | h4 <;> by_cases h7 : ah st 7 = 1 <;> by_cases h12 : ah st 12 = 1 <;> simp [h1, h4, h7, h12, twos.jy, twos.gu]
 ·by_cases h3 : ah st 0 = 3
  ·simp [h3, twos.jy, twos.gu]
  ·by_cases h2 : ah st 0 = 2
   ·by_cases h20 : ah st 20 = 1 <;> simp [h2, h20, twos.jy, twos.gu]
   ·by_cases h4 : ah st 0 = 4
    ·by_cases h20 : ah st 20 = 1 <;> simp [h4, h20, twos.jy, twos.gu]
    ·simp [h1, h2, h3, h4, twos.jy, twos.gu]
theorem anU {w : World} {v : Value} {D : FnD} (h : aV w v D) {i : Nat} (hi : i < D.bs.length) (hok : A8 (D.blk i) = true) : (!far.uy (occJump.oV (D.blk i)) D.ls.length && block.ag6 D.bs.length (D.blk i)) = made.Z8 D.ls.length D.bs.length (D.blk i) := by
 have hj := vC h hi
 obtain ⟨p3, q0, jo⟩ := Fp hj hok
 obtain ⟨_, _, m3⟩ := UR hj hok
 have ops : ∀ op ∈ (D.blk i).ops, 0 <= ah op 2 /\ ah op 2 <= 15 := fun op hop => by
  obtain ⟨k, hk⟩ := apF hop
  have hl := (apC.1 hk).1
  obtain ⟨o1, o2⟩ := PD h hi hl
  obtain rfl : op = D.opd i k := Option.some.inj (hk.symm.trans o2)
  refine MX o1 ?_
  rcases jo with e | e
  ·exact apu.1 e _ hop
  ·omega
 generalize D.blk i = b at *
 unfold made.Z8 block.ag6
 by_cases h2 : ah b.pre 0 = 2
 ·by_cases h1 : ah b.pre 1 = 1
  ·have e : far.uy (occJump.oV b) D.ls.length = false := by
    rw [Ou (ls := []) (fun l hl => by cases hl) (fun j => by unfold occJump.oV; rw [if_pos h2, if_pos h1]; simp)]
    rfl
   rw [e]
   simp [h2, h1]
  ·have e : far.uy (occJump.oV b) D.ls.length = !decide (ah b.pre 3 < D.ls.length) := by
    rw [Ou (ls := [ah b.pre 3]) (fun l hl => by obtain rfl := apz.1 hl; exact p3) (fun j => by
     unfold occJump.oV
     rw [if_pos h2, if_neg h1, apz]
     show 1 <= (0 : Int) + b2i (decide (ah b.pre 3 = (j : Int))) ↔ _
     by_cases e : ah b.pre 3 = (j : Int)
     ·rw [decide_eq_true e]; exact ⟨fun _ => e.symm, fun _ => by decide⟩
     ·rw [decide_eq_false e]; exact ⟨fun k => absurd k (by decide), fun k => absurd k.symm e⟩)]
    simp
   rw [e]
   simp [h2, h1]
 ·by_cases h4 : ah b.pre 0 = 4
  ·have e : far.uy (occJump.oV b) D.ls.length = (!decide (ah b.post 0 < D.ls.length) || b.ops.any fun op => !decide (ah op 0 = 1) && !decide (ah op 2 < D.ls.length)) := by
    rw [Ou (ls := ah b.post 0 :: (b.ops.filter fun op => !decide (ah op 0 = 1)).map fun op => ah op 2) (fun l hl => by
      rcases apw.1 hl with rfl | hl
      ·exact q0
      ·obtain ⟨op, hop, rfl⟩ := apE.1 hl
       exact ops op (apI.1 hop).1) (fun j => by
     unfold occJump.oV
     rw [if_neg h2, if_pos h4]
     obtain ⟨a1, a2⟩ := Uo (f := fun op => !decide (ah op 0 = 1) && decide (ah op 2 = (j : Int))) b.ops
     show 1 <= acc (fun op => b2i (!decide (ah op 0 = 1) && decide (ah op 2 = (j : Int)))) b.ops + b2i (decide (ah b.post 0 = (j : Int))) ↔ _
     by_cases e : ah b.post 0 = (j : Int)
     ·rw [decide_eq_true e]
      have : b2i true = 1 := rfl
      exact ⟨fun _ => by rw [e]; simp, fun _ => by omega⟩
     ·rw [decide_eq_false e]
      have : b2i false = 0 := rfl
      rw [show acc (fun op => b2i (!decide (ah op 0 = 1) && decide (ah op 2 = (j : Int)))) b.ops + b2i false = acc (fun op => b2i (!decide (ah op 0 = 1) && decide (ah op 2 = (j : Int)))) b.ops by omega, a2]
      constructor
      ·rintro ⟨op, hop, e⟩
       rw [apv, decide_eq_true_iff] at e
       exact List.mem_cons_of_mem _ (apE.2 ⟨op, apI.2 ⟨hop, e.1⟩, e.2⟩)
      ·intro hm
       rcases apw.1 hm with hm | hm
       ·exact absurd hm.symm e
       ·obtain ⟨op, hop, e⟩ := apE.1 hm
        obtain ⟨k1, k2⟩ := apI.1 hop
        exact ⟨op, k1, by rw [apv, decide_eq_true_iff]; exact ⟨k2, e⟩⟩)]
    rw [List.any_cons, List.any_map, List.any_filter]
    rfl
   rw [e]
   have eo : (b.ops.all (tC D.ls.length)) = !(b.ops.any fun op => !decide (ah op 0 = 1) && !decide (ah op 2 < D.ls.length)) := by
    rw [List.not_any_eq_all_not]
    refine all_congr fun op _ => ?_
    unfold tC
    cases decide (ah op 0 = 1) <;> cases decide (ah op 2 < D.ls.length) <;> rfl
   rw [eo]
   simp [h4]
  ·have e : far.uy (occJump.oV b) D.ls.length = false := by
    rw [Ou (ls := []) (fun l hl => by cases hl) (fun j => by unfold occJump.oV occJump.LC; rw [if_neg h2, if_neg h4, m3 h4]; simp [acc])]
    rfl
   rw [e]
   simp [h2, h4]
theorem agC {w : World} {v : Value} {D : FnD} (h : aV w v D) {i : Nat} (hi : i < D.bs.length) : block.okB D (D.blk i) = (made.okB (D.blk i) && made.WO D.ls.length D.bs.length (D.blk i)) := by
 have e1 : (D.blk i).st.all (block.okS D) = ((D.blk i).st.all (fun st => dn.val st) && (D.blk i).st.all (oP D.ls.length)) := by
  rw [apH, apv, apu, apu, apu]
  have key : ∀ st ∈ (D.blk i).st, dn.val st = true -> (!far.uy (twos.sK st) D.ls.length) = oP D.ls.length st := fun st hst hv => by
   obtain ⟨k, hk⟩ := apF hst
   have hl := (apC.1 hk).1
   obtain ⟨o1, o2⟩ := Dk h hi hl
   obtain rfl : st = D.stm i k := Option.some.inj (hk.symm.trans o2)
   exact anL o1 hv _
  constructor
  ·intro ha
   have ha' : ∀ st ∈ (D.blk i).st, dn.val st = true /\ (!far.uy (twos.sK st) D.ls.length) = true := fun st hst => by
    have := ha st hst
    unfold block.okS at this
    rwa [apv] at this
   exact ⟨fun st hst => (ha' st hst).1, fun st hst => (key st hst (ha' st hst).1) ▸ (ha' st hst).2⟩
  ·rintro ⟨a, b⟩ st hst
   unfold block.okS
   rw [key st hst (a st hst), a st hst, b st hst]
   rfl
 unfold block.okB made.okB made.WO
 rw [e1]
 cases hv : A8 (D.blk i) with
 | false => rw [apJ, Bool.and_false, Bool.and_false, apJ]
 | true =>
  rw [Bool.true_and, apB, anU h hi hv, Bool.and_assoc]
theorem ahX {w : World} {v : Value} {D : FnD} (h : aV w v D) (hm : many.iV D = false) : madeR.vM D = made.kV D := by
 have e : D.bs.all (block.okB D) = (D.bs.all made.okB && D.bs.all (made.WO D.ls.length D.bs.length)) := by
  have key : ∀ b ∈ D.bs, block.okB D b = (made.okB b && made.WO D.ls.length D.bs.length b) := fun b hb => by
   obtain ⟨i, hi⟩ := apF hb
   have hl := (apC.1 hi).1
   have : D.blk i = b := by unfold FnD.blk; rw [List.getD_eq_getElem?_getD, hi]; rfl
   rw [<- this]
   exact agC h hl
  rw [all_congr key, apH, apv, apu, apu, apu]
  simp only [apv]
  exact ⟨fun k => ⟨fun b hb => (k b hb).1, fun b hb => (k b hb).2⟩, fun k b hb => ⟨k.1 b hb, k.2 b hb⟩⟩
 unfold madeR.vM made.kV head.mM madeR.guard head.guard
 rw [hm, e]
 cases decide (0 < D.ls.length) <;> cases decide (0 < D.bs.length) <;> cases decide (0 <= D.p) <;> cases decide (D.p <= 8) <;> cases decide (D.p < D.ls.length) <;> cases D.ls.all ng <;> cases head.Z5 D <;> rfl
theorem alP {w : World} {v : Value} {D : FnD} (h : aV w v D) : ai4 D = check.jK D := by
 unfold ai4 check.jK
 cases hm : many.iV D with
 | true => rfl
 | false =>
  rw [ahX h hm, show Rn D = twos.rQ D from all_congr fun t _ => ahy D t]
theorem a0E {w : World} {v : Value} {D : FnD} (h : aV w v D) : bG f [v] w (.int .i64 (check.jK D)) := alP h ▸ ak8 h
end refC
end Go.Proofs.YtglmonlofejcgaaGreatDoor
