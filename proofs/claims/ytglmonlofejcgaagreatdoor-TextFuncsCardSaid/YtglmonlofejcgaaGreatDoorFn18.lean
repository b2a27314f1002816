/- The reference's OccursJump. The reference's block and Made, as the machine runs them. -/
import Derived.Test.YtglmonlofejcgaaGreatDoorFn16
set_option linter.unusedVariables false
set_option linter.unusedSectionVars false
set_option maxRecDepth 100000
namespace Go.Proofs.YtglmonlofejcgaaGreatDoor.occJump
open Go.RowKit Am
noncomputable def f : FuncId := 82
noncomputable def F : Func := Tryz.f82
noncomputable def iy : Code := dS F 0
noncomputable def keep : List (Nat × S) := [(1, .ptr 0 0), (2, .ptr 1 0), (3, .ptr 2 0)]
def hp (n : Nat) : Hp := [(2, ⟨bJ n, true⟩), (1, ⟨jg, true⟩), (0, ⟨lW, true⟩)]
noncomputable def hdA : St := ⟨iM F.ntmps (keep ++ [(4, .rv 4), (5, .xi .i64 50)]), ⟨hp 0, 3⟩⟩
noncomputable def sNA : St := ⟨iM F.ntmps keep, ⟨hp 0, 3⟩⟩
def T : List Cnt := [⟨0, 1, 55, 109⟩]
def Et : E := .not (isE 53 1)
def okN : E := (bn 0).ren (53 + ·)
def us : List Upd := isU (.xi .i64 50) (.xi .i64 51) :: nG 0 [Et] (fun bs => bif bs.headD false then 1 else 0)
noncomputable def LA : Lf := twos.kX (((Lf.of (fE ++ [])).pin 6 1).pin 52 1) 55
noncomputable def LA0 : Lf := ((Lf.of (fE ++ [])).pin 6 1).pin 52 0
theorem DC : aI (dQ (dH gZ (bW.app (iG.app ae5)) aX) f (RY T) [(okN, true)] us ⟨21, 0, 5⟩ iy hdA .normal hdA) (occurs.op4 53 .leaf) LA = true := by kernel_rfl
theorem MF : aI (dQ (dH gZ (bW.app iG) aX) f eu [] (iL 0 0) ⟨21, 0, 5⟩ iy hdA (.exit 0) sNA) .leaf LA0 = true := by kernel_rfl
def Zj : List Yr := [⟨2, 11, 125⟩]
def Tj : List Cnt := [⟨0, 1, 18, 127⟩]
noncomputable def rowA (K : Know) : Loops := iP 5 ⟨21, 0, 5⟩ (@thU K (isU (.xi .i64 50) (.int .i64 0) :: oL 0)) hdA (.exit 0) sNA
def isB : E := isE 8 2
def brN : E := .and (isE 8 2) (.not (isE 9 1))
def caN : E := isE 8 4
def okA : E := imp (isE 8 2) ((bn 1).ren (8 + ·))
def out (bs : List Bool) : V := .a (.g (bif bs.headD false then bJ 2 else bif (bs.drop 1).headD false then jg else bif (bs.drop 2).headD false then bJ 1 else bJ 0))
def tree : HT := .on 8 2 .leaf (.on 8 3 (occurs.op4 9 .leaf) (.on 8 4 .leaf (.on 8 5 .leaf .leaf)))
noncomputable def LJ : Lf := twos.kX (twos.kX ((Lf.of (fE ++ [])).pin 6 1) 11) 18
theorem pG : aI (kG (dH gZ (bW.app iG) fun K => dP [(f, rowA K)]) f (Un Zj Tj) [(okA, true)] [brN, isB, caN] out [.g lW]) tree LJ = true := by kernel_rfl
theorem RX : fH (F.body.getD .skip) 0 5 = true := by kernel_rfl
def Rq (b : bH) (m : Nat) (j : Nat) : Int := acc (fun op => twos.xQ op j) (b.ops.take m)
def MJ (b : bH) (j : Nat) : Int := acc (fun op => twos.xQ op j) b.ops
def nN (b : bH) (j : Nat) : Int := if ah b.pre 0 = 2 then (if ah b.pre 1 = 1 then 0 else bump occurs.o0 (ah b.pre 3) j) else if ah b.pre 0 = 4 then bump (MJ b) (ah b.post 0) j else MJ b j
def mA (D : FnD) (i m : Nat) : List Int := bU [Rq (D.blk i) m, bump (Rq (D.blk i) m) (ah (D.opd i m) 2)] ++ twos.tZ (Rq (D.blk i) m) (ah (D.opd i m) 2)
def abj (b : bH) : List (Nat -> Int) := [MJ b, bump (MJ b) (ah b.post 0), bump occurs.o0 (ah b.pre 3)]
def mJ (b : bH) : List Int := bU (abj b) ++ ([0, 1] ++ twos.tZ (MJ b) (ah b.post 0))
theorem aa2 (l : List (List Value)) (j : Nat) : 0 <= acc (fun op => twos.xQ op j) l /\ acc (fun op => twos.xQ op j) l <= l.length := by
 have := rD (fun op => twos.xQ op j) 1 l fun x _ => iY _
 omega
section
variable {w : World} {v : Value} {D : FnD} (h : aT w v D)
include h
theorem YB {i : Nat} (q : At) (hq : q.i = i) (m : List Int) (hi : i < D.bs.length) : ak (@VA (fnB w D q m) r0) [.g lW] [.agg ((D.blk i).pre ++ (D.blk i).a :: (D.blk i).post).toArray] := by
 have hc := ES h hi q hq m
 refine ⟨⟨_, rfl, fC hc.len fun n x u hx hu => ?_⟩, trivial⟩
 obtain ⟨u', hu', e⟩ := ak.nth hc (n := n) (x := x) (by rw [aK]; exact hx)
 rw [hu] at hu'
 cases hu'
 exact e r0
theorem args {i : Nat} (hi : i < D.bs.length) (hB : D.bs.length <= 1000) (hA : (D.blk i).ops.length <= 1000) (hok : ((D.blk i).ops.all fun el => (bn 0).val el) = true) : ∀ K (ok : aG K (fnB w D (atB i) (mJ (D.blk i))).rho (fnB w D (atB i) (mJ (D.blk i))).sig), @aO ((fnB w D (atB i) (mJ (D.blk i))).aH K ok) Tryz.prog (rowA K) iy := by
 intro K ok
 have fit : ∀ k, k <= (D.blk i).ops.length -> Fits D (made.atM i k) := fun k hk => gU ⟨by show i <= 1000; omega, Nat.zero_le _, by show k <= 1000; omega, Nat.zero_le _⟩
 have okk := (iC (D.blk i).ops [] fun el => (bn 0).val el).2 hok
 have r0 : ∀ k b G, [Rq (D.blk i) k, bump (Rq (D.blk i) k) (ah (D.opd i k) 2)][b]? = some G -> ∀ j, j < 16 -> (fnB w D (made.atM i k) (mA D i k)).rho (nm b j) = G j := fun k b G e j hj => gI e hj
 have ub : ∀ u ∈ isU (.xi .i64 50) (.int .i64 0) :: oL 0, ig (fnB w D (atB i) (mJ (D.blk i))) (fnB w D (made.atM i 0) (mA D i 0)) u := fun u hu => by
  rcases List.mem_cons.1 hu with rfl | hu
  ·exact dN fun r v hv => hv
  exact uM (fun j hj => r0 0 0 _ rfl j hj) u hu
 refine @cZ _ _ (fun k => fnB w D (made.atM i k) (mA D i k)) iy _ _ hdA _ _ (fun e => by cases e) (D.blk i).ops.length (bK (atB i) (made.atM i 0) rfl _ _) ub (fun k hk => ?_) ?_ 5 K ok
 ·have rg := Jm (KI h hi hk).1 (okk k hk)
  have hfx : uj (RY T) (aF (aJ D (made.atM i k) (mA D i k))) := by
   refine Dv (aQ D _ _) fun t ht => ?_
   obtain rfl := List.mem_singleton.1 ht
   have l55 : aF (aJ D (made.atM i k) (mA D i k)) 55 = ah (D.opd i k) 2 := rfl
   unfold mA at l55 |-
   refine jD (N := 2) (n := 0) (M := 1000) rfl rfl (by rw [l55]; rfl) rfl (by rw [l55]; rfl) (by rw [l55]; rfl) (fun j => ?_) (by decide)
   have := aa2 ((D.blk i).ops.take k) j
   have hl : ((D.blk i).ops.take k).length <= 1000 := by rw [List.length_take]; omega
   show 0 <= acc _ _ /\ acc _ _ <= (1000 : Int)
   omega
  refine bG DC (bg (@aV (fnB w D (made.atM i k) (mA D i k)) _ _ (aU h _ _) (@aV (fnB w D (made.atM i k) (mA D i k)) _ _ (dL h (q := made.atM i k) hi _) (IB h (q := made.atM i k) hi hk _)))) (bK (made.atM i k) (made.atM i (k + 1)) rfl _ _) (L := LA) ?_ hfx (fun p hp => ?_) (fun u hu => ?_) rfl (bf f iy)
  ·have hb := ((twos.eH h (made.atM i k) (fit k (by omega)) (mA D i k)).pin (i := 6) (c := 1) (show b2i (decide ((i : Int) < D.bs.length)) = 1 from (bY _).2 (by omega))).pin (i := 52) (c := 1) (show b2i (decide ((k : Int) < (D.blk i).ops.length)) = 1 from (bY _).2 (by omega))
   exact (hb.lo (i := 55) (c := 0) (show 0 <= ah (D.opd i k) 2 from rg.1)).hi (i := 55) (c := 15) (show ah (D.opd i k) 2 <= 15 from rg.2)
  ·obtain rfl := List.mem_singleton.1 hp
   exact (Zw (made.atM i k) _ (e := bn 0) rfl).trans ((E.jh _ _).symm.trans (okk k hk))
  ·have e53 : (fnB w D (made.atM i k) (mA D i k)).rho 53 = ah (D.opd i k) 0 := rfl
   have sa : ∀ j, Rq (D.blk i) (k + 1) j = Rq (D.blk i) k j + twos.xQ (D.opd i k) j := fun j => by show acc _ _ = acc _ _ + _; rw [pY _ _ [] hk]; rfl
   rcases List.mem_cons.1 hu with rfl | hu
   ·exact dN fun r v hv => hv
   refine dG (fun j hj => ?_) u hu
   have eN : Et.num (fnB w D (made.atM i k) (mA D i k)).rho = !decide (ah (D.opd i k) 0 = 1) := by
    show (!(decide (_ = (1 : Int)) && true)) = _
    rw [e53, Bool.and_true]
   simp only [List.map_cons, List.map_nil, List.headD_cons]
   rw [eN, r0 (k + 1) 0 _ rfl j hj, sa j]
   unfold twos.xQ
   cases hp : (!decide (ah (D.opd i k) 0 = 1)) with
   | false => rw [cond_false, r0 k 0 _ rfl j hj, Bool.false_and]; show _ = _ + (0 : Int); omega
   | true => rw [cond_true, r0 k 1 _ rfl j hj, Bool.true_and]; rfl
 ·refine bG MF (bg (@aV (fnB w D (made.atM i _) (mA D i _)) _ _ (aU h _ _) (dL h (q := made.atM i _) hi _))) (bK (made.atM i (D.blk i).ops.length) (atB i) rfl _ _) (L := LA0) ?_ (aQ D _ _) (fun p hp => by cases hp) (fun u hu => ?_) rfl (bf f iy)
  ·exact ((twos.eH h _ (fit _ (Nat.le_refl _)) _).pin (i := 6) (c := 1) (show b2i (decide ((i : Int) < D.bs.length)) = 1 from (bY _).2 (by omega))).pin (i := 52) (c := 0) (show b2i (decide (((D.blk i).ops.length : Int) < (D.blk i).ops.length)) = 0 by rw [decide_eq_false (by omega)]; rfl)
  ·have rr := r0 (D.blk i).ops.length
   refine dG (fun j hj => ?_) u hu
   refine (rr 0 _ rfl j hj).trans ((show Rq (D.blk i) (D.blk i).ops.length j = MJ (D.blk i) j by unfold Rq MJ; rw [List.take_length]).trans ?_)
   exact (gI (D := D) (q := atB i) (fs := abj (D.blk i)) (b := 0) rfl hj).symm
theorem Vb {i : Nat} (hi : i < D.bs.length) (hB : D.bs.length <= 1000) (hok : zi (D.blk i) = true) : bF f [.agg ((D.blk i).pre ++ (D.blk i).a :: (D.blk i).post).toArray] w (nZ (nN (D.blk i))) := by
 have hj := uq h hi
 obtain ⟨⟨j1, j2⟩, ⟨j3, j4⟩, jo⟩ := DX hj hok
 obtain ⟨m1, m2, m3⟩ := Rz hj hok
 have hl8 : (D.blk i).ops.length <= 8 := Dw (iD hj) hok
 have ops : ((D.blk i).ops.all fun el => (bn 0).val el) = true := by
  rcases jo with e | e
  ·exact e
  ·rw [List.eq_nil_of_length_eq_zero e]; rfl
 have hb := (twos.eH h (atB i) (gG (by omega)) (mJ (D.blk i))).pin (i := 6) (c := 1) (show b2i (decide ((i : Int) < D.bs.length)) = 1 from (bY _).2 (by omega))
 have hL : LJ.Holds (aF (aJ D (atB i) (mJ (D.blk i)))) (fun _ => []) := (((hb.lo (i := 11) (c := 0) j1).hi (i := 11) (c := 15) j2).lo (i := 18) (c := 0) j3).hi (i := 18) (c := 15) j4
 have l11 : aF (aJ D (atB i) (mJ (D.blk i))) 11 = ah (D.blk i).pre 3 := rfl
 have l18 : aF (aJ D (atB i) (mJ (D.blk i))) 18 = ah (D.blk i).post 0 := rfl
 have hfx : uj (Un Zj Tj) (aF (aJ D (atB i) (mJ (D.blk i)))) := by
  unfold mJ at l11 l18 |-
  refine UW (aQ D _ _) (fun t ht => ?_) (fun t ht => ?_)
  ·obtain rfl := List.mem_singleton.1 ht
   exact Il (N := 3) (n := 0) rfl (by rw [l11]; rfl) rfl rfl rfl
  ·obtain rfl := List.mem_singleton.1 ht
   refine jD (N := 3) (n := 2) (M := 1000) rfl rfl (by rw [l18]; rfl) rfl (by rw [l18]; rfl) (by rw [l18]; rfl) (fun j => ?_) (by decide)
   have := aa2 (D.blk i).ops j
   show 0 <= acc _ _ /\ acc _ _ <= (1000 : Int)
   omega
 have hR : jG Tryz.prog (dH gZ (bW.app iG) fun K => dP [(f, rowA K)]) (fnB w D (atB i) (mJ (D.blk i))) :=
  fG iR (@aV (fnB w D (atB i) (mJ (D.blk i))) _ _ (aU h _ _) (dL h (q := atB i) hi _)) (rows_ok (T := fun K => [(f, rowA K)]) fun K ok p hp => by
   obtain rfl := List.mem_singleton.1 hp
   exact ⟨F, Tryz.func82, fun c hc => iF RX (args h hi hB (by omega) ops K ok) hc⟩)
 have e8 : (fnB w D (atB i) (mJ (D.blk i))).rho 8 = ah (D.blk i).pre 0 := rfl
 have e9 : (fnB w D (atB i) (mJ (D.blk i))).rho 9 = ah (D.blk i).pre 1 := rfl
 have isN : ∀ n c, (isE n c).num (fnB w D (atB i) (mJ (D.blk i))).rho = decide ((fnB w D (atB i) (mJ (D.blk i))).rho n = c) := fun n c => by show (decide _ && true) = _; rw [Bool.and_true]
 have := iW (b := fnB w D (atB i) (mJ (D.blk i))) (w := w) (Nat.le_refl _) (fun _ _ => rfl) hR hL hfx (fun p hp => by
  obtain rfl := List.mem_singleton.1 hp
  show (!(isE 8 2).num _ || ((bn 1).ren (8 + ·)).num _) = true
  rw [isN, e8, show ((bn 1).ren (8 + ·)).num (fnB w D (atB i) (mJ (D.blk i))).rho = _ from ag6 (atB i) _ (e := bn 1) rfl]
  by_cases h2 : ah (D.blk i).pre 0 = 2
  ·rw [show (D.blk (atB i).i) = D.blk i from rfl, m1 h2, Bool.or_true]
  ·rw [decide_eq_false h2]; rfl) (YB h (atB i) rfl _ hi) pG
 refine this.mono fun x w' ⟨u, r, e1, e2, e3⟩ => ⟨?_, e3⟩
 rw [e1]
 congr 1
 have eb : brN.num (fnB w D (atB i) (mJ (D.blk i))).rho = (decide (ah (D.blk i).pre 0 = 2) && !decide (ah (D.blk i).pre 1 = 1)) := by
  show ((isE 8 2).num _ && !(isE 9 1).num _) = _
  rw [isN, isN, e8, e9]
 have ei : isB.num (fnB w D (atB i) (mJ (D.blk i))).rho = decide (ah (D.blk i).pre 0 = 2) := by unfold isB; rw [isN, e8]
 have ec : caN.num (fnB w D (atB i) (mJ (D.blk i))).rho = decide (ah (D.blk i).pre 0 = 4) := by unfold caN; rw [isN, e8]
 have rj : ∀ b G, (abj (D.blk i))[b]? = some G -> ∀ j, j < 16 -> (fnB w D (atB i) (mJ (D.blk i))).rho (nm b j) = G j := fun b G e j hj => gI e hj
 unfold out at e2
 simp only [List.map_cons, List.map_nil, List.headD_cons, List.drop_succ_cons, List.drop_zero] at e2
 rw [eb, ei, ec] at e2
 by_cases h2 : ah (D.blk i).pre 0 = 2
 ·by_cases h1 : ah (D.blk i).pre 1 = 1
  ·rw [decide_eq_true h2, decide_eq_true h1] at e2
   exact J7 (fun j hj => by unfold nN; rw [if_pos h2, if_pos h1]) (show @VA (fnB w D (atB i) (mJ (D.blk i))) r (.g jg) u from e2)
  ·rw [decide_eq_true h2, decide_eq_false h1] at e2
   exact uG (fun j hj => (rj 2 _ rfl j hj).trans (by unfold nN; rw [if_pos h2, if_neg h1])) (show @VA (fnB w D (atB i) (mJ (D.blk i))) r (.g (bJ 2)) u from e2)
 ·by_cases h4 : ah (D.blk i).pre 0 = 4
  ·rw [decide_eq_false h2, decide_eq_true h4] at e2
   exact uG (fun j hj => (rj 1 _ rfl j hj).trans (by unfold nN; rw [if_neg h2, if_pos h4])) (show @VA (fnB w D (atB i) (mJ (D.blk i))) r (.g (bJ 1)) u from e2)
  ·rw [decide_eq_false h2, decide_eq_false h4] at e2
   exact uG (fun j hj => (rj 0 _ rfl j hj).trans (by unfold nN; rw [if_neg h2, if_neg h4])) (show @VA (fnB w D (atB i) (mJ (D.blk i))) r (.g (bJ 0)) u from e2)
end
end Go.Proofs.YtglmonlofejcgaaGreatDoor.occJump
namespace Go.Proofs.YtglmonlofejcgaaGreatDoor.block
open Go.RowKit Am
noncomputable def f : FuncId := 77
noncomputable def F : Func := Tryz.f77
noncomputable def lH : Code := dS F 0
noncomputable def keep : List (Nat × S) := [(2, .ptr 0 0), (3, .ptr 1 0)]
def hp : Hp := [(1, ⟨kL, true⟩), (0, ⟨bQ, true⟩)]
noncomputable def hd : St := ⟨iM F.ntmps (keep ++ [(5, .xi .i64 21)]), ⟨hp, 2⟩⟩
noncomputable def sN : St := ⟨iM F.ntmps keep, ⟨hp, 2⟩⟩
noncomputable def sR : St := ⟨iM F.ntmps [(4, .bool false)], ⟨[], 2⟩⟩
noncomputable def rV (b : Bool) : aS := ku 105 [.g kM] (mB b)
noncomputable def rO : aS := ku occurs.f [.g kM] (.a (.g (bJ 0)))
noncomputable def rF (b : Bool) : aS := ku far.f [.g (bJ 0), .s (.xi .i64 2)] (mB b)
noncomputable def Fp (l : List aS) : Know -> aS := fun _ => I7 l
noncomputable def L1 : Lf := ((Lf.of (fE ++ [])).pin 6 1).pin 23 1
noncomputable def L3 : Lf := ((Lf.of (fE ++ [])).pin 6 1).pin 23 0
noncomputable def turn (l : List aS) (tb : Tabs) (us : List Upd) (x : X) (s1 : St) : Lf -> Bool := dQ (dH (Fp l) tb aX) f eu [] us ⟨21, 0, 5⟩ lH hd x s1
noncomputable def tbI : Tabs := bW.app (iG.app a6p)
theorem step : aI (turn [rV true, rO, rF false] tbI [isU (.xi .i64 21) (.xi .i64 22)] .normal hd) .leaf L1 = true := by kernel_rfl
theorem ab1 : aI (turn [rV false] tbI [] .ret sR) .leaf L1 = true := by kernel_rfl
theorem ajm : aI (turn [rV true, rO, rF true] tbI [] .ret sR) .leaf L1 = true := by kernel_rfl
theorem stop : aI (turn [] (bW.app iG) [] (.exit 0) sN) .leaf L3 = true := by kernel_rfl
noncomputable def rVJ (b : Bool) : aS := ku 107 [.g lW] (mB b)
noncomputable def rOJ : aS := ku occJump.f [.g lW] (.a (.g (bJ 0)))
noncomputable def row (x : X) (s1 : St) (K : Know) : Loops := iP 3 ⟨21, 0, 5⟩ (@thU K [isU (.xi .i64 21) (.int .i64 0)]) hd x s1
def tgE : E := .or (.or (isE 8 3) (isE 8 5)) (.and (isE 72 1) (.or (.not (isE 8 2)) (.or (isE 74 1) (isE 73 1))))
def fxB : Fx := ⟨[], { eu.xt with eq := (16, 15, 74) :: eu.xt.eq }⟩
noncomputable def run (l : List aS) (x : X) (s1 : St) (es : List E) (g : List Bool -> V) : Lf -> Bool := kG (dH (Fp l) (bW.app iG) fun K => dP [(f, row x s1 K)]) f fxB [] es g [.g bQ, .g kL]
noncomputable def LB : Lf := (Lf.of (fE ++ [])).pin 6 1
def b2 (i : Nat) (t : HT) : HT := .both i 1 t
def tgT : HT := .on 8 2 (b2 72 .leaf) (.on 8 3 (b2 72 (b2 74 (b2 73 .leaf))) (.on 8 4 .leaf (.on 8 5 (b2 72 .leaf) (.on 8 6 .leaf (b2 72 .leaf)))))
theorem alI : aI (run [] .ret sR [] fun _ => V.s (.bool false)) .leaf LB = true := by kernel_rfl
theorem ali : aI (run [rVJ false] (.exit 0) sN [] fun _ => V.s (.bool false)) .leaf LB = true := by kernel_rfl
theorem akI : aI (run [rVJ true, rOJ, rF true] (.exit 0) sN [] fun _ => V.s (.bool false)) .leaf LB = true := by kernel_rfl
theorem abU : aI (run [rVJ true, rOJ, rF false] (.exit 0) sN [tgE] fun bs => V.s (.bool (bs.headD false))) tgT LB = true := by kernel_rfl
theorem tag : fH (F.body.getD .skip) 0 3 = true := by kernel_rfl
end Go.Proofs.YtglmonlofejcgaaGreatDoor.block
namespace Go.Proofs.YtglmonlofejcgaaGreatDoor.madeR
open Go.RowKit Am
noncomputable def f : FuncId := 42
noncomputable def F : Func := Tryz.f42
noncomputable def gQ : Code := dS F 0
noncomputable def tH : Code := dS F 1
noncomputable def keep : List (Nat × S) := [(1, .ptr 0 0)]
def hp : Hp := [(0, ⟨bQ, true⟩)]
noncomputable def hdT : St := ⟨iM F.ntmps (keep ++ [(3, .xi .i64 58)]), ⟨hp, 1⟩⟩
noncomputable def hdB : St := ⟨iM F.ntmps (keep ++ [(4, .xi .i64 4)]), ⟨hp, 1⟩⟩
noncomputable def sN : St := ⟨iM F.ntmps keep, ⟨hp, 1⟩⟩
noncomputable def sR : St := ⟨iM F.ntmps [(2, .bool false)], ⟨[], 1⟩⟩
noncomputable def L1 : Lf := (Lf.of (fE ++ [])).pin 60 1
noncomputable def L3 : Lf := (Lf.of (fE ++ [])).pin 60 0
noncomputable def Ns (tb : Tabs) (giv : List (E × Bool)) (us : List Upd) (x : X) (s1 : St) : Lf -> Bool := dQ (dH gZ tb aX) f eu giv us ⟨4, 0, 3⟩ gQ hdT x s1
theorem stepT : aI (Ns (bW.app RH) [(head.okN, true)] [isU (.xi .i64 58) (.xi .i64 59)] .normal hdT) head.hTy L1 = true := by kernel_rfl
theorem aea : aI (Ns (bW.app RH) [(head.okN, false)] [] .ret sR) head.hTy L1 = true := by kernel_rfl
theorem WG : aI (Ns bW [] [] (.exit 0) sN) .leaf L3 = true := by kernel_rfl
noncomputable def rB (b : Bool) : Know -> aS := fun _ => ku block.f [.g bQ, .g kL] (mB b)
noncomputable def afa (lib : Know -> aS) (tb : Tabs) (us : List Upd) (x : X) (s1 : St) : Lf -> Bool := dQ (dH lib tb aX) f eu [] us ⟨4, 0, 3⟩ tH hdB x s1
noncomputable def LB1 : Lf := (Lf.of (fE ++ [])).pin 6 1
noncomputable def LB0 : Lf := (Lf.of (fE ++ [])).pin 6 0
theorem aeM : aI (afa (rB true) (bW.app iG) [isU (.xi .i64 4) (.xi .i64 5)] .normal hdB) .leaf LB1 = true := by kernel_rfl
theorem ajT : aI (afa (rB false) (bW.app iG) [] .ret sR) .leaf LB1 = true := by kernel_rfl
theorem alE : aI (afa gZ bW [] (.exit 2) sN) .leaf LB0 = true := by kernel_rfl
noncomputable def rowT (x : X) (s1 : St) (K : Know) : Loops := iP 5 ⟨4, 0, 3⟩ (@thU K [isU (.xi .i64 58) (.int .i64 0)]) hdT x s1
noncomputable def rowB (x : X) (s1 : St) (K : Know) : Loops := iP 12 ⟨4, 0, 3⟩ (@thU K [isU (.xi .i64 4) (.int .i64 0)]) hdB x s1
noncomputable def al1 (b : Bool) : Know -> aS := fun _ => ku many.fB [.g bQ] (mB b)
noncomputable def run (m : Bool) (tb : Tabs) (rows : Know -> List (FuncId × Loops)) (giv : List (E × Bool)) (es : List E) (g : List Bool -> V) : Lf -> Bool := kG (dH (al1 m) tb fun K => dP (rows K)) f eu giv es g [.g bQ]
def guardE : E := ands [.not (.lt 2 1), .not (.lt 3 1), .not (.lt 0 0), .lt 0 9, isE 76 1]
def gT : HT := .by 2 1 .leaf (.by 3 1 .leaf (.by 0 0 .leaf (.by 0 9 (.both 76 1 .leaf) .leaf)))
noncomputable def LG : Lf := Lf.of (fE ++ [])
noncomputable def LS : Lf := (((((Lf.of (fE ++ [])).lo 2 1).lo 3 1).lo 0 0).hi 0 8).pin 76 1
theorem al0 : aI (run true bW (fun _ => []) [] [] fun _ => V.s (.bool false)) .leaf LG = true := by kernel_rfl
theorem akD : aI (run false bW (fun _ => []) [(guardE, false)] [] fun _ => V.s (.bool false)) gT LG = true := by kernel_rfl
theorem abU : aI (run false bW (fun K => [(f, rowT .ret sR K)]) [] [] fun _ => V.s (.bool false)) .leaf LS = true := by kernel_rfl
theorem alN : aI (run false (bW.app Wp) (fun K => [(f, rowT (.exit 0) sN K)]) [(head.okN, true), (isE 62 0, false)] [] fun _ => V.s (.bool false)) head.hTy LS = true := by kernel_rfl
theorem akE : aI (run false (bW.app Wp) (fun K => [(f, rowT (.exit 0) sN K), (f, rowB .ret sR K)]) [(head.okN, true), (isE 62 0, true)] [] fun _ => V.s (.bool false)) head.hTy LS = true := by kernel_rfl
theorem pG : aI (run false (bW.app Wp) (fun K => [(f, rowT (.exit 0) sN K), (f, rowB (.exit 2) sN K)]) [(head.okN, true), (isE 62 0, true)] [] fun _ => V.s (.bool true)) head.hTy LS = true := by kernel_rfl
theorem adJ : fH (F.body.getD .skip) 0 5 = true := by kernel_rfl
theorem ajL : fH (F.body.getD .skip) 1 12 = true := by kernel_rfl
end Go.Proofs.YtglmonlofejcgaaGreatDoor.madeR
