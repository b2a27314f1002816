/- Whether a function's locals and parameters are right. -/
import Derived.Test.YtglmonlofejcgaaGreatDoorFn2
import Derived.Test.YtglmonlofejcgaaGreatDoorJump4
set_option maxRecDepth 100000
noncomputable section
open List renaming mem_singleton → apu
open Bool renaming and_eq_true → apv
set_option linter.unusedVariables false
set_option linter.unusedSectionVars false
namespace Go.Proofs.YtglmonlofejcgaaGreatDoor
namespace Am
open Go.RowKit
def imp (a b : E) : E := .or (.not a) b
def isE (i : Nat) (c : Int) : E := .zero [(i, c)]
def ands : List E -> E
 | [] => .zero []
 | [e] => e
 | e :: r => .and e (ands r)
def IB : E := .or (.and (.or (isE 0 1) (isE 0 2)) (isE 1 0)) (ands [.not (.lt 0 3), .lt 0 6, .or (isE 1 1) (isE 1 2)])
def ng (t : List Value) : Bool := IB.num (ah t)
def Ya : Tabs := ⟨[], [(0, .c 0, Ez)], []⟩
theorem ahB {e : Env} {v : Value} {sz k n : Nat} {els : List (List Value)} {el : List Value} {cs : List S} (h : cZ e.w v sz els) (hl : e.b.lst k = ⟨v, els⟩) (he : els[n]? = some el) (hs : cs.length = sz) (hc : ak (fun x v => ∀ r, @VS e.b r x v) cs el) :
  @bg e.b ⟨[], [(k, .c n, cs)], []⟩ := by
 refine @bg.mk e.b _ (fun _ _ h => (by cases h)) (fun l m ds hh => ?_) (fun _ _ _ h => (by cases h))
 have hh : (bif Nat.beq k l && (N.c n).eqv m then some cs else none) = some ds := hh
 cases hb : (Nat.beq k l && (N.c n).eqv m) <;> rw [hb] at hh <;> cases hh
 simp only [apv] at hb
 rw [<- Nat.eq_of_beq_eq_true hb.1, <- N.vJ hb.2]
 exact h.el (b := e.b) (i := .c n) rfl rfl hl (n := n) rfl he hs hc
theorem a1Q {w : World} {v : Value} {D : FnD} (h : aV w v D) (q : At) (hq : q.t = 0) (hl : 0 < D.ls.length) (more : List Int) : @bg (fnB w D q more) Ya := by
 have := S9 h (q := q) (by omega) more
 rw [hq] at this
 exact ahB (e := fnE w D q more) h.locals rfl (n := 0) (a0w h hl).2 rfl this
end Am
namespace head
open Go.RowKit Am
def guard (D : FnD) : Bool := decide (0 < D.ls.length) && (decide (0 <= D.p) && (decide (D.p <= 8) && decide (D.p < D.ls.length)))
def Z5 (D : FnD) : Bool := !decide (ah (D.typ 0) 1 = 0)
def mM (D : FnD) : Bool := guard D && (D.ls.all ng && !Z5 D)
def f : FuncId := 55
def F : Func := Tryz.f55
def code : Code := dW F 0
def hd : St := ⟨iU F.ntmps [(1, .ptr 0 0), (30, .rv 0), (31, .xi .i64 2), (32, .xi .i64 58)], ⟨[(0, ⟨bT, true⟩)], 1⟩⟩
def sN : St := ⟨iU F.ntmps [(1, .ptr 0 0)], ⟨[(0, ⟨bT, true⟩)], 1⟩⟩
def sR : St := ⟨iU F.ntmps [(2, .bool false)], ⟨[], 1⟩⟩
def hTy : HT := .of [⟨false, 62, 1⟩, ⟨false, 61, 2⟩, ⟨false, 61, 3⟩, ⟨false, 61, 1⟩, ⟨false, 62, 2⟩, ⟨false, 62, 3⟩, ⟨false, 61, 4⟩, ⟨false, 61, 5⟩, ⟨false, 61, 6⟩]
def okN : E := IB.ren (61 + ·)
def test (tb : Tabs) (giv : List (E × Bool)) (us : List Upd) (x : X) (s1 : St) : Lf -> Bool := dU (dH iq tb aZ) f eU giv us ⟨4, 0, 3⟩ code hd x s1
def L1 : Lf := (Lf.of (fJ ++ [])).pin 60 1
def L3 : Lf := (Lf.of (fJ ++ [])).pin 60 0
theorem step : aJ (test (bW.app Ub) [(okN, true)] [isU (.xi .i64 58) (.xi .i64 59)] .normal hd) hTy L1 = true := by kernel_rfl
theorem bad : aJ (test (bW.app Ub) [(okN, false)] [] .ret sR) hTy L1 = true := by kernel_rfl
theorem stop : aJ (test bW [] [] (.exit 0) sN) .leaf L3 = true := by kernel_rfl
def th0 : Th := [(.xi .i64 58, .int .i64 0)]
def row (x : X) (s1 : St) : Loops := iW 5 ⟨4, 0, 3⟩ th0 hd x s1
def guardE : E := ands [.not (.lt 2 1), .not (.lt 0 0), .lt 0 9, isE 76 1]
def LG : Lf := Lf.of (fJ ++ [])
def LS : Lf := ((((Lf.of (fJ ++ [])).lo 2 1).lo 0 0).hi 0 8).pin 76 1
theorem alU : aJ (kX (dH iq bW aZ) f eU [(guardE, false)] [] (fun _ => V.s (.bool false)) [.g bT]) (.of [⟨false, 2, 1⟩, ⟨false, 0, 0⟩, ⟨false, 0, 9⟩, ⟨false, 76, 1⟩]) LG = true := by kernel_rfl
theorem ai9 : aJ (kX (dH iq bW (fun _ => dR [(f, row .ret sR)])) f eU [] [] (fun _ => V.s (.bool false)) [.g bT]) .leaf LS = true := by kernel_rfl
theorem ag1 : aJ (kX (dH iq (bW.app Ya) (fun _ => dR [(f, row (.exit 0) sN)])) f eU [(okN, true)] [isE 62 0] (fun bs => V.s (.bool (bs.headD false))) [.g bT]) hTy LS = true := by kernel_rfl
theorem tag : fM (F.body.getD .skip) 0 5 = true := by kernel_rfl
section
variable {w : World} {v : Value} {D : FnD} (h : aV w v D)
include h
theorem start (q : At) (hq : Fits D q) : (Lf.of (fJ ++ [])).Holds (aF (aK D q ([] ++ []))) (fun _ => []) := lG h hq (iv := []) (m1 := []) (m2 := []) trivial _
theorem turn {tb : Tabs} {giv : List (E × Bool)} {us : List Upd} {s1 : St} {x : X} {hs : HT} {L : Lf} {q q' : At} (ht : @bg (fnB w D q []) tb) (hL : L.Holds (aF (aK D q [])) (fun _ => [])) (hg : ∀ p ∈ giv, p.1.num (aF (aK D q [])) = p.2) (hus : ∀ u ∈ us, iI (fnB w D q []) (fnB w D q' []) u) (hnx : s1.h.next = 1)
  (hrun : aJ (test tb giv us x s1) hs L = true) : gZ Tryz.prog (fnB w D q []) (fnB w D q' []) code hd x s1 := by
 refine ⟨fun r B a w1 hr => ?_⟩
 exact H7 (bD ht) (bQ q q' [] []) hnx.symm hL (aQ D q []) hg hus (fun K ok => VH K ok code) hrun hr
theorem alM (hl : D.ls.length <= 1000) {b : Bool} (hb : D.ls.all ng = b) (K : Know) (ok : aG K (fnB w D (atT 0) []).rho (fnB w D (atT 0) []).sig) :
  @aO ((fnB w D (atT 0) []).aH K ok) Tryz.prog (row (if b then .exit 0 else .ret) (if b then sN else sR)) code := by
 have hin : ∀ k, k < D.ls.length -> L1.Holds (aF (aK D (atT k) [])) (fun _ => []) := fun k hk => (start h (atT k) (KL (by omega))).pin (i := 60) (c := 1) (show b2i (decide ((k : Int) < D.ls.length)) = 1 from (bY _).2 (by omega))
 have htb : ∀ k, k < D.ls.length -> @bg (fnB w D (atT k) []) (bW.app Ub) := fun k hk => @aW (fnB w D (atT k) []) bW Ub (aT h _ _) (a2D h (q := atT k) hk _)
 have hok : ∀ k b, ng (D.typ k) = b -> ∀ p ∈ [(okN, b)], p.1.num (aF (aK D (atT k) [])) = p.2 := fun k b e p hp => by
  obtain rfl := apu.1 hp
  exact (JB (atT k) [] (e := IB) rfl).trans e
 have hstep : ∀ k, k < D.ls.length -> ng (D.typ k) = true -> gZ Tryz.prog (fnB w D (atT k) []) (fnB w D (atT (k + 1)) []) code hd .normal hd := fun k hk e => by
  refine turn h (htb k hk) (hin k hk) (hok k true e) (fun u hu => ?_) rfl step
  obtain rfl := apu.1 hu
  exact dP fun r v hv => hv
 have hend : gZ Tryz.prog (fnB w D (atT D.ls.length) []) (fnB w D (atT 0) []) code hd (.exit 0) sN :=
  turn h (aT h _ _) (L := L3) ((start h (atT D.ls.length) (KL (by omega))).pin (i := 60) (c := 0) (show b2i (decide ((D.ls.length : Int) < D.ls.length)) = 0 by rw [decide_eq_false (by omega)]; rfl)) (fun p hp => by cases hp) (fun u hu => by cases hu) rfl stop
 have hth : Th.ok (fnB w D (atT 0) []) (fnB w D (atT 0) []) th0 := abN fun r v hv => hv
 cases b with
 | true =>
  have hall := (iJ D.ls [] ng).2 hb
  exact @zK _ _ (fun k => fnB w D (atT k) []) code _ _ hd _ _ (fun e => by cases e) D.ls.length (bQ _ _ [] []) hth (fun k hk => hstep k hk (hall k hk)) hend 5 K ok
 | false =>
  rcases jD (fun i => ng (D.typ i)) D.ls.length with hall | ⟨N, hN, h0, hn⟩
  ·rw [(iJ D.ls [] ng).1 hall] at hb
   cases hb
  ·exact @zK _ _ (fun k => fnB w D (atT k) []) code _ _ hd _ _ (fun e => by cases e) N (bQ _ _ [] []) hth (fun k hk => hstep k (by omega) (h0 k hk)) (turn h (htb N hN) (hin N hN) (hok N false hn) (fun u hu => by cases hu) rfl bad) 5 K ok
theorem Ht (q : At) : guardE.num (aF (aK D q [])) = guard D := by
 show ((!decide ((D.ls.length : Int) < 1)) && ((!decide (D.p < 0)) && (decide (D.p < 9) && (decide (b2i (decide (D.p < D.ls.length)) = 1) && true)))) = _
 unfold guard
 rw [Bool.and_true, decide_eq_decide.2 (bY (D.p < D.ls.length)), <- decide_not, <- decide_not]
 congr 1
 ·exact decide_eq_decide.2 (by omega)
 congr 1
 ·exact decide_eq_decide.2 (by omega)
 congr 1
 exact decide_eq_decide.2 (by omega)
theorem abW (hl : D.ls.length <= 1000) : bG f [v] w (.bool (mM D)) := by
 have hst := start h (atT 0) (KL (by omega))
 have hval : ak (@VA (fnB w D (atT 0) []) r0) [.g bT] [v] := ⟨xK h (atT 0) [] r0, trivial⟩
 have key : ∀ {R : Rig} {L0 : Lf} {hs : HT} {giv : List (E × Bool)} {es : List E} {g : List Bool -> V} {b : Bool}, jT Tryz.prog R (fnB w D (atT 0) []) -> L0.Holds (aF (aK D (atT 0) [])) (fun _ => []) -> (∀ p ∈ giv, p.1.num (aF (aK D (atT 0) [])) = p.2) ->
   g (es.map (E.num (aF (aK D (atT 0) [])))) = V.s (.bool b) -> aJ (kX R f eU giv es g [.g bT]) hs L0 = true -> bG f [v] w (.bool b) := fun {R L0 hs giv es g b} hR hL hg e hrun => by
  have := jl (b := fnB w D (atT 0) []) (w := w) (Nat.le_refl _) (fun _ _ => rfl) hR hL (aQ D _ _) hg hval hrun
  rw [show (fnB w D (atT 0) []).rho = aF (aK D (atT 0) []) from rfl, e] at this
  exact bG.of (b := fnB w D (atT 0) []) (v := V.s (.bool b)) (fun r x hx => hx) this
 cases hg : guard D with
 | false =>
  rw [show mM D = false by unfold mM; rw [hg]; rfl]
  refine key (bD (aT h _ _)) hst (fun p hp => ?_) rfl alU
  obtain rfl := apu.1 hp
  exact (Ht h _).trans hg
 | true =>
  have hg' := hg
  unfold guard at hg'
  simp only [apv, decide_eq_true_eq] at hg'
  obtain ⟨g1, g2, g3, g4⟩ := hg'
  have hLS : LS.Holds (aF (aK D (atT 0) [])) (fun _ => []) := (((hst.lo (i := 2) (c := 1) (show (1 : Int) <= (D.ls.length : Int) by omega)).lo (i := 0) (c := 0) g2).hi (i := 0) (c := 8) g3).pin (i := 76) (c := 1) ((bY _).2 g4)
  have hrow := fun {b : Bool} (hb : D.ls.all ng = b) => one_row (bo := fnB w D (atT 0) []) (F := F) (row := row (if b then .exit 0 else .ret) (if b then sN else sR)) Tryz.func55 fun K ok c hc => iM tag (alM h hl hb K ok) hc
  cases hb : D.ls.all ng with
  | false =>
   rw [show mM D = false by unfold mM; rw [hg, hb]; rfl]
   exact key (fK je (aT h _ _) (hrow hb)) hLS (fun p hp => by cases hp) rfl ai9
  | true =>
   rw [show mM D = !Z5 D by unfold mM; rw [hg, hb]; rfl]
   refine key (fK je (@aW (fnB w D (atT 0) []) bW Ya (aT h _ _) (a1Q h (atT 0) rfl g1 [])) (hrow hb)) hLS (fun p hp => ?_) ?_ ag1
   ·obtain rfl := apu.1 hp
    exact (JB (atT 0) [] (e := IB) rfl).trans ((iJ D.ls [] ng).2 hb 0 g1)
   ·show V.s (.bool (decide (ah (D.typ 0) 1 = 0) && true)) = _
    unfold Z5
    rw [Bool.and_true, Bool.not_not]
end
end head
namespace Am
open Go.RowKit
def stV (nL : Int) (st : List Value) (i : Nat) : Int := if i < 26 then ah st i else [mZ (ah st 25) nL, mZ (ah st 1) nL, mZ (ah st 9) nL, mZ (ah st 14) nL, mZ (ah st 17) nL, mZ (ah st 22) nL].getD (i - 26) 0
def Z9 : E := ands [imp (isE 0 3) (isE 26 1), imp (.or (isE 0 2) (isE 0 4)) (.or (isE 20 1) (isE 31 1)),
 imp (isE 0 1) (ands [isE 27 1, imp (.or (isE 4 4) (isE 4 5)) (isE 30 1), imp (.not (.or (isE 4 4) (isE 4 5))) (.or (isE 7 1) (isE 28 1)), imp (.or (isE 4 2) (isE 4 3)) (.or (isE 12 1) (isE 29 1))])]
def oP (nL : Int) (st : List Value) : Bool := Z9.num (stV nL st)
def toS (i : Nat) : Nat := if i < 26 then 24 + i else 37 + i
theorem agS {D : FnD} (q : At) (more : List Int) : (Z9.ren toS).num (aF (aK D q more)) = oP D.ls.length (D.stm q.i q.k) := by
 refine E.jM (n := 32) rfl fun j hj => ?_
 by_cases h : j < 26
 ·unfold toS stV
  rw [if_pos h, if_pos h]
  have e : aK D q more = (Aa D ++ (xsB D q ++ [(q.k : Int), (q.k : Int) + 1, mZ q.k (D.blk q.i).st.length])) ++ (qI 26 (D.stm q.i q.k) ++ (xsO D q ++ (xsT D q ++ (xsC D q ++ more)))) := by simp [aK, xsS, MK]
  rw [e]
  exact (kC (n := 24) rfl).trans (yO h _)
 ·have : j = 26 \/ j = 27 \/ j = 28 \/ j = 29 \/ j = 30 \/ j = 31 := by omega
  rcases this with rfl | rfl | rfl | rfl | rfl | rfl <;> rfl
def tC (nL : Int) (op : List Value) : Bool := decide (ah op 0 = 1) || decide (ah op 2 < nL)
def a5K : E := dn.ren (24 + ·)
theorem JJ {D : FnD} (q : At) (more : List Int) : a5K.num (aF (aK D q more)) = dn.val (D.stm q.i q.k) := (zL q more (e := dn) (by decide)).trans (E.iR _ _).symm
section
variable {w : World} {v : Value} {D : FnD} (h : aV w v D)
include h
theorem a4a {F : FuncId} {val : Bool -> Value} {mk : Bool -> V} (hF : dG Tryz.prog F) (ht : Tests Tryz.prog Ad F kSt dn val) (hu : ∀ (b0 : Base) r b, @VV b0 r (mk b) (val b)) {q : At} (hi : q.i < D.bs.length) (hk : q.k < (D.blk q.i).st.length) {b : Bool} (hb : dn.val (D.stm q.i q.k) = b) (m : List Int)
  (K : Know) (ok : aG K (fnB w D q m).rho (fnB w D q m).sig) : @Sound ((fnB w D q m).aH K ok) Tryz.prog (kU F [.g lM] (mk b)) := by
 have hc := FY h hi hk m
 refine @dF ((fnB w D q m).aH K ok) _ F hF _ _ (by rfl) [.agg (D.stm q.i q.k).toArray] ⟨⟨_, rfl, ?_⟩, trivial⟩ (val b) (fun r => hu _ r b) fun w' _ => ?_
 ·refine fZ hc.len fun i x u hx hu => ?_
  obtain ⟨u', hu', e⟩ := ak.nth hc (n := i) (x := x) (by rw [aN]; exact hx)
  rw [hu] at hu'
  cases hu'
  exact e r0
 ·rw [<- hb]
  exact ht (D.stm q.i q.k) (Dk h hi hk).1 w' trivial
theorem vC {i : Nat} (hi : i < D.bs.length) : dO w (.agg ((D.blk i).pre ++ (D.blk i).a :: (D.blk i).post).toArray) (D.blk i).pre (D.blk i).a (D.blk i).post (D.blk i).ops := by
 have b := (yA h hi).1
 exact ⟨rfl, b.EU, b.yu, ⟨b.opl.sl, b.opl.most, b.opl.at_, fun i el he => b.okd el (List.mem_of_getElem? he), b.opl.cap⟩⟩
def A8 (b : bK) : Bool := okJ b.pre b.ops b.post
theorem VF {F : FuncId} {val : Bool -> Value} {mk : Bool -> V} (hF : dG Tryz.prog F) (ht : Ur F val) (hu : ∀ (b0 : Base) r b, @VV b0 r (mk b) (val b)) {q : At} (hi : q.i < D.bs.length) {b : Bool} (hb : A8 (D.blk q.i) = b) (m : List Int)
  (K : Know) (ok : aG K (fnB w D q m).rho (fnB w D q m).sig) : @Sound ((fnB w D q m).aH K ok) Tryz.prog (kU F [.g ni] (mk b)) := by
 have hc := GZ h hi q rfl m
 refine @dF ((fnB w D q m).aH K ok) _ F hF _ _ (by rfl) [.agg ((D.blk q.i).pre ++ (D.blk q.i).a :: (D.blk q.i).post).toArray] ⟨⟨_, rfl, ?_⟩, trivial⟩ (val b) (fun r => hu _ r b) fun w' hw => ?_
 ·refine fZ hc.len fun i x u hx hu => ?_
  obtain ⟨u', hu', e⟩ := ak.nth hc (n := i) (x := x) (by rw [aN]; exact hx)
  rw [hu] at hu'
  cases hu'
  exact e r0
 ·rw [<- hb]
  exact ht w' _ _ _ _ _ (vC (h.frz hw) hi)
theorem VY {F : FuncId} {u : Value} {mv : V} (hF : dG Tryz.prog F) (hu : ∀ (b0 : Base) r, @VV b0 r mv u) (q : At) (m : List Int) (ha : ∀ w', aV w' v D -> bG F [v] w' u)
  (K : Know) (ok : aG K (fnB w D q m).rho (fnB w D q m).sig) : @Sound ((fnB w D q m).aH K ok) Tryz.prog (kU F [.g bT] mv) :=
 @dF ((fnB w D q m).aH K ok) _ F hF _ _ (by rfl) [v] ⟨xK h q m r0, trivial⟩ u (fun r => hu _ r) fun w' hw => ha w' (h.frz hw)
end
theorem vm8 (b0 : Base) (r : Ren) (b : Bool) : @VV b0 r (m8 b) (v8 b) := by cases b <;> rfl
theorem vmB (b0 : Base) (r : Ren) (b : Bool) : @VV b0 r (mB b) (.bool b) := rfl
end Am
namespace made
open Go.RowKit Am
def f : FuncId := 33
def F : Func := Tryz.f33
def fV : Code := dW F 0
def bf : Code := dW F 1
def near : S := .fn 56 [(1, 0), (0, 0)]
def R : S := .xe [(77, 1)]
def RI : List (Nat × S) := [(1, .ptr 0 0), (3, .ptr 1 0), (4, near), (23, .rv 1), (24, .xi .i64 3)]
def yR : List (Nat × S) := RI ++ [(25, .xi .i64 4), (6, .ptr 2 0)]
def hpO (r : S) : Hp := [(1, ⟨[r], true⟩), (0, ⟨bT, true⟩)]
def hpI (r : S) : Hp := (2, ⟨lJ, true⟩) :: hpO r
def hdO : St := ⟨iU F.ntmps (RI ++ [(25, .xi .i64 4)]), ⟨hpO R, 2⟩⟩
def hdI : St := ⟨iU F.ntmps (yR ++ [(30, .rv 3), (31, .xi .i64 7), (32, .xi .i64 21)]), ⟨hpI R, 3⟩⟩
def sNO : St := ⟨iU F.ntmps RI, ⟨hpO (.xe [(78, 1)]), 2⟩⟩
def sNI : St := ⟨iU F.ntmps yR, ⟨hpI (.xe [(78, 1)]), 3⟩⟩
def sRO : St := ⟨iU F.ntmps [(2, .bool false)], ⟨[], 2⟩⟩
def sRI : St := ⟨iU F.ntmps [(2, .bool false)], ⟨[], 3⟩⟩
def opT (k d : Nat) (t : HT) : HT := .by k 1 (.both d 1 t) (.by k 2 t (.by k 3 (.both d 1 t) (.by k 4 (.both d 1 t) (.both d 1 t))))
def ap2 : HT := .on 28 1 .leaf (.on 28 2 (opT 31 65 .leaf) (.on 28 3 (opT 31 65 (opT 36 66 .leaf)) (.on 28 4 (opT 31 65 (opT 36 66 .leaf)) (.by 28 6 (.by 28 5 (.both 67 1 .leaf) (.both 67 1 .leaf)) .leaf))))
def ahO : HT := .on 24 1 .leaf (.on 24 2 (.both 64 1 ap2) (.on 24 3 (opT 44 68 .leaf) (.on 24 4 (.both 63 1 .leaf) (.by 24 5 (opT 44 68 .leaf) .leaf))))
def hSt : HT := .on 77 1 ahO ahO
def Jb : E := .and (isE 77 1) (Z9.ren toS)
def Gh (b : Bool) : Know -> aS := fun _ => kU 57 [.g lM] (m8 b)
def L1 : Lf := ((Lf.of (fJ ++ [ivB])).pin 6 1).pin 23 1
def L3 : Lf := ((Lf.of (fJ ++ [ivB])).pin 6 1).pin 23 0
def tbI : Tabs := bW.app (iQ.app a6G)
def stepT : Lf -> Bool := dU (dH (Gh true) tbI aZ) f eU [(a5K, true)] [isU (.xi .i64 21) (.xi .i64 22), a4C R Jb, TY 77 Jb 77] ⟨21, 0, 5⟩ bf hdI .normal hdI
theorem a9R {test : Lf -> Bool} {i : Nat} {c : Int} {a b : HT} {f : Bool} {L : Lf} (h1 : below L i c = false) (h2 : above L i c = false) (ha : aJ test a (L.hi i (c - 1)) = true) (hb : aJ test b (L.lo i c) = true) : aJ test (.cut f i c a b) L = true := by
 show (bif below L i c then aJ test a L else bif above L i c then aJ test b L else (bif f then false else test L) || (aJ test a (L.hi i (c - 1)) && aJ test b (L.lo i c))) = true
 rw [h1, h2, ha, hb]
 simp
theorem an6 : aJ stepT ahO (L1.hi 77 0) = true := by kernel_rfl
theorem amU : aJ stepT ahO (L1.lo 77 1) = true := by kernel_rfl
theorem kE : aJ (dU (dH (Gh true) tbI aZ) f eU [(a5K, true)] [isU (.xi .i64 21) (.xi .i64 22), a4C R Jb, TY 77 Jb 77] ⟨21, 0, 5⟩ bf hdI .normal hdI) hSt L1 = true := a9R (test := stepT) (by kernel_rfl) (by kernel_rfl) an6 amU
theorem aoH : aJ (dU (dH (Gh false) tbI aZ) f eU [] [] ⟨21, 0, 5⟩ bf hdI .ret sRI) .leaf L1 = true := by kernel_rfl
theorem KJ : aJ (dU (dH iq (bW.app iQ) aZ) f eU [] [isU (.xe [(78, 1)]) R] ⟨21, 0, 5⟩ bf hdI (.exit 2) sNI) .leaf L3 = true := by kernel_rfl
def fO : FuncId := 98
def FO : Func := Tryz.f98
def iG : Code := dW FO 0
def hpA (r : S) : Hp := (4, ⟨[.xi .i64 15], true⟩) :: hpO r
def hdA : St := ⟨iU FO.ntmps [(1, .bool true), (2, near), (8, .rv 4), (9, .xi .i64 17), (10, .xi .i64 50)], ⟨hpA R, 7⟩⟩
def sNA : St := ⟨iU FO.ntmps [], ⟨hpA (.xe [(79, 1)]), 7⟩⟩
def hOp : HT := .on 77 1 (opT 53 71 .leaf) (opT 53 71 .leaf)
def abU : E := .and (isE 77 1) (.or (isE 53 1) (isE 71 1))
def L5 : Lf := ((Lf.of (fJ ++ [ivB])).pin 6 1).pin 52 1
def L6 : Lf := ((Lf.of (fJ ++ [ivB])).pin 6 1).pin 52 0
theorem EL : aJ (dU (dH iq (bW.app (iQ.app ahq)) aZ) fO eU [] [isU (.xi .i64 50) (.xi .i64 51), a4C R abU, TY 77 abU 77] ⟨21, 0, 5⟩ iG hdA .normal hdA) hOp L5 = true := by kernel_rfl
theorem N7 : aJ (dU (dH iq (bW.app iQ) aZ) fO eU [] [isU (.xe [(79, 1)]) R] ⟨21, 0, 5⟩ iG hdA (.exit 0) sNA) .leaf L6 = true := by kernel_rfl
def usI : List Upd := [isU (.xi .i64 21) (.int .i64 0), isU R R]
def usA : List Upd := [isU (.xi .i64 50) (.int .i64 0), ⟨R, [isE 78 1], fun bs => bif bs.headD false then .xe [(70, 1)] else .bool false⟩, a4C R (.and (isE 78 1) (isE 70 1))]
def nK (x : X) (s1 : St) (K : Know) : Loops := iW 8 ⟨21, 0, 5⟩ (@thU K usI) hdI x s1
def rowA (K : Know) : Loops := iW 2 ⟨21, 0, 5⟩ (@thU K usA) hdA (.exit 0) sNA
def a2H (K : Know) : FuncId -> Loops := dR [(f, nK (.exit 2) sNI K), (fO, rowA K)]
def QC (K : Know) : FuncId -> Loops := dR [(f, nK .ret sRI K)]
def alX (b : Bool) : Know -> aS := fun _ => kU 72 [.g ni] (m8 b)
def ZQ : E := ands [imp (isE 8 2) (.and (isE 78 1) (.or (isE 9 1) (isE 69 1))), imp (isE 8 4) (isE 79 1), imp (.and (.not (isE 8 2)) (.not (isE 8 4))) (isE 78 1), imp (.not (.or (isE 8 3) (isE 8 5))) (isE 72 1), imp (isE 8 2) (.or (isE 74 1) (isE 73 1))]
def b1 (i : Nat) (t : HT) : HT := .on i 1 t t
def al6 : HT := b1 78 (b1 72 .leaf)
def hJm : HT := .on 8 2 al6 (.on 8 3 (b1 78 (.by 9 1 (.both 69 1 (b1 72 (b1 74 (b1 73 .leaf)))) (.by 9 2 (b1 72 (b1 74 (b1 73 .leaf))) (.both 69 1 (b1 72 (b1 74 (b1 73 .leaf))))))) (.on 8 4 (b1 78 .leaf) (.on 8 5 (b1 78 (b1 70 (b1 79 (b1 72 .leaf)))) (.on 8 6 (b1 78 .leaf) al6))))
def L7 : Lf := (Lf.of (fJ ++ [ivB, ivB, ivB])).pin 6 1
def L8 : Lf := (Lf.of (fJ ++ [ivB])).pin 6 0
def tbO : Tabs := bW.app iQ
theorem Ns : aJ (dU (dH (alX true) tbO a2H) f eU [] [isU (.xi .i64 4) (.xi .i64 5), a4C R ZQ, TY 77 ZQ 78, TY 77 ZQ 79] ⟨4, 0, 3⟩ fV hdO .normal hdO) hJm L7 = true := by kernel_rfl
theorem anF : aJ (dU (dH iq tbO QC) f eU [] [] ⟨4, 0, 3⟩ fV hdO .ret sRO) .leaf L7 = true := by kernel_rfl
theorem anB : aJ (dU (dH (alX false) tbO fun K => dR [(f, nK (.exit 2) sNI K)]) f eU [] [] ⟨4, 0, 3⟩ fV hdO .ret sRO) .leaf L7 = true := by kernel_rfl
theorem KR : aJ (dU (dH iq bW aZ) f eU [] [isU (.xe [(78, 1)]) R] ⟨4, 0, 3⟩ fV hdO (.exit 0) sNO) .leaf L8 = true := by kernel_rfl
def zZ (r : Bool) (x : X) (s1 : St) (K : Know) : Loops := iW 5 ⟨4, 0, 3⟩ (@thU K [isU (.xi .i64 4) (.int .i64 0), isU R (.bool r)]) hdO x s1
def aij (b : Bool) : Know -> aS := fun _ => kU 55 [.g bT] (mB b)
def LM : Lf := Lf.of (fJ ++ [ivB, ivB])
def runM (hb r : Bool) (x : X) (s1 : St) (es : List E) (g : List Bool -> V) : Lf -> Bool := kX (dH (aij hb) bW fun K => dR [(f, zZ r x s1 K)]) f eU [] es g [.g bT]
theorem aov : aJ (runM false false (.exit 0) sNO [] fun _ => V.s (.xe [(78, 1)])) (.of [⟨false, 78, 1⟩]) LM = true := by kernel_rfl
theorem aoR : aJ (runM false false .ret sRO [] fun _ => V.s (.bool false)) .leaf LM = true := by kernel_rfl
theorem good1 : aJ (runM true true (.exit 0) sNO [] fun _ => V.s (.xe [(78, 1)])) (.of [⟨false, 78, 1⟩]) (LM.lo 3 1) = true := by kernel_rfl
theorem apf : aJ (runM true true .ret sRO [] fun _ => V.s (.bool false)) .leaf (LM.lo 3 1) = true := by kernel_rfl
theorem aox : aJ (runM true false (.exit 0) sNO [] fun _ => V.s (.xe [(78, 1)])) (.of [⟨false, 78, 1⟩]) (LM.hi 3 0) = true := by kernel_rfl
theorem aoP : aJ (runM true false .ret sRO [] fun _ => V.s (.bool false)) .leaf (LM.hi 3 0) = true := by kernel_rfl
theorem XD : fM (F.body.getD .skip) 0 5 = true := by kernel_rfl
theorem VI : fM fV 0 8 = true := by kernel_rfl
theorem Va : fM (FO.body.getD .skip) 0 2 = true := by kernel_rfl
end made
end Go.Proofs.YtglmonlofejcgaaGreatDoor
