/- Whether a function's locals and parameters are right: fnshape.head. Rows of calls with the parts of a function: its statements and its jumps; whether all locals of a statement, an operand, a jump are near. -/
import Derived.Test.YtglmonlofejcgaaGreatDoorFn2
import Derived.Test.YtglmonlofejcgaaGreatDoorJump4
set_option linter.unusedVariables false
set_option linter.unusedSectionVars false
set_option maxRecDepth 100000
namespace Go.Proofs.YtglmonlofejcgaaGreatDoor.Am
open Go.RowKit
def imp (a b : E) : E := .or (.not a) b
def isE (i : Nat) (c : Int) : E := .zero [(i, c)]
def ands : List E -> E
 | [] => .zero []
 | [e] => e
 | e :: r => .and e (ands r)
def GN : E := .or (.and (.or (isE 0 1) (isE 0 2)) (isE 1 0)) (ands [.not (.lt 0 3), .lt 0 6, .or (isE 1 1) (isE 1 2)])
def ou (t : List Value) : Bool := GN.num (ah t)
def Wp : Tabs := ⟨[], [(0, .c 0, CS)], []⟩
theorem afZ {e : Env} {v : Value} {sz k n : Nat} {els : List (List Value)} {el : List Value} {cs : List S} (h : bV e.w v sz els) (hl : e.b.lst k = ⟨v, els⟩) (he : els[n]? = some el) (hs : cs.length = sz) (hc : ak (fun x v => ∀ r, @VS e.b r x v) cs el) :
  @aZ e.b ⟨[], [(k, .c n, cs)], []⟩ := by
 refine @aZ.mk e.b _ (fun _ _ h => (by cases h)) (fun l m ds hh => ?_) (fun _ _ _ h => (by cases h))
 have hh : (bif Nat.beq k l && (N.c n).eqv m then some cs else none) = some ds := hh
 cases hb : (Nat.beq k l && (N.c n).eqv m) <;> rw [hb] at hh <;> cases hh
 simp only [Bool.and_eq_true] at hb
 rw [<- Nat.eq_of_beq_eq_true hb.1, <- N.ug hb.2]
 exact h.el (b := e.b) (i := .c n) rfl rfl hl (n := n) rfl he hs hc
theorem a0h {w : World} {v : Value} {D : FnD} (h : aT w v D) (q : At) (hq : q.t = 0) (hl : 0 < D.ls.length) (more : List Int) : @aZ (fnB w D q more) Wp := by
 have := QH h (q := q) (by omega) more
 rw [hq] at this
 exact afZ (e := fnE w D q more) h.locals rfl (n := 0) (Y4 h hl).2 rfl this
end Go.Proofs.YtglmonlofejcgaaGreatDoor.Am
namespace Go.Proofs.YtglmonlofejcgaaGreatDoor.head
open Go.RowKit Am
def guard (D : FnD) : Bool := decide (0 < D.ls.length) && (decide (0 <= D.p) && (decide (D.p <= 8) && decide (D.p < D.ls.length)))
def Uk (D : FnD) : Bool := !decide (ah (D.typ 0) 1 = 0)
def mG (D : FnD) : Bool := guard D && (D.ls.all ou && !Uk D)
noncomputable def f : FuncId := 55
noncomputable def F : Func := Tryz.f55
noncomputable def code : Code := dS F 0
noncomputable def hd : St := ⟨iM F.ntmps [(1, .ptr 0 0), (30, .rv 0), (31, .xi .i64 2), (32, .xi .i64 58)], ⟨[(0, ⟨bQ, true⟩)], 1⟩⟩
noncomputable def sN : St := ⟨iM F.ntmps [(1, .ptr 0 0)], ⟨[(0, ⟨bQ, true⟩)], 1⟩⟩
noncomputable def sR : St := ⟨iM F.ntmps [(2, .bool false)], ⟨[], 1⟩⟩
def hTy : HT := .of [⟨false, 62, 1⟩, ⟨false, 61, 2⟩, ⟨false, 61, 3⟩, ⟨false, 61, 1⟩, ⟨false, 62, 2⟩, ⟨false, 62, 3⟩, ⟨false, 61, 4⟩, ⟨false, 61, 5⟩, ⟨false, 61, 6⟩]
def okN : E := GN.ren (61 + ·)
noncomputable def test (tb : Tabs) (giv : List (E × Bool)) (us : List Upd) (x : X) (s1 : St) : Lf -> Bool := dQ (dH gZ tb aX) f eu giv us ⟨4, 0, 3⟩ code hd x s1
noncomputable def L1 : Lf := (Lf.of (fE ++ [])).pin 60 1
noncomputable def L3 : Lf := (Lf.of (fE ++ [])).pin 60 0
theorem step : aI (test (bW.app RH) [(okN, true)] [isU (.xi .i64 58) (.xi .i64 59)] .normal hd) hTy L1 = true := by kernel_rfl
theorem bad : aI (test (bW.app RH) [(okN, false)] [] .ret sR) hTy L1 = true := by kernel_rfl
theorem stop : aI (test bW [] [] (.exit 0) sN) .leaf L3 = true := by kernel_rfl
def th0 : Th := [(.xi .i64 58, .int .i64 0)]
noncomputable def row (x : X) (s1 : St) : Loops := iP 5 ⟨4, 0, 3⟩ th0 hd x s1
def guardE : E := ands [.not (.lt 2 1), .not (.lt 0 0), .lt 0 9, isE 76 1]
noncomputable def LG : Lf := Lf.of (fE ++ [])
noncomputable def LS : Lf := ((((Lf.of (fE ++ [])).lo 2 1).lo 0 0).hi 0 8).pin 76 1
theorem aji : aI (kG (dH gZ bW aX) f eu [(guardE, false)] [] (fun _ => V.s (.bool false)) [.g bQ]) (.of [⟨false, 2, 1⟩, ⟨false, 0, 0⟩, ⟨false, 0, 9⟩, ⟨false, 76, 1⟩]) LG = true := by kernel_rfl
theorem ags : aI (kG (dH gZ bW (fun _ => dP [(f, row .ret sR)])) f eu [] [] (fun _ => V.s (.bool false)) [.g bQ]) .leaf LS = true := by kernel_rfl
theorem abZ : aI (kG (dH gZ (bW.app Wp) (fun _ => dP [(f, row (.exit 0) sN)])) f eu [(okN, true)] [isE 62 0] (fun bs => V.s (.bool (bs.headD false))) [.g bQ]) hTy LS = true := by kernel_rfl
theorem tag : fH (F.body.getD .skip) 0 5 = true := by kernel_rfl
section
variable {w : World} {v : Value} {D : FnD} (h : aT w v D)
include h
theorem start (q : At) (hq : Fits D q) : (Lf.of (fE ++ [])).Holds (aF (aJ D q ([] ++ []))) (fun _ => []) := kQ h hq (iv := []) (m1 := []) (m2 := []) trivial _
theorem turn {tb : Tabs} {giv : List (E × Bool)} {us : List Upd} {s1 : St} {x : X} {hs : HT} {L : Lf} {q q' : At} (ht : @aZ (fnB w D q []) tb) (hL : L.Holds (aF (aJ D q [])) (fun _ => [])) (hg : ∀ p ∈ giv, p.1.num (aF (aJ D q [])) = p.2) (hus : ∀ u ∈ us, ig (fnB w D q []) (fnB w D q' []) u) (hnx : s1.h.next = 1)
  (hrun : aI (test tb giv us x s1) hs L = true) : gJ Tryz.prog (fnB w D q []) (fnB w D q' []) code hd x s1 := by
 refine ⟨fun r B a w1 hr => ?_⟩
 exact Fb (bg ht) (bM q q' [] []) hnx.symm hL (aQ D q []) hg hus (fun K ok => SK K ok code) hrun hr
theorem ako (hl : D.ls.length <= 1000) {b : Bool} (hb : D.ls.all ou = b) (K : Know) (ok : aG K (fnB w D (atT 0) []).rho (fnB w D (atT 0) []).sig) :
  @aO ((fnB w D (atT 0) []).aH K ok) Tryz.prog (row (if b then .exit 0 else .ret) (if b then sN else sR)) code := by
 have hin : ∀ k, k < D.ls.length -> L1.Holds (aF (aJ D (atT k) [])) (fun _ => []) := fun k hk => (start h (atT k) (IL (by omega))).pin (i := 60) (c := 1) (show b2i (decide ((k : Int) < D.ls.length)) = 1 from (bY _).2 (by omega))
 have htb : ∀ k, k < D.ls.length -> @aZ (fnB w D (atT k) []) (bW.app RH) := fun k hk => @aV (fnB w D (atT k) []) bW RH (aU h _ _) (Zz h (q := atT k) hk _)
 have hok : ∀ k b, ou (D.typ k) = b -> ∀ p ∈ [(okN, b)], p.1.num (aF (aJ D (atT k) [])) = p.2 := fun k b e p hp => by
  obtain rfl := List.mem_singleton.1 hp
  exact (Iy (atT k) [] (e := GN) rfl).trans e
 have hstep : ∀ k, k < D.ls.length -> ou (D.typ k) = true -> gJ Tryz.prog (fnB w D (atT k) []) (fnB w D (atT (k + 1)) []) code hd .normal hd := fun k hk e => by
  refine turn h (htb k hk) (hin k hk) (hok k true e) (fun u hu => ?_) rfl step
  obtain rfl := List.mem_singleton.1 hu
  exact dN fun r v hv => hv
 have hend : gJ Tryz.prog (fnB w D (atT D.ls.length) []) (fnB w D (atT 0) []) code hd (.exit 0) sN :=
  turn h (aU h _ _) (L := L3) ((start h (atT D.ls.length) (IL (by omega))).pin (i := 60) (c := 0) (show b2i (decide ((D.ls.length : Int) < D.ls.length)) = 0 by rw [decide_eq_false (by omega)]; rfl)) (fun p hp => by cases hp) (fun u hu => by cases hu) rfl stop
 have hth : Th.ok (fnB w D (atT 0) []) (fnB w D (atT 0) []) th0 := a8q fun r v hv => hv
 cases b with
 | true =>
  have hall := (iC D.ls [] ou).2 hb
  exact @yJ _ _ (fun k => fnB w D (atT k) []) code _ _ hd _ _ (fun e => by cases e) D.ls.length (bM _ _ [] []) hth (fun k hk => hstep k hk (hall k hk)) hend 5 K ok
 | false =>
  rcases jl (fun i => ou (D.typ i)) D.ls.length with hall | ⟨N, hN, h0, hn⟩
  ·rw [(iC D.ls [] ou).1 hall] at hb
   cases hb
  ·exact @yJ _ _ (fun k => fnB w D (atT k) []) code _ _ hd _ _ (fun e => by cases e) N (bM _ _ [] []) hth (fun k hk => hstep k (by omega) (h0 k hk)) (turn h (htb N hN) (hin N hN) (hok N false hn) (fun u hu => by cases hu) rfl bad) 5 K ok
theorem EO (q : At) : guardE.num (aF (aJ D q [])) = guard D := by
 show ((!decide ((D.ls.length : Int) < 1)) && ((!decide (D.p < 0)) && (decide (D.p < 9) && (decide (b2i (decide (D.p < D.ls.length)) = 1) && true)))) = _
 unfold guard
 rw [Bool.and_true, decide_eq_decide.2 (bY (D.p < D.ls.length)), <- decide_not, <- decide_not]
 congr 1
 ·exact decide_eq_decide.2 (by omega)
 congr 1
 ·exact decide_eq_decide.2 (by omega)
 congr 1
 exact decide_eq_decide.2 (by omega)
theorem a7H (hl : D.ls.length <= 1000) : bF f [v] w (.bool (mG D)) := by
 have hst := start h (atT 0) (IL (by omega))
 have hval : ak (@VA (fnB w D (atT 0) []) r0) [.g bQ] [v] := ⟨xI h (atT 0) [] r0, trivial⟩
 have key : ∀ {R : Rig} {L0 : Lf} {hs : HT} {giv : List (E × Bool)} {es : List E} {g : List Bool -> V} {b : Bool}, jG Tryz.prog R (fnB w D (atT 0) []) -> L0.Holds (aF (aJ D (atT 0) [])) (fun _ => []) -> (∀ p ∈ giv, p.1.num (aF (aJ D (atT 0) [])) = p.2) ->
   g (es.map (E.num (aF (aJ D (atT 0) [])))) = V.s (.bool b) -> aI (kG R f eu giv es g [.g bQ]) hs L0 = true -> bF f [v] w (.bool b) := fun {R L0 hs giv es g b} hR hL hg e hrun => by
  have := iW (b := fnB w D (atT 0) []) (w := w) (Nat.le_refl _) (fun _ _ => rfl) hR hL (aQ D _ _) hg hval hrun
  rw [show (fnB w D (atT 0) []).rho = aF (aJ D (atT 0) []) from rfl, e] at this
  exact bF.of (b := fnB w D (atT 0) []) (v := V.s (.bool b)) (fun r x hx => hx) this
 cases hg : guard D with
 | false =>
  rw [show mG D = false by unfold mG; rw [hg]; rfl]
  refine key (bg (aU h _ _)) hst (fun p hp => ?_) rfl aji
  obtain rfl := List.mem_singleton.1 hp
  exact (EO h _).trans hg
 | true =>
  have hg' := hg
  unfold guard at hg'
  simp only [Bool.and_eq_true, decide_eq_true_eq] at hg'
  obtain ⟨g1, g2, g3, g4⟩ := hg'
  have hLS : LS.Holds (aF (aJ D (atT 0) [])) (fun _ => []) := (((hst.lo (i := 2) (c := 1) (show (1 : Int) <= (D.ls.length : Int) by omega)).lo (i := 0) (c := 0) g2).hi (i := 0) (c := 8) g3).pin (i := 76) (c := 1) ((bY _).2 g4)
  have hrow := fun {b : Bool} (hb : D.ls.all ou = b) => one_row (bo := fnB w D (atT 0) []) (F := F) (row := row (if b then .exit 0 else .ret) (if b then sN else sR)) Tryz.func55 fun K ok c hc => iF tag (ako h hl hb K ok) hc
  cases hb : D.ls.all ou with
  | false =>
   rw [show mG D = false by unfold mG; rw [hg, hb]; rfl]
   exact key (fG iR (aU h _ _) (hrow hb)) hLS (fun p hp => by cases hp) rfl ags
  | true =>
   rw [show mG D = !Uk D by unfold mG; rw [hg, hb]; rfl]
   refine key (fG iR (@aV (fnB w D (atT 0) []) bW Wp (aU h _ _) (a0h h (atT 0) rfl g1 [])) (hrow hb)) hLS (fun p hp => ?_) ?_ abZ
   ·obtain rfl := List.mem_singleton.1 hp
    exact (Iy (atT 0) [] (e := GN) rfl).trans ((iC D.ls [] ou).2 hb 0 g1)
   ·show V.s (.bool (decide (ah (D.typ 0) 1 = 0) && true)) = _
    unfold Uk
    rw [Bool.and_true, Bool.not_not]
end
end Go.Proofs.YtglmonlofejcgaaGreatDoor.head
namespace Go.Proofs.YtglmonlofejcgaaGreatDoor.Am
open Go.RowKit
def stV (nL : Int) (st : List Value) (i : Nat) : Int := if i < 26 then ah st i else [lK (ah st 25) nL, lK (ah st 1) nL, lK (ah st 9) nL, lK (ah st 14) nL, lK (ah st 17) nL, lK (ah st 22) nL].getD (i - 26) 0
def Ws : E := ands [imp (isE 0 3) (isE 26 1), imp (.or (isE 0 2) (isE 0 4)) (.or (isE 20 1) (isE 31 1)),
 imp (isE 0 1) (ands [isE 27 1, imp (.or (isE 4 4) (isE 4 5)) (isE 30 1), imp (.not (.or (isE 4 4) (isE 4 5))) (.or (isE 7 1) (isE 28 1)), imp (.or (isE 4 2) (isE 4 3)) (.or (isE 12 1) (isE 29 1))])]
def nR (nL : Int) (st : List Value) : Bool := Ws.num (stV nL st)
def toS (i : Nat) : Nat := if i < 26 then 24 + i else 37 + i
theorem aen {D : FnD} (q : At) (more : List Int) : (Ws.ren toS).num (aF (aJ D q more)) = nR D.ls.length (D.stm q.i q.k) := by
 refine E.jY (n := 32) rfl fun j hj => ?_
 by_cases h : j < 26
 ·unfold toS stV
  rw [if_pos h, if_pos h]
  have e : aJ D q more = (zf D ++ (xsB D q ++ [(q.k : Int), (q.k : Int) + 1, lK q.k (D.blk q.i).st.length])) ++ (pR 26 (D.stm q.i q.k) ++ (xsO D q ++ (xsT D q ++ (xsC D q ++ more)))) := by simp [aJ, xsS, NT]
  rw [e]
  exact (jM (n := 24) rfl).trans (wS h _)
 ·have : j = 26 \/ j = 27 \/ j = 28 \/ j = 29 \/ j = 30 \/ j = 31 := by omega
  rcases this with rfl | rfl | rfl | rfl | rfl | rfl <;> rfl
def rP (nL : Int) (op : List Value) : Bool := decide (ah op 0 = 1) || decide (ah op 2 < nL)
def a4d : E := dJ.ren (24 + ·)
theorem IE {D : FnD} (q : At) (more : List Int) : a4d.num (aF (aJ D q more)) = dJ.val (D.stm q.i q.k) := (yK q more (e := dJ) (by decide)).trans (E.jh _ _).symm
section
variable {w : World} {v : Value} {D : FnD} (h : aT w v D)
include h
theorem a1h {F : FuncId} {val : Bool -> Value} {mk : Bool -> V} (hF : dB Tryz.prog F) (ht : Tests Tryz.prog zk F kSt dJ val) (hu : ∀ (b0 : Base) r b, @VV b0 r (mk b) (val b)) {q : At} (hi : q.i < D.bs.length) (hk : q.k < (D.blk q.i).st.length) {b : Bool} (hb : dJ.val (D.stm q.i q.k) = b) (m : List Int)
  (K : Know) (ok : aG K (fnB w D q m).rho (fnB w D q m).sig) : @Sound ((fnB w D q m).aH K ok) Tryz.prog (ku F [.g kM] (mk b)) := by
 have hc := FC h hi hk m
 refine @dA ((fnB w D q m).aH K ok) _ F hF _ _ (by rfl) [.agg (D.stm q.i q.k).toArray] ⟨⟨_, rfl, ?_⟩, trivial⟩ (val b) (fun r => hu _ r b) fun w' _ => ?_
 ·refine fC hc.len fun i x u hx hu => ?_
  obtain ⟨u', hu', e⟩ := ak.nth hc (n := i) (x := x) (by rw [aK]; exact hx)
  rw [hu] at hu'
  cases hu'
  exact e r0
 ·rw [<- hb]
  exact ht (D.stm q.i q.k) (BM h hi hk).1 w' trivial
theorem uq {i : Nat} (hi : i < D.bs.length) : eU w (.agg ((D.blk i).pre ++ (D.blk i).a :: (D.blk i).post).toArray) (D.blk i).pre (D.blk i).a (D.blk i).post (D.blk i).ops := by
 have b := (uo h hi).1
 exact ⟨rfl, b.BO, b.uX, ⟨b.opl.sl, b.opl.most, b.opl.at_, fun i el he => b.okd el (List.mem_of_getElem? he), b.opl.cap⟩⟩
def zi (b : bH) : Bool := okJ b.pre b.ops b.post
theorem Rn {F : FuncId} {val : Bool -> Value} {mk : Bool -> V} (hF : dB Tryz.prog F) (ht : RJ F val) (hu : ∀ (b0 : Base) r b, @VV b0 r (mk b) (val b)) {q : At} (hi : q.i < D.bs.length) {b : Bool} (hb : zi (D.blk q.i) = b) (m : List Int)
  (K : Know) (ok : aG K (fnB w D q m).rho (fnB w D q m).sig) : @Sound ((fnB w D q m).aH K ok) Tryz.prog (ku F [.g lW] (mk b)) := by
 have hc := ES h hi q rfl m
 refine @dA ((fnB w D q m).aH K ok) _ F hF _ _ (by rfl) [.agg ((D.blk q.i).pre ++ (D.blk q.i).a :: (D.blk q.i).post).toArray] ⟨⟨_, rfl, ?_⟩, trivial⟩ (val b) (fun r => hu _ r b) fun w' hw => ?_
 ·refine fC hc.len fun i x u hx hu => ?_
  obtain ⟨u', hu', e⟩ := ak.nth hc (n := i) (x := x) (by rw [aK]; exact hx)
  rw [hu] at hu'
  cases hu'
  exact e r0
 ·rw [<- hb]
  exact ht w' _ _ _ _ _ (uq (h.frz hw) hi)
theorem Ru {F : FuncId} {u : Value} {mv : V} (hF : dB Tryz.prog F) (hu : ∀ (b0 : Base) r, @VV b0 r mv u) (q : At) (m : List Int) (ha : ∀ w', aT w' v D -> bF F [v] w' u)
  (K : Know) (ok : aG K (fnB w D q m).rho (fnB w D q m).sig) : @Sound ((fnB w D q m).aH K ok) Tryz.prog (ku F [.g bQ] mv) :=
 @dA ((fnB w D q m).aH K ok) _ F hF _ _ (by rfl) [v] ⟨xI h q m r0, trivial⟩ u (fun r => hu _ r) fun w' hw => ha w' (h.frz hw)
end
theorem vm8 (b0 : Base) (r : Ren) (b : Bool) : @VV b0 r (m8 b) (v8 b) := by cases b <;> rfl
theorem vmB (b0 : Base) (r : Ren) (b : Bool) : @VV b0 r (mB b) (.bool b) := rfl
end Go.Proofs.YtglmonlofejcgaaGreatDoor.Am
namespace Go.Proofs.YtglmonlofejcgaaGreatDoor.made
open Go.RowKit Am
noncomputable def f : FuncId := 33
noncomputable def F : Func := Tryz.f33
noncomputable def fM : Code := dS F 0
noncomputable def aY : Code := dS F 1
noncomputable def near : S := .fn 56 [(1, 0), (0, 0)]
def R : S := .xe [(77, 1)]
noncomputable def PS : List (Nat × S) := [(1, .ptr 0 0), (3, .ptr 1 0), (4, near), (23, .rv 1), (24, .xi .i64 3)]
noncomputable def wQ : List (Nat × S) := PS ++ [(25, .xi .i64 4), (6, .ptr 2 0)]
def hpO (r : S) : Hp := [(1, ⟨[r], true⟩), (0, ⟨bQ, true⟩)]
def hpI (r : S) : Hp := (2, ⟨kL, true⟩) :: hpO r
noncomputable def hdO : St := ⟨iM F.ntmps (PS ++ [(25, .xi .i64 4)]), ⟨hpO R, 2⟩⟩
noncomputable def hdI : St := ⟨iM F.ntmps (wQ ++ [(30, .rv 3), (31, .xi .i64 7), (32, .xi .i64 21)]), ⟨hpI R, 3⟩⟩
noncomputable def sNO : St := ⟨iM F.ntmps PS, ⟨hpO (.xe [(78, 1)]), 2⟩⟩
noncomputable def sNI : St := ⟨iM F.ntmps wQ, ⟨hpI (.xe [(78, 1)]), 3⟩⟩
noncomputable def sRO : St := ⟨iM F.ntmps [(2, .bool false)], ⟨[], 2⟩⟩
noncomputable def sRI : St := ⟨iM F.ntmps [(2, .bool false)], ⟨[], 3⟩⟩
def opT (k d : Nat) (t : HT) : HT := .by k 1 (.both d 1 t) (.by k 2 t (.by k 3 (.both d 1 t) (.by k 4 (.both d 1 t) (.both d 1 t))))
def amy : HT := .on 28 1 .leaf (.on 28 2 (opT 31 65 .leaf) (.on 28 3 (opT 31 65 (opT 36 66 .leaf)) (.on 28 4 (opT 31 65 (opT 36 66 .leaf)) (.by 28 6 (.by 28 5 (.both 67 1 .leaf) (.both 67 1 .leaf)) .leaf))))
def agK : HT := .on 24 1 .leaf (.on 24 2 (.both 64 1 amy) (.on 24 3 (opT 44 68 .leaf) (.on 24 4 (.both 63 1 .leaf) (.by 24 5 (opT 44 68 .leaf) .leaf))))
def hSt : HT := .on 77 1 agK agK
def GK : E := .and (isE 77 1) (Ws.ren toS)
noncomputable def Fp (b : Bool) : Know -> aS := fun _ => ku 57 [.g kM] (m8 b)
noncomputable def L1 : Lf := ((Lf.of (fE ++ [ivB])).pin 6 1).pin 23 1
noncomputable def L3 : Lf := ((Lf.of (fE ++ [ivB])).pin 6 1).pin 23 0
noncomputable def tbI : Tabs := bW.app (iG.app a6p)
noncomputable def stepT : Lf -> Bool := dQ (dH (Fp true) tbI aX) f eu [(a4d, true)] [isU (.xi .i64 21) (.xi .i64 22), a4y R GK, QK 77 GK 77] ⟨21, 0, 5⟩ aY hdI .normal hdI
theorem a9A {test : Lf -> Bool} {i : Nat} {c : Int} {a b : HT} {f : Bool} {L : Lf} (h1 : below L i c = false) (h2 : above L i c = false) (ha : aI test a (L.hi i (c - 1)) = true) (hb : aI test b (L.lo i c) = true) : aI test (.cut f i c a b) L = true := by
 show (bif below L i c then aI test a L else bif above L i c then aI test b L else (bif f then false else test L) || (aI test a (L.hi i (c - 1)) && aI test b (L.lo i c))) = true
 rw [h1, h2, ha, hb]
 simp
theorem akm : aI stepT agK (L1.hi 77 0) = true := by kernel_rfl
theorem ajI : aI stepT agK (L1.lo 77 1) = true := by kernel_rfl
theorem jU : aI (dQ (dH (Fp true) tbI aX) f eu [(a4d, true)] [isU (.xi .i64 21) (.xi .i64 22), a4y R GK, QK 77 GK 77] ⟨21, 0, 5⟩ aY hdI .normal hdI) hSt L1 = true := a9A (test := stepT) (by kernel_rfl) (by kernel_rfl) akm ajI
theorem amb : aI (dQ (dH (Fp false) tbI aX) f eu [] [] ⟨21, 0, 5⟩ aY hdI .ret sRI) .leaf L1 = true := by kernel_rfl
theorem JU : aI (dQ (dH gZ (bW.app iG) aX) f eu [] [isU (.xe [(78, 1)]) R] ⟨21, 0, 5⟩ aY hdI (.exit 2) sNI) .leaf L3 = true := by kernel_rfl
noncomputable def fO : FuncId := 98
noncomputable def FO : Func := Tryz.f98
noncomputable def iy : Code := dS FO 0
def hpA (r : S) : Hp := (4, ⟨[.xi .i64 15], true⟩) :: hpO r
noncomputable def hdA : St := ⟨iM FO.ntmps [(1, .bool true), (2, near), (8, .rv 4), (9, .xi .i64 17), (10, .xi .i64 50)], ⟨hpA R, 7⟩⟩
noncomputable def sNA : St := ⟨iM FO.ntmps [], ⟨hpA (.xe [(79, 1)]), 7⟩⟩
def hOp : HT := .on 77 1 (opT 53 71 .leaf) (opT 53 71 .leaf)
def a8X : E := .and (isE 77 1) (.or (isE 53 1) (isE 71 1))
noncomputable def L5 : Lf := ((Lf.of (fE ++ [ivB])).pin 6 1).pin 52 1
noncomputable def L6 : Lf := ((Lf.of (fE ++ [ivB])).pin 6 1).pin 52 0
theorem DC : aI (dQ (dH gZ (bW.app (iG.app ae5)) aX) fO eu [] [isU (.xi .i64 50) (.xi .i64 51), a4y R a8X, QK 77 a8X 77] ⟨21, 0, 5⟩ iy hdA .normal hdA) hOp L5 = true := by kernel_rfl
theorem MF : aI (dQ (dH gZ (bW.app iG) aX) fO eu [] [isU (.xe [(79, 1)]) R] ⟨21, 0, 5⟩ iy hdA (.exit 0) sNA) .leaf L6 = true := by kernel_rfl
def usI : List Upd := [isU (.xi .i64 21) (.int .i64 0), isU R R]
def usA : List Upd := [isU (.xi .i64 50) (.int .i64 0), ⟨R, [isE 78 1], fun bs => bif bs.headD false then .xe [(70, 1)] else .bool false⟩, a4y R (.and (isE 78 1) (isE 70 1))]
noncomputable def mD (x : X) (s1 : St) (K : Know) : Loops := iP 8 ⟨21, 0, 5⟩ (@thU K usI) hdI x s1
noncomputable def rowA (K : Know) : Loops := iP 2 ⟨21, 0, 5⟩ (@thU K usA) hdA (.exit 0) sNA
noncomputable def a0J (K : Know) : FuncId -> Loops := dP [(f, mD (.exit 2) sNI K), (fO, rowA K)]
noncomputable def QC (K : Know) : FuncId -> Loops := dP [(f, mD .ret sRI K)]
noncomputable def ajj (b : Bool) : Know -> aS := fun _ => ku 72 [.g lW] (m8 b)
def Y9 : E := ands [imp (isE 8 2) (.and (isE 78 1) (.or (isE 9 1) (isE 69 1))), imp (isE 8 4) (isE 79 1), imp (.and (.not (isE 8 2)) (.not (isE 8 4))) (isE 78 1), imp (.not (.or (isE 8 3) (isE 8 5))) (isE 72 1), imp (isE 8 2) (.or (isE 74 1) (isE 73 1))]
def b1 (i : Nat) (t : HT) : HT := .on i 1 t t
def aj2 : HT := b1 78 (b1 72 .leaf)
def hJm : HT := .on 8 2 aj2 (.on 8 3 (b1 78 (.by 9 1 (.both 69 1 (b1 72 (b1 74 (b1 73 .leaf)))) (.by 9 2 (b1 72 (b1 74 (b1 73 .leaf))) (.both 69 1 (b1 72 (b1 74 (b1 73 .leaf))))))) (.on 8 4 (b1 78 .leaf) (.on 8 5 (b1 78 (b1 70 (b1 79 (b1 72 .leaf)))) (.on 8 6 (b1 78 .leaf) aj2))))
noncomputable def L7 : Lf := (Lf.of (fE ++ [ivB, ivB, ivB])).pin 6 1
noncomputable def L8 : Lf := (Lf.of (fE ++ [ivB])).pin 6 0
noncomputable def tbO : Tabs := bW.app iG
theorem Kr : aI (dQ (dH (ajj true) tbO a0J) f eu [] [isU (.xi .i64 4) (.xi .i64 5), a4y R Y9, QK 77 Y9 78, QK 77 Y9 79] ⟨4, 0, 3⟩ fM hdO .normal hdO) hJm L7 = true := by kernel_rfl
theorem alK : aI (dQ (dH gZ tbO QC) f eu [] [] ⟨4, 0, 3⟩ fM hdO .ret sRO) .leaf L7 = true := by kernel_rfl
theorem alH : aI (dQ (dH (ajj false) tbO fun K => dP [(f, mD (.exit 2) sNI K)]) f eu [] [] ⟨4, 0, 3⟩ fM hdO .ret sRO) .leaf L7 = true := by kernel_rfl
theorem Nq : aI (dQ (dH gZ bW aX) f eu [] [isU (.xe [(78, 1)]) R] ⟨4, 0, 3⟩ fM hdO (.exit 0) sNO) .leaf L8 = true := by kernel_rfl
noncomputable def zh (r : Bool) (x : X) (s1 : St) (K : Know) : Loops := iP 5 ⟨4, 0, 3⟩ (@thU K [isU (.xi .i64 4) (.int .i64 0), isU R (.bool r)]) hdO x s1
noncomputable def afT (b : Bool) : Know -> aS := fun _ => ku 55 [.g bQ] (mB b)
noncomputable def LM : Lf := Lf.of (fE ++ [ivB, ivB])
noncomputable def runM (hb r : Bool) (x : X) (s1 : St) (es : List E) (g : List Bool -> V) : Lf -> Bool := kG (dH (afT hb) bW fun K => dP [(f, zh r x s1 K)]) f eu [] es g [.g bQ]
theorem alz : aI (runM false false (.exit 0) sNO [] fun _ => V.s (.xe [(78, 1)])) (.of [⟨false, 78, 1⟩]) LM = true := by kernel_rfl
theorem amk : aI (runM false false .ret sRO [] fun _ => V.s (.bool false)) .leaf LM = true := by kernel_rfl
theorem good1 : aI (runM true true (.exit 0) sNO [] fun _ => V.s (.xe [(78, 1)])) (.of [⟨false, 78, 1⟩]) (LM.lo 3 1) = true := by kernel_rfl
theorem aml : aI (runM true true .ret sRO [] fun _ => V.s (.bool false)) .leaf (LM.lo 3 1) = true := by kernel_rfl
theorem akZ : aI (runM true false (.exit 0) sNO [] fun _ => V.s (.xe [(78, 1)])) (.of [⟨false, 78, 1⟩]) (LM.hi 3 0) = true := by kernel_rfl
theorem amn : aI (runM true false .ret sRO [] fun _ => V.s (.bool false)) .leaf (LM.hi 3 0) = true := by kernel_rfl
theorem UU : fH (F.body.getD .skip) 0 5 = true := by kernel_rfl
theorem Rw : fH fM 0 8 = true := by kernel_rfl
theorem RX : fH (FO.body.getD .skip) 0 2 = true := by kernel_rfl
end Go.Proofs.YtglmonlofejcgaaGreatDoor.made
