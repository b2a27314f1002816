/- Whether a function's locals and parameters are right: fnshape.head. -/
import Derived.Test.YtglmonlofejcgaaDoorFn2
namespace Go.Proofs.YtglmonlofejcgaaDoor.Am
open Go.RowKit
set_option linter.unusedVariables false
set_option linter.unusedSectionVars false
def imp (a b : E) : E := .or (.not a) b
def isE (i : Nat) (c : Int) : E := .zero [(i, c)]
def ands : List E → E
  | [] => .zero []
  | [e] => e
  | e :: r => .and e (ands r)
/-- a type is valid -/
def okTyE : E := .or (.and (.or (isE 0 1) (isE 0 2)) (isE 1 0)) (ands [.not (.lt 0 3), .lt 0 6, .or (isE 1 1) (isE 1 2)])
def okTy (t : List Value) : Bool := okTyE.num (cellI t)
/-- the first local's type, by a number that is written out -/
def tab0 : Tabs := ⟨[], [(0, .c 0, typCells)], []⟩
theorem tab_elC {e : Env} {v : Value} {sz k n : Nat} {els : List (List Value)} {el : List Value} {cs : List S} (h : ListAt e.w v sz els) (hl : e.b.lst k = ⟨v, els⟩) (he : els[n]? = some el) (hs : cs.length = sz) (hc : All2 (fun x v => ∀ r, @VS e.b r x v) cs el) :
    @TabsOk e.b ⟨[], [(k, .c n, cs)], []⟩ := by
  refine @TabsOk.mk e.b _ (fun _ _ h => (by cases h)) (fun l m ds hh => ?_) (fun _ _ _ h => (by cases h))
  have hh : (bif Nat.beq k l && (N.c n).eqv m then some cs else none) = some ds := hh
  cases hb : (Nat.beq k l && (N.c n).eqv m) <;> rw [hb] at hh <;> cases hh
  simp only [Bool.and_eq_true] at hb
  rw [← Nat.eq_of_beq_eq_true hb.1, ← N.eqv_ok hb.2]
  exact h.el (b := e.b) (i := .c n) rfl rfl hl (n := n) rfl he hs hc
theorem tab0_ok {w : World} {v : Value} {D : FnD} (h : FnOk' w v D) (q : At) (hq : q.t = 0) (hl : 0 < D.ls.length) (more : List Int) : @TabsOk (fnB w D q more) tab0 := by
  have := typ_cells h (q := q) (by omega) more
  rw [hq] at this
  exact tab_elC (e := fnE w D q more) h.locals rfl (n := 0) (typ_is h hl).2 rfl this
end Go.Proofs.YtglmonlofejcgaaDoor.Am
namespace Go.Proofs.YtglmonlofejcgaaDoor.head
open Go.RowKit Go.Proofs.YtglmonlofejcgaaDoor.Am
set_option maxRecDepth 100000
set_option linter.unusedVariables false
set_option linter.unusedSectionVars false
def guard (D : FnD) : Bool := decide (0 < D.ls.length) && (decide (0 ≤ D.p) && (decide (D.p ≤ 8) && decide (D.p < D.ls.length)))
def ptr0 (D : FnD) : Bool := !decide (cellI (D.typ 0) 1 = 0)
def headF (D : FnD) : Bool := guard D && (D.ls.all okTy && !ptr0 D)
noncomputable def f : FuncId := 73
noncomputable def F : Func := Tryd.f73
noncomputable def code : Code := loopAt F 0
noncomputable def hd : St := ⟨frOf F.ntmps [(1, .ptr 0 0), (30, .rv 0), (31, .xi .i64 2), (32, .xi .i64 58)], ⟨[(0, ⟨fnCells, true⟩)], 1⟩⟩
noncomputable def sN : St := ⟨frOf F.ntmps [(1, .ptr 0 0)], ⟨[(0, ⟨fnCells, true⟩)], 1⟩⟩
noncomputable def sR : St := ⟨frOf F.ntmps [(2, .bool false)], ⟨[], 1⟩⟩
def hTy : HT := .of [⟨false, 62, 1⟩, ⟨false, 61, 2⟩, ⟨false, 61, 3⟩, ⟨false, 61, 1⟩, ⟨false, 62, 2⟩, ⟨false, 62, 3⟩, ⟨false, 61, 4⟩, ⟨false, 61, 5⟩, ⟨false, 61, 6⟩]
def okN : E := okTyE.ren (61 + ·)
noncomputable def test (tb : Tabs) (giv : List (E × Bool)) (us : List Upd) (x : X) (s1 : St) : Lf → Bool := turnT (rigP libN tb noLoops) f fnFx giv us ⟨4, 0, 3⟩ code hd x s1
noncomputable def L1 : Lf := (Lf.of (fnIv ++ [])).pin 60 1
noncomputable def L3 : Lf := (Lf.of (fnIv ++ [])).pin 60 0
theorem step : autoB (test (tabF.app tabT) [(okN, true)] [isU (.xi .i64 58) (.xi .i64 59)] .normal hd) hTy L1 = true := by kernel_rfl
theorem bad : autoB (test (tabF.app tabT) [(okN, false)] [] .ret sR) hTy L1 = true := by kernel_rfl
theorem stop : autoB (test tabF [] [] (.exit 0) sN) .leaf L3 = true := by kernel_rfl
def th0 : Th := [(.xi .i64 58, .int .i64 0)]
noncomputable def row (x : X) (s1 : St) : Loops := rowL 5 ⟨4, 0, 3⟩ th0 hd x s1
def guardE : E := ands [.not (.lt 2 1), .not (.lt 0 0), .lt 0 9, isE 76 1]
noncomputable def LG : Lf := Lf.of (fnIv ++ [])
noncomputable def LS : Lf := ((((Lf.of (fnIv ++ [])).lo 2 1).lo 0 0).hi 0 8).pin 76 1
theorem no_run : autoB (callT (rigP libN tabF noLoops) f fnFx [(guardE, false)] [] (fun _ => V.s (.bool false)) [.g fnCells]) (.of [⟨false, 2, 1⟩, ⟨false, 0, 0⟩, ⟨false, 0, 9⟩, ⟨false, 76, 1⟩]) LG = true := by kernel_rfl
theorem bad_run : autoB (callT (rigP libN tabF (fun _ => rowsL [(f, row .ret sR)])) f fnFx [] [] (fun _ => V.s (.bool false)) [.g fnCells]) .leaf LS = true := by kernel_rfl
theorem good_run : autoB (callT (rigP libN (tabF.app tab0) (fun _ => rowsL [(f, row (.exit 0) sN)])) f fnFx [(okN, true)] [isE 62 0] (fun bs => V.s (.bool (bs.headD false))) [.g fnCells]) hTy LS = true := by kernel_rfl
theorem tag : tagsOk (F.body.getD .skip) 0 5 = true := by kernel_rfl
section
variable {w : World} {v : Value} {D : FnD} (h : FnOk' w v D)
include h
theorem start (q : At) (hq : Fits D q) : (Lf.of (fnIv ++ [])).Holds (xsAt (fnXs D q ([] ++ []))) (fun _ => []) := fn_start h hq (iv := []) (m1 := []) (m2 := []) trivial _
theorem turn {tb : Tabs} {giv : List (E × Bool)} {us : List Upd} {s1 : St} {x : X} {hs : HT} {L : Lf} {q q' : At} (ht : @TabsOk (fnB w D q []) tb) (hL : L.Holds (xsAt (fnXs D q [])) (fun _ => [])) (hg : ∀ p ∈ giv, p.1.num (xsAt (fnXs D q [])) = p.2) (hus : ∀ u ∈ us, UpdOk (fnB w D q []) (fnB w D q' []) u) (hnx : s1.h.next = 1)
    (hrun : autoB (test tb giv us x s1) hs L = true) : TurnsS Tryd.prog (fnB w D q []) (fnB w D q' []) code hd x s1 := by
  refine ⟨fun r B a w1 hr => ?_⟩
  exact turn_auto (rig_plain ht) (agree_fn q q' [] []) hnx.symm hL (fnFx_ok D q []) hg hus (fun K ok => no_loop K ok code) hrun hr
theorem row_ok (hl : D.ls.length ≤ 1000) {b : Bool} (hb : D.ls.all okTy = b) (K : Know) (ok : KnowOk K (fnB w D (atT 0) []).rho (fnB w D (atT 0) []).sig) :
    @LoopOk ((fnB w D (atT 0) []).withK K ok) Tryd.prog (row (if b then .exit 0 else .ret) (if b then sN else sR)) code := by
  have hin : ∀ k, k < D.ls.length → L1.Holds (xsAt (fnXs D (atT k) [])) (fun _ => []) := fun k hk => (start h (atT k) (fits_T (by omega))).pin (i := 60) (c := 1) (show b2i (decide ((k : Int) < D.ls.length)) = 1 from (one_iff _).2 (by omega))
  have htb : ∀ k, k < D.ls.length → @TabsOk (fnB w D (atT k) []) (tabF.app tabT) := fun k hk => @tabs_app (fnB w D (atT k) []) tabF tabT (tabF_ok h _ _) (tabT_ok h (q := atT k) hk _)
  have hok : ∀ k b, okTy (D.typ k) = b → ∀ p ∈ [(okN, b)], p.1.num (xsAt (fnXs D (atT k) [])) = p.2 := fun k b e p hp => by
    obtain rfl := List.mem_singleton.1 hp
    exact (typ_num (atT k) [] (e := okTyE) rfl).trans e
  have hstep : ∀ k, k < D.ls.length → okTy (D.typ k) = true → TurnsS Tryd.prog (fnB w D (atT k) []) (fnB w D (atT (k + 1)) []) code hd .normal hd := fun k hk e => by
    refine turn h (htb k hk) (hin k hk) (hok k true e) (fun u hu => ?_) rfl step
    obtain rfl := List.mem_singleton.1 hu
    exact isU_ok fun r v hv => hv
  have hend : TurnsS Tryd.prog (fnB w D (atT D.ls.length) []) (fnB w D (atT 0) []) code hd (.exit 0) sN :=
    turn h (tabF_ok h _ _) (L := L3) ((start h (atT D.ls.length) (fits_T (by omega))).pin (i := 60) (c := 0) (show b2i (decide ((D.ls.length : Int) < D.ls.length)) = 0 by rw [decide_eq_false (by omega)]; rfl)) (fun p hp => by cases hp) (fun u hu => by cases hu) rfl stop
  have hth : Th.ok (fnB w D (atT 0) []) (fnB w D (atT 0) []) th0 := th_one fun r v hv => hv
  cases b with
  | true =>
    have hall := (all_at D.ls [] okTy).2 hb
    exact @rounds_ok _ _ (fun k => fnB w D (atT k) []) code _ _ hd _ _ (fun e => by cases e) D.ls.length (agree_fn _ _ [] []) hth (fun k hk => hstep k hk (hall k hk)) hend 5 K ok
  | false =>
    rcases first_not (fun i => okTy (D.typ i)) D.ls.length with hall | ⟨N, hN, h0, hn⟩
    · rw [(all_at D.ls [] okTy).1 hall] at hb
      cases hb
    · exact @rounds_ok _ _ (fun k => fnB w D (atT k) []) code _ _ hd _ _ (fun e => by cases e) N (agree_fn _ _ [] []) hth (fun k hk => hstep k (by omega) (h0 k hk)) (turn h (htb N hN) (hin N hN) (hok N false hn) (fun u hu => by cases hu) rfl bad) 5 K ok
theorem guard_num (q : At) : guardE.num (xsAt (fnXs D q [])) = guard D := by
  show ((!decide ((D.ls.length : Int) < 1)) && ((!decide (D.p < 0)) && (decide (D.p < 9) && (decide (b2i (decide (D.p < D.ls.length)) = 1) && true)))) = _
  unfold guard
  rw [Bool.and_true, decide_eq_decide.2 (one_iff (D.p < D.ls.length)), ← decide_not, ← decide_not]
  congr 1
  · exact decide_eq_decide.2 (by omega)
  congr 1
  · exact decide_eq_decide.2 (by omega)
  congr 1
  exact decide_eq_decide.2 (by omega)
theorem head_ans (hl : D.ls.length ≤ 1000) : Answers f [v] w (.bool (headF D)) := by
  have hst := start h (atT 0) (fits_T (by omega))
  have hval : All2 (@VA (fnB w D (atT 0) []) r0) [.g fnCells] [v] := ⟨fn_val h (atT 0) [] r0, trivial⟩
  have key : ∀ {R : Rig} {L0 : Lf} {hs : HT} {giv : List (E × Bool)} {es : List E} {g : List Bool → V} {b : Bool}, RigOk Tryd.prog R (fnB w D (atT 0) []) → L0.Holds (xsAt (fnXs D (atT 0) [])) (fun _ => []) → (∀ p ∈ giv, p.1.num (xsAt (fnXs D (atT 0) [])) = p.2) →
      g (es.map (E.num (xsAt (fnXs D (atT 0) [])))) = V.s (.bool b) → autoB (callT R f fnFx giv es g [.g fnCells]) hs L0 = true → Answers f [v] w (.bool b) := fun {R L0 hs giv es g b} hR hL hg e hrun => by
    have := calls_auto (b := fnB w D (atT 0) []) (w := w) (Nat.le_refl _) (fun _ _ => rfl) hR hL (fnFx_ok D _ _) hg hval hrun
    rw [show (fnB w D (atT 0) []).rho = xsAt (fnXs D (atT 0) []) from rfl, e] at this
    exact Answers.of (b := fnB w D (atT 0) []) (v := V.s (.bool b)) (fun r x hx => hx) this
  cases hg : guard D with
  | false =>
    rw [show headF D = false by unfold headF; rw [hg]; rfl]
    refine key (rig_plain (tabF_ok h _ _)) hst (fun p hp => ?_) rfl no_run
    obtain rfl := List.mem_singleton.1 hp
    exact (guard_num h _).trans hg
  | true =>
    have hg' := hg
    unfold guard at hg'
    simp only [Bool.and_eq_true, decide_eq_true_eq] at hg'
    obtain ⟨g1, g2, g3, g4⟩ := hg'
    have hLS : LS.Holds (xsAt (fnXs D (atT 0) [])) (fun _ => []) := (((hst.lo (i := 2) (c := 1) (show (1 : Int) ≤ (D.ls.length : Int) by omega)).lo (i := 0) (c := 0) g2).hi (i := 0) (c := 8) g3).pin (i := 76) (c := 1) ((one_iff _).2 g4)
    have hrow := fun {b : Bool} (hb : D.ls.all okTy = b) => one_row (bo := fnB w D (atT 0) []) (F := F) (row := row (if b then .exit 0 else .ret) (if b then sN else sR)) Tryd.func73 fun K ok c hc => row_fn tag (row_ok h hl hb K ok) hc
    cases hb : D.ls.all okTy with
    | false =>
      rw [show headF D = false by unfold headF; rw [hg, hb]; rfl]
      exact key (rig_ok lib_none (tabF_ok h _ _) (hrow hb)) hLS (fun p hp => by cases hp) rfl bad_run
    | true =>
      rw [show headF D = !ptr0 D by unfold headF; rw [hg, hb]; rfl]
      refine key (rig_ok lib_none (@tabs_app (fnB w D (atT 0) []) tabF tab0 (tabF_ok h _ _) (tab0_ok h (atT 0) rfl g1 [])) (hrow hb)) hLS (fun p hp => ?_) ?_ good_run
      · obtain rfl := List.mem_singleton.1 hp
        exact (typ_num (atT 0) [] (e := okTyE) rfl).trans ((all_at D.ls [] okTy).2 hb 0 g1)
      · show V.s (.bool (decide (cellI (D.typ 0) 1 = 0) && true)) = _
        unfold ptr0
        rw [Bool.and_true, Bool.not_not]
end
end Go.Proofs.YtglmonlofejcgaaDoor.head
