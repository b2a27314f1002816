/- Great and Size. pawnshopref14.GreatFunc, as the machine runs it. pawnshopref15.Great and the law's own fit. -/
import Derived.Test.YthdcahkedlijpaaGreatFn26
import Derived.Test.YthdcahkedlijpaaGreatLoanD
namespace Go.Proofs.YthdcahkedlijpaaGreat.great
open Go.RowKit Go.Proofs.YthdcahkedlijpaaGreat.Am
set_option maxRecDepth 100000
set_option linter.unusedVariables false
set_option linter.unusedSectionVars false
noncomputable def keep : List (Nat × S) := [(1, .ptr 0 0), (2, .bool false)]
def hp : Hp := [(0, ⟨fnCells, true⟩)]
def bigE : E := .or (.not (.lt 7 31)) (.not (.lt 17 13))
def bigT : HT := .by 7 31 (.by 17 13 .leaf .leaf) .leaf
noncomputable def L1 : Lf := (Lf.of (fnIv ++ [])).pin 6 1
noncomputable def L0 : Lf := (Lf.of (fnIv ++ [])).pin 6 0
def topE : E := .or (.not (.lt 2 31)) (.not (.lt 3 31))
noncomputable def LG : Lf := Lf.of (fnIv ++ [])
def topT : HT := .by 2 31 (.by 3 31 .leaf .leaf) .leaf
def bigB (b : BlkD) : Bool := !decide ((b.st.length : Int) < 31) || !decide ((b.ops.length : Int) < 13)
def topB (D : FnD) : Bool := !decide ((D.ls.length : Int) < 31) || !decide ((D.bs.length : Int) < 31)
def greatF (D : FnD) : Bool := topB D || D.bs.any bigB
section
variable {w : World} {v : Value} {D : FnD} (h : FnOk' w v D)
include h
end
end Go.Proofs.YthdcahkedlijpaaGreat.great
namespace Go.Proofs.YthdcahkedlijpaaGreat.size
open Go.RowKit Go.Proofs.YthdcahkedlijpaaGreat.Am
set_option maxRecDepth 100000
set_option linter.unusedVariables false
set_option linter.unusedSectionVars false
def xi (n : Nat) : S := .xi .i64 n
noncomputable def keep (n : Nat) : List (Nat × S) := [(1, .ptr 0 0), (5, xi n), (17, .rv 1), (18, xi 3)]
def hp : Hp := [(0, ⟨fnCells, true⟩)]
noncomputable def L1 : Lf := (Lf.of (fnIv ++ [])).pin 6 1
noncomputable def L0 : Lf := (Lf.of (fnIv ++ [])).pin 6 0
def fx : Fx := ⟨[], { fnFx.xt with sm := [(77, 7, 78)] }⟩
noncomputable def lib : Know → Oracle := fun _ => rowG check.f [.g fnCells] (V.s (.int .i64 0))
noncomputable def LG : Lf := Lf.of (fnIv ++ [])
def sizeK (D : FnD) (i : Nat) : Int := D.bs.length + acc (fun b : BlkD => (b.st.length : Int)) (D.bs.take i)
def sizeF (D : FnD) : Int := D.bs.length + acc (fun b : BlkD => (b.st.length : Int)) D.bs
def mk (D : FnD) (i : Nat) : List Int := [sizeK D i, sizeK D i + (D.blk i).st.length]
def mF (D : FnD) : List Int := [0, 0, sizeF D]
theorem of_chk {D : FnD} (h : check.chkF D = 0) : many.manyF D = false ∧ made.madeF D = true ∧ twos.twosF D = true := by
 unfold check.chkF at h
 cases h1 : many.manyF D <;> cases h2 : made.madeF D <;> cases h3 : twos.twosF D <;> simp [h1, h2, h3] at h ⊢
section
variable {w : World} {v : Value} {D : FnD} (h : FnOk' w v D)
include h
theorem sm (hc : check.chkF D = 0) : twos.Sm D := by
 obtain ⟨h1, h2, _⟩ := of_chk hc
 exact check.sm_of h h1 h2
end
end Go.Proofs.YthdcahkedlijpaaGreat.size
namespace Go.Proofs.YthdcahkedlijpaaGreat.great14
open Go.RowKit Go.Proofs.YthdcahkedlijpaaGreat.Am
set_option maxRecDepth 100000
set_option linter.unusedVariables false
set_option linter.unusedSectionVars false
noncomputable def f : FuncId := 10
noncomputable def F : Func := Tryz.f10
noncomputable def code : Code := loopAt F 0
noncomputable def keep : List (Nat × S) := [(1, .ptr 0 0), (2, .bool false)]
def hp : Hp := [(0, ⟨fnCells, true⟩)]
noncomputable def hd : St := ⟨frOf F.ntmps (keep ++ [(3, .xi .i64 4)]), ⟨hp, 1⟩⟩
noncomputable def sN : St := ⟨frOf F.ntmps keep, ⟨hp, 1⟩⟩
noncomputable def sR : St := ⟨frOf F.ntmps [(2, .bool true)], ⟨[], 1⟩⟩
def bigE : E := .or (.not (.lt 7 31)) (.not (.lt 17 13))
def bigT : HT := .by 7 31 (.by 17 13 .leaf .leaf) .leaf
noncomputable def L1 : Lf := (Lf.of (fnIv ++ [])).pin 6 1
noncomputable def L0 : Lf := (Lf.of (fnIv ++ [])).pin 6 0
noncomputable def turn (tb : Tabs) (giv : List (E × Bool)) (us : List Upd) (x : X) (s1 : St) : Lf → Bool := turnT (rigP libN tb noLoops) f fnFx giv us ⟨4, 0, 3⟩ code hd x s1
theorem step : autoB (turn (tabF.app tabB) [(bigE, false)] [isU (.xi .i64 4) (.xi .i64 5)] .normal hd) bigT L1 = true := by kernel_rfl
theorem bad : autoB (turn (tabF.app tabB) [(bigE, true)] [] .ret sR) bigT L1 = true := by kernel_rfl
theorem stop : autoB (turn tabF [] [] (.exit 0) sN) .leaf L0 = true := by kernel_rfl
noncomputable def row (x : X) (s1 : St) (K : Know) : Loops := rowL 5 ⟨4, 0, 3⟩ (@thU K [isU (.xi .i64 4) (.int .i64 0)]) hd x s1
def topE : E := .or (.not (.lt 2 31)) (.not (.lt 3 31))
noncomputable def run (rows : Know → List (FuncId × Loops)) (giv : List (E × Bool)) (b : Bool) : Lf → Bool := callT (rigP libN tabF fun K => rowsL (rows K)) f fnFx giv [] (fun _ => V.s (.bool b)) [.g fnCells]
noncomputable def LG : Lf := Lf.of (fnIv ++ [])
def topT : HT := .by 2 31 (.by 3 31 .leaf .leaf) .leaf
theorem run_top : autoB (run (fun _ => []) [(topE, true)] true) topT LG = true := by kernel_rfl
theorem run_bad : autoB (run (fun K => [(f, row .ret sR K)]) [(topE, false)] true) topT LG = true := by kernel_rfl
theorem run_ok : autoB (run (fun K => [(f, row (.exit 0) sN K)]) [(topE, false)] false) topT LG = true := by kernel_rfl
theorem tag : tagsOk (F.body.getD .skip) 0 5 = true := by kernel_rfl
section
variable {w : World} {v : Value} {D : FnD} (h : FnOk' w v D)
include h
theorem blks (hB : D.bs.length ≤ 1000) {b : Bool} (hb : (D.bs.all fun x => !great.bigB x) = b) (K : Know) (ok : KnowOk K (fnB w D (atB 0) []).rho (fnB w D (atB 0) []).sig) :
  @LoopOk ((fnB w D (atB 0) []).withK K ok) Tryz.prog (row (if b then .exit 0 else .ret) (if b then sN else sR) K) code := by
 have us : ∀ u ∈ [isU (.xi .i64 4) (.int .i64 0)], UpdOk (fnB w D (atB 0) []) (fnB w D (atB 0) []) u := fun u hu => by
  obtain rfl := List.mem_singleton.1 hu
  exact isU_ok fun r v hv => hv
 have hin : ∀ k, k < D.bs.length → L1.Holds (xsAt (fnXs D (atB k) [])) (fun _ => []) := fun k hk => (twos.start0 h (atB k) (fits_B (by omega)) []).pin (i := 6) (c := 1) (show b2i (decide ((k : Int) < D.bs.length)) = 1 from (one_iff _).2 (by omega))
 have rg : ∀ k, k < D.bs.length → RigOk Tryz.prog (rigP libN (tabF.app tabB) noLoops) (fnB w D (atB k) []) := fun k hk => rig_plain (@tabs_app (fnB w D (atB k) []) tabF tabB (tabF_ok h _ _) (tabB_ok h (q := atB k) hk _))
 have gv : ∀ k b, great.bigB (D.blk k) = b → ∀ p ∈ [(bigE, b)], p.1.num (xsAt (fnXs D (atB k) [])) = p.2 := fun k b e p hp => by
  obtain rfl := List.mem_singleton.1 hp
  exact e
 have hstep : ∀ k, k < D.bs.length → (!great.bigB (D.blk k)) = true → TurnsS Tryz.prog (fnB w D (atB k) []) (fnB w D (atB (k + 1)) []) code hd .normal hd := fun k hk e => by
  refine turn_fn step (rg k hk) (agree_fn _ _ _ _) (hin k hk) (fnFx_ok D _ _) (gv k false (by rwa [Bool.not_eq_true'] at e)) (fun u hu => ?_) rfl (no_loopN f code)
  obtain rfl := List.mem_singleton.1 hu
  exact isU_ok fun r v hv => hv
 have hend : TurnsS Tryz.prog (fnB w D (atB D.bs.length) []) (fnB w D (atB 0) []) code hd (.exit 0) sN :=
  turn_fn stop (rig_plain (tabF_ok h _ _)) (agree_fn _ _ _ _) (L := L0) ((twos.start0 h (atB D.bs.length) (fits_B (by omega)) []).pin (i := 6) (c := 0) (show b2i (decide ((D.bs.length : Int) < D.bs.length)) = 0 by rw [decide_eq_false (by omega)]; rfl)) (fnFx_ok D _ _) (fun p hp => by cases hp) (fun u hu => by cases hu) rfl (no_loopN f code)
 cases b with
 | true =>
  have hall := (all_at D.bs b0 fun x => !great.bigB x).2 hb
  exact @roundsU_ok _ _ (fun k => fnB w D (atB k) []) code _ _ hd _ _ (fun e => by cases e) D.bs.length (agree_fn _ _ [] []) us (fun k hk => hstep k hk (hall k hk)) hend 5 K ok
 | false =>
  rcases first_not (fun i => !great.bigB (D.blk i)) D.bs.length with hall | ⟨N, hN, h0, hn⟩
  ·rw [(all_at D.bs b0 fun x => !great.bigB x).1 hall] at hb
   cases hb
  ·exact @roundsU_ok _ _ (fun k => fnB w D (atB k) []) code _ _ hd _ _ (fun e => by cases e) N (agree_fn _ _ [] []) us (fun k hk => hstep k (by omega) (h0 k hk)) (turn_fn bad (rg N hN) (agree_fn _ _ _ _) (hin N hN) (fnFx_ok D _ _) (gv N true (by rwa [Bool.not_eq_false'] at hn)) (fun u hu => by cases hu) rfl (no_loopN f code)) 5 K ok
theorem great_ans : Answers f [v] w (.bool (great.greatF D)) := by
 have hst := twos.start0 h (atB 0) (fits_B (by omega)) []
 have gv : ∀ b, great.topB D = b → ∀ p ∈ [(topE, b)], p.1.num (xsAt (fnXs D (atB 0) [])) = p.2 := fun b e p hp => by
  obtain rfl := List.mem_singleton.1 hp
  exact e
 unfold great.greatF
 cases ht : great.topB D with
 | true => exact fn_call h run_top (rig_ok lib_none (tabF_ok h _ _) (rows_ok (T := fun _ => []) fun K ok p hp => by cases hp)) hst (fnFx_ok D _ _) (gv true ht) (fun r x hx => hx)
 | false =>
  have hB : D.bs.length ≤ 1000 := by
   unfold great.topB at ht
   simp only [Bool.or_eq_false_iff, Bool.not_eq_false', decide_eq_true_eq] at ht
   omega
  have rw' : ∀ b, (D.bs.all fun x => !great.bigB x) = b → RigOk Tryz.prog (rigP libN tabF fun K => rowsL [(f, row (if b then .exit 0 else .ret) (if b then sN else sR) K)]) (fnB w D (atB 0) []) := fun b e => rig_ok lib_none (tabF_ok h _ _) (rows_ok (T := fun K => [(f, row (if b then .exit 0 else .ret) (if b then sN else sR) K)]) fun K ok p hp => by
   obtain rfl := List.mem_singleton.1 hp
   exact ⟨F, Tryz.func10, fun c hc => row_fn tag (blks h hB e K ok) hc⟩)
  have en : D.bs.any great.bigB = !(D.bs.all fun x => !great.bigB x) := by rw [List.any_eq_not_all_not]
  rw [Bool.false_or, en]
  cases e : (D.bs.all fun x => !great.bigB x) with
  | true => exact fn_call h run_ok (rw' true e) hst (fnFx_ok D _ _) (gv false ht) (fun r x hx => hx)
  | false => exact fn_call h run_bad (rw' false e) hst (fnFx_ok D _ _) (gv false ht) (fun r x hx => hx)
end
end Go.Proofs.YthdcahkedlijpaaGreat.great14
namespace Go.Proofs.YthdcahkedlijpaaGreat.loan
open Go.RowKit Go.Proofs.YthdcahkedlijpaaGreat Go.Proofs.YthdcahkedlijpaaGreat.Am
set_option linter.unusedVariables false
def nW (bs : List BlkD) : Nat → Int
 | 0 => 0
 | i + 1 => wrap64 (nW bs i + wrap64 ((lenB bs i : Int) + 1))
def great15 (D : FnD) : Bool := decide (120 < nW D.bs (min D.bs.length 31)) || (decide (30 < D.ls.length) || decide (30 < D.bs.length))
set_option maxRecDepth 100000 in
set_option maxHeartbeats 4000000 in
theorem great15_c {w : World} {v : Value} {D : FnD} (h : FnOk' w v D) : Calls Tryz.prog 9 #[v] w (Ans1 w (.bool (great15 D))) := by
 have HF := Lib.hid h
 obtain ⟨A, c, e, hm, hr⟩ := FnOk'.blks h
 obtain ⟨Al, cl, el, hml, _⟩ := ListAt.rows h.locals (by decide)
 rw [h.eq, e, el]
 have HR := Lib.hid hr
 clear h hr e el
 obtain ⟨w1, hw1⟩ : ∃ w1, w1 = w.alloc (.cells #[.int .i64 D.p, .bool D.u, .slice Al D.ls.length cl, .slice A D.bs.length c] tF) := ⟨_, rfl⟩
 have B0 : Box w1 w.heap.size tF (.int .i64 D.p) (.bool D.u) (.slice Al D.ls.length cl) (.slice A D.bs.length c) := by rw [hw1]; exact Box.mk rfl
 have b0 : Below w.heap.size w w1 := by rw [hw1]; exact (Below.refl _ _).alloc (Nat.le_refl _) _
 obtain ⟨t0, t1, t2, t3⟩ := B0.cells
 go_enter Tryz.func9, Tryz.ntmps9
 go_wp2
 rw [← hw1]
 clear hw1
 go_loopg [3, 4] 31 (fun g s3 s4 wr => ∃ i : Nat, s4 = .int .i64 i ∧ i ≤ D.bs.length ∧ i ≤ 31 ∧ g = 31 - i ∧ s3 = .int .i64 (nW D.bs i) ∧ wr = w1)
 case atStart => exact ⟨0, rfl, Nat.zero_le _, Nat.zero_le _, rfl, rfl, rfl⟩
 case round =>
  obtain ⟨i, rfl, hi, hi31, rfl, rfl, rfl⟩ := hrel
  have h0I : (0 : Int) ≤ (i : Int) := Int.natCast_nonneg _
  by_cases hc : i < D.bs.length ∧ i ≤ 30
  ·obtain ⟨hlt, h30⟩ := hc
   have hltI : (i : Int) < (D.bs.length : Int) := by omega
   have h30I : (i : Int) ≤ 30 := by omega
   obtain ⟨b, hb⟩ : ∃ b, D.bs[i]? = some b := ⟨_, List.getElem?_eq_getElem hlt⟩
   obtain ⟨As, cs, es, hms, _⟩ := BlkOk.stms (HF.out.blk b (List.mem_of_getElem? hb))
   obtain ⟨gb, ob, eA, hgb, hcb⟩ := RowsAt.get HR.out b0 (i := i) (el := b.cells) (by rw [List.getElem?_map, hb]; rfl)
   subst eA
   have cg := hcb 0 b.s rfl
   rw [es] at cg
   simp only [Nat.add_zero] at cg
   have hnx : nW D.bs (i + 1) = wrap64 (nW D.bs i + wrap64 ((b.st.length : Int) + 1)) := by show wrap64 (nW D.bs i + wrap64 ((lenB D.bs i : Int) + 1)) = _; rw [lenB_of hb]
   have HX := Lib.hid hnx
   clear hcb hb es hnx
   go_wp2
   go_roundg (31 - (i + 1))
   case measure => omega
   case rel => exact ⟨i + 1, by simp, by omega, by omega, rfl, by rw [HX.out], rfl⟩
  ·have hmin : min D.bs.length 31 = i := by omega
   have hv : great15 D = (decide (120 < nW D.bs i) || (decide (30 < D.ls.length) || decide (30 < D.bs.length))) := by unfold great15; rw [hmin]
   have HV := Lib.hid hv
   clear hmin hv
   have fin : ∀ b : Bool, great15 D = b → ∀ e w', (e = .returned (.bool b) ∧ Below w.heap.size w w') → Ans1 w (.bool (great15 D)) e w' := fun b hb e w' h => by rw [hb]; exact h
   have HFIN := Lib.hid fin
   clear fin
   have hex : ((D.bs.length : Int) ≤ (i : Int)) ∨ ((i : Int) < (D.bs.length : Int) ∧ (30 : Int) < (i : Int)) := by omega
   rcases hex with hex | ⟨hex, hex2⟩
   ·by_cases h1 : 120 < nW D.bs i
    ·have h1I : (120 : Int) < nW D.bs i := h1
     have HE := Lib.hid (show great15 D = true by rw [HV.out, decide_eq_true h1]; rfl)
     go_wp2
     go_ret
     exact HFIN.out true HE.out _ _ ⟨rfl, b0⟩
    ·have h1I : nW D.bs i ≤ 120 := by omega
     by_cases h2 : 30 < D.bs.length
     ·have h2I : (30 : Int) < (D.bs.length : Int) := by omega
      have HE := Lib.hid (show great15 D = true by rw [HV.out, decide_eq_true h2, decide_eq_false h1]; simp)
      go_wp2
      go_ret
      exact HFIN.out true HE.out _ _ ⟨rfl, b0⟩
     ·have h2I : (D.bs.length : Int) ≤ 30 := by omega
      by_cases h3 : 30 < D.ls.length
      ·have h3I : (30 : Int) < (D.ls.length : Int) := by omega
       have HE := Lib.hid (show great15 D = true by rw [HV.out, decide_eq_true h3, decide_eq_false h1]; rfl)
       go_wp2
       go_ret
       exact HFIN.out true HE.out _ _ ⟨rfl, b0⟩
      ·have h3I : (D.ls.length : Int) ≤ 30 := by omega
       have h2d : decide ((30 : Int) < (D.bs.length : Int)) = false := decide_eq_false (by omega)
       have h3d : decide ((30 : Int) < (D.ls.length : Int)) = false := decide_eq_false (by omega)
       have HE := Lib.hid (show great15 D = false by rw [HV.out, decide_eq_false h3, decide_eq_false h1, decide_eq_false h2]; rfl)
       go_wp2
       go_ret
       exact HFIN.out false HE.out _ _ ⟨rfl, b0⟩
   ·by_cases h1 : 120 < nW D.bs i
    ·have h1I : (120 : Int) < nW D.bs i := h1
     have HE := Lib.hid (show great15 D = true by rw [HV.out, decide_eq_true h1]; rfl)
     go_wp2
     go_ret
     exact HFIN.out true HE.out _ _ ⟨rfl, b0⟩
    ·have h1I : nW D.bs i ≤ 120 := by omega
     have h2 : 30 < D.bs.length := by omega
     have h2I : (30 : Int) < (D.bs.length : Int) := by omega
     have HE := Lib.hid (show great15 D = true by rw [HV.out, decide_eq_true h2, decide_eq_false h1]; simp)
     go_wp2
     go_ret
     exact HFIN.out true HE.out _ _ ⟨rfl, b0⟩
theorem chk_is {w : World} {v : Value} {D : FnD} (h : FnOk' w v D) : ChkIs w v (check.chkF D) := fun w1 hb => check.check_ans (h.frz hb.block)
theorem small_of {D : FnD} (h : check.chkF D = 0) : Small D := by
 obtain ⟨_, h2, h3⟩ := check.small_of (size.of_chk h).1
 exact ⟨h2, h3⟩
end Go.Proofs.YthdcahkedlijpaaGreat.loan
