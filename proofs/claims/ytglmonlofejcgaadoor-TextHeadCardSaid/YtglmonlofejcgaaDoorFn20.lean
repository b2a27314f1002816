/- What the reference's Made answers. -/
import Derived.Test.YtglmonlofejcgaaDoorFn19
namespace Go.Proofs.YtglmonlofejcgaaDoor.madeR
open Go.RowKit Go.Proofs.YtglmonlofejcgaaDoor.Am
set_option maxRecDepth 100000
set_option linter.unusedVariables false
set_option linter.unusedSectionVars false
def guard (D : FnD) : Bool := decide (0 < D.ls.length) && (decide (0 < D.bs.length) && (decide (0 ≤ D.p) && (decide (D.p ≤ 8) && decide (D.p < D.ls.length))))
def madeRF (D : FnD) : Bool := !many.manyF D && (guard D && (D.ls.all okTy && (!head.ptr0 D && D.bs.all (block.okB D))))
section
variable {w : World} {v : Value} {D : FnD} (h : FnOk' w v D)
include h
theorem guard_num (q : At) : guardE.num (xsAt (fnXs D q [])) = guard D := by
  show ((!decide ((D.ls.length : Int) < 1)) && ((!decide ((D.bs.length : Int) < 1)) && ((!decide (D.p < 0)) && (decide (D.p < 9) && (decide (b2i (decide (D.p < D.ls.length)) = 1) && true))))) = _
  unfold guard
  rw [Bool.and_true, decide_eq_decide.2 (one_iff (D.p < D.ls.length)), ← decide_not, ← decide_not, ← decide_not]
  congr 1
  · exact decide_eq_decide.2 (by omega)
  congr 1
  · exact decide_eq_decide.2 (by omega)
  congr 1
  · exact decide_eq_decide.2 (by omega)
  congr 1
  exact decide_eq_decide.2 (by omega)
theorem typs (hl : D.ls.length ≤ 1000) {b : Bool} (hb : D.ls.all okTy = b) (K : Know) (ok : KnowOk K (fnB w D (atT 0) []).rho (fnB w D (atT 0) []).sig) :
    @LoopOk ((fnB w D (atT 0) []).withK K ok) Tryd.prog (rowT (if b then .exit 0 else .ret) (if b then sN else sR) K) codeT := by
  have us : ∀ u ∈ [isU (.xi .i64 58) (.int .i64 0)], UpdOk (fnB w D (atT 0) []) (fnB w D (atT 0) []) u := fun u hu => by
    obtain rfl := List.mem_singleton.1 hu
    exact isU_ok fun r v hv => hv
  have hin : ∀ k, k < D.ls.length → L1.Holds (xsAt (fnXs D (atT k) [])) (fun _ => []) := fun k hk => (twos.start0 h (atT k) (fits_T (by omega)) []).pin (i := 60) (c := 1) (show b2i (decide ((k : Int) < D.ls.length)) = 1 from (one_iff _).2 (by omega))
  have htb : ∀ k, k < D.ls.length → @TabsOk (fnB w D (atT k) []) (tabF.app tabT) := fun k hk => @tabs_app (fnB w D (atT k) []) tabF tabT (tabF_ok h _ _) (tabT_ok h (q := atT k) hk _)
  have hok : ∀ k b, okTy (D.typ k) = b → ∀ p ∈ [(head.okN, b)], p.1.num (xsAt (fnXs D (atT k) [])) = p.2 := fun k b e p hp => by
    obtain rfl := List.mem_singleton.1 hp
    exact (typ_num (atT k) [] (e := okTyE) rfl).trans e
  have hstep : ∀ k, k < D.ls.length → okTy (D.typ k) = true → TurnsS Tryd.prog (fnB w D (atT k) []) (fnB w D (atT (k + 1)) []) codeT hdT .normal hdT := fun k hk e => by
    refine turn_fn stepT (rig_plain (htb k hk)) (agree_fn _ _ _ _) (hin k hk) (fnFx_ok D _ _) (hok k true e) (fun u hu => ?_) rfl (no_loopN f codeT)
    obtain rfl := List.mem_singleton.1 hu
    exact isU_ok fun r v hv => hv
  have hend : TurnsS Tryd.prog (fnB w D (atT D.ls.length) []) (fnB w D (atT 0) []) codeT hdT (.exit 0) sN :=
    turn_fn stopT (rig_plain (tabF_ok h _ _)) (agree_fn _ _ _ _) (L := L3) ((twos.start0 h (atT D.ls.length) (fits_T (by omega)) []).pin (i := 60) (c := 0) (show b2i (decide ((D.ls.length : Int) < D.ls.length)) = 0 by rw [decide_eq_false (by omega)]; rfl)) (fnFx_ok D _ _) (fun p hp => by cases hp) (fun u hu => by cases hu) rfl (no_loopN f codeT)
  cases b with
  | true =>
    have hall := (all_at D.ls [] okTy).2 hb
    exact @roundsU_ok _ _ (fun k => fnB w D (atT k) []) codeT _ _ hdT _ _ (fun e => by cases e) D.ls.length (agree_fn _ _ [] []) us (fun k hk => hstep k hk (hall k hk)) hend 5 K ok
  | false =>
    rcases first_not (fun i => okTy (D.typ i)) D.ls.length with hall | ⟨N, hN, h0, hn⟩
    · rw [(all_at D.ls [] okTy).1 hall] at hb
      cases hb
    · exact @roundsU_ok _ _ (fun k => fnB w D (atT k) []) codeT _ _ hdT _ _ (fun e => by cases e) N (agree_fn _ _ [] []) us (fun k hk => hstep k (by omega) (h0 k hk)) (turn_fn badT (rig_plain (htb N hN)) (agree_fn _ _ _ _) (hin N hN) (fnFx_ok D _ _) (hok N false hn) (fun u hu => by cases hu) rfl (no_loopN f codeT)) 5 K ok
theorem blks (hB : D.bs.length ≤ 1000) (hS : ∀ b ∈ D.bs, b.st.length ≤ 1000) (h1 : 1 ≤ D.ls.length) (h16 : D.ls.length ≤ 16) {b : Bool} (hb : D.bs.all (block.okB D) = b) (K : Know) (ok : KnowOk K (fnB w D (atB 0) []).rho (fnB w D (atB 0) []).sig) :
    @LoopOk ((fnB w D (atB 0) []).withK K ok) Tryd.prog (rowB (if b then .exit 2 else .ret) (if b then sN else sR) K) codeB := by
  have us : ∀ u ∈ [isU (.xi .i64 4) (.int .i64 0)], UpdOk (fnB w D (atB 0) []) (fnB w D (atB 0) []) u := fun u hu => by
    obtain rfl := List.mem_singleton.1 hu
    exact isU_ok fun r v hv => hv
  have mem : ∀ i, i < D.bs.length → D.blk i ∈ D.bs := fun i hi => by
    unfold FnD.blk
    rw [List.getD_eq_getElem?_getD, List.getElem?_eq_getElem hi]
    exact List.getElem_mem hi
  have hin : ∀ k, k < D.bs.length → LB1.Holds (xsAt (fnXs D (atB k) [])) (fun _ => []) := fun k hk => (twos.start0 h (atB k) (fits_B (by omega)) []).pin (i := 6) (c := 1) (show b2i (decide ((k : Int) < D.bs.length)) = 1 from (one_iff _).2 (by omega))
  have rg : ∀ k, k < D.bs.length → ∀ b, block.okB D (D.blk k) = b → RigOk Tryd.prog (rigP (rB b) (tabF.app tabB) noLoops) (fnB w D (atB k) []) := fun k hk b e => by
    refine rig_ok (fun K ok => ?_) (@tabs_app (fnB w D (atB k) []) tabF tabB (tabF_ok h _ _) (tabB_ok h (q := atB k) hk _)) no_loops
    refine @sound_rowG ((fnB w D (atB k) []).withK K ok) _ block.f ⟨_, Tryd.func38, by kernel_rfl, by kernel_rfl⟩ _ _ (by rfl) [v, .agg (D.blk k).cells.toArray] (block.blk_VA h hk []) (.bool b) (fun r => vmB _ r b) fun w' hw => ?_
    rw [← e]
    exact block.block_ans (h.frz hw) hk hB (hS _ (mem k hk)) h1 h16
  have hstep : ∀ k, k < D.bs.length → block.okB D (D.blk k) = true → TurnsS Tryd.prog (fnB w D (atB k) []) (fnB w D (atB (k + 1)) []) codeB hdB .normal hdB := fun k hk e => by
    refine turn_fn stepB (rg k hk true e) (agree_fn _ _ _ _) (hin k hk) (fnFx_ok D _ _) (fun p hp => by cases hp) (fun u hu => ?_) rfl (no_loopN f codeB)
    obtain rfl := List.mem_singleton.1 hu
    exact isU_ok fun r v hv => hv
  have hend : TurnsS Tryd.prog (fnB w D (atB D.bs.length) []) (fnB w D (atB 0) []) codeB hdB (.exit 2) sN :=
    turn_fn stopB (rig_plain (tabF_ok h _ _)) (agree_fn _ _ _ _) (L := LB0) ((twos.start0 h (atB D.bs.length) (fits_B (by omega)) []).pin (i := 6) (c := 0) (show b2i (decide ((D.bs.length : Int) < D.bs.length)) = 0 by rw [decide_eq_false (by omega)]; rfl)) (fnFx_ok D _ _) (fun p hp => by cases hp) (fun u hu => by cases hu) rfl (no_loopN f codeB)
  cases b with
  | true =>
    have hall := (all_at D.bs b0 (block.okB D)).2 hb
    exact @roundsU_ok _ _ (fun k => fnB w D (atB k) []) codeB _ _ hdB _ _ (fun e => by cases e) D.bs.length (agree_fn _ _ [] []) us (fun k hk => hstep k hk (hall k hk)) hend 12 K ok
  | false =>
    rcases first_not (fun i => block.okB D (D.blk i)) D.bs.length with hall | ⟨N, hN, h0, hn⟩
    · rw [(all_at D.bs b0 (block.okB D)).1 hall] at hb
      cases hb
    · exact @roundsU_ok _ _ (fun k => fnB w D (atB k) []) codeB _ _ hdB _ _ (fun e => by cases e) N (agree_fn _ _ [] []) us (fun k hk => hstep k (by omega) (h0 k hk)) (turn_fn badB (rg N hN false hn) (agree_fn _ _ _ _) (hin N hN) (fnFx_ok D _ _) (fun p hp => by cases hp) (fun u hu => by cases hu) rfl (no_loopN f codeB)) 12 K ok
theorem madeR_ans : Answers f [v] w (.bool (madeRF D)) := by
  have hst := twos.start0 h (atB 0) (fits_B (by omega)) []
  have lib : ∀ b, many.manyF D = b → ∀ K (ok : KnowOk K (fnB w D (atB 0) []).rho (fnB w D (atB 0) []).sig), @Sound ((fnB w D (atB 0) []).withK K ok) Tryd.prog (libM b K) := fun b e =>
    row_fnD h ⟨_, Tryd.func19, by kernel_rfl, by kernel_rfl⟩ (fun b0 r => vmB b0 r b) (atB 0) [] fun w' hw => e ▸ many.many_ans hw
  have go : ∀ {m : Bool} {tb : Tabs} {rows : Know → List (FuncId × Loops)} {giv : List (E × Bool)} {g : List Bool → V} {hs : HT} {L : Lf} {u : Bool}, autoB (run m tb rows giv [] g) hs L = true → many.manyF D = m → @TabsOk (fnB w D (atB 0) []) tb → L.Holds (xsAt (fnXs D (atB 0) [])) (fun _ => []) →
      (∀ K (ok : KnowOk K (fnB w D (atB 0) []).rho (fnB w D (atB 0) []).sig), ∀ p ∈ rows K, ∃ F : Func, Tryd.prog.funcs[p.1]? = some F ∧ ∀ c, F.body = some c → Loops.ok (@LoopOk ((fnB w D (atB 0) []).withK K ok) Tryd.prog p.2) c) → (∀ p ∈ giv, p.1.num (xsAt (fnXs D (atB 0) [])) = p.2) → g [] = V.s (.bool u) → Answers f [v] w (.bool u) := fun {m tb rows giv g hs L u} hr hm ht hL hrows hg e =>
    fn_call h hr (rig_ok (lib m hm) ht (rows_ok hrows)) hL (fnFx_ok D _ _) hg (fun r x hx => by
      have hx : @VV (fnB w D (atB 0) []) r (g []) x := hx
      rw [e] at hx
      exact hx)
  unfold madeRF
  cases hm : many.manyF D with
  | true => exact go run_m hm (tabF_ok h _ _) hst (fun K ok p hp => by cases hp) (fun p hp => by cases hp) rfl
  | false =>
    obtain ⟨s1, s2, s3⟩ := check.small_of hm
    rw [Bool.not_false, Bool.true_and]
    cases hg : guard D with
    | false =>
      refine go run_g hm (tabF_ok h _ _) hst (fun K ok p hp => by cases hp) (fun p hp => ?_) rfl
      obtain rfl := List.mem_singleton.1 hp
      exact (guard_num h _).trans hg
    | true =>
      have hg' := hg
      unfold guard at hg'
      simp only [Bool.and_eq_true, decide_eq_true_eq] at hg'
      obtain ⟨g1, g2, g3, g4, g5⟩ := hg'
      have hLS : LS.Holds (xsAt (fnXs D (atB 0) [])) (fun _ => []) := ((((hst.lo (i := 2) (c := 1) (show (1 : Int) ≤ (D.ls.length : Int) by omega)).lo (i := 3) (c := 1) (show (1 : Int) ≤ (D.bs.length : Int) by omega)).lo (i := 0) (c := 0) g3).hi (i := 0) (c := 8) g4).pin (i := 76) (c := 1) ((one_iff _).2 g5)
      have rT : ∀ b, D.ls.all okTy = b → ∀ K (ok : KnowOk K (fnB w D (atB 0) []).rho (fnB w D (atB 0) []).sig), ∃ F : Func, Tryd.prog.funcs[f]? = some F ∧ ∀ c, F.body = some c → Loops.ok (@LoopOk ((fnB w D (atB 0) []).withK K ok) Tryd.prog (rowT (if b then .exit 0 else .ret) (if b then sN else sR) K)) c := fun b e K ok =>
        ⟨F, Tryd.func20, fun c hc => row_fn tagT (typs h (by omega) e K ok) hc⟩
      have rBk : ∀ b, D.bs.all (block.okB D) = b → ∀ K (ok : KnowOk K (fnB w D (atB 0) []).rho (fnB w D (atB 0) []).sig), ∃ F : Func, Tryd.prog.funcs[f]? = some F ∧ ∀ c, F.body = some c → Loops.ok (@LoopOk ((fnB w D (atB 0) []).withK K ok) Tryd.prog (rowB (if b then .exit 2 else .ret) (if b then sN else sR) K)) c := fun b e K ok =>
        ⟨F, Tryd.func20, fun c hc => row_fn tagB (blks h (by omega) (fun x hx => by have := s3 x hx; omega) (by omega) s1 e K ok) hc⟩
      rw [Bool.true_and]
      cases ht : D.ls.all okTy with
      | false => exact go run_t hm (tabF_ok h _ _) hLS (fun K ok p hp => by obtain rfl := List.mem_singleton.1 hp; exact rT false ht K ok) (fun p hp => by cases hp) rfl
      | true =>
        have t0 : @TabsOk (fnB w D (atB 0) []) (tabF.app tab0) := @tabs_app (fnB w D (atB 0) []) tabF tab0 (tabF_ok h _ _) (tab0_ok h (atB 0) rfl g1 [])
        have gv : ∀ b, (!head.ptr0 D) = !b → ∀ p ∈ [(head.okN, true), (isE 62 0, !b)], p.1.num (xsAt (fnXs D (atB 0) [])) = p.2 := fun b e p hp => by
          simp only [List.mem_cons, List.not_mem_nil, or_false] at hp
          rcases hp with rfl | rfl
          · exact (typ_num (atT 0) [] (e := okTyE) rfl).trans ((all_at D.ls [] okTy).2 ht 0 g1)
          · show (decide (cellI (D.typ 0) 1 = 0) && true) = !b
            rw [Bool.and_true, ← e]
            unfold head.ptr0
            rw [Bool.not_not]
        rw [Bool.true_and]
        cases hp : head.ptr0 D with
        | true => exact go run_p hm t0 hLS (fun K ok p hp => by obtain rfl := List.mem_singleton.1 hp; exact rT true ht K ok) (gv true (by rw [hp])) rfl
        | false =>
          rw [Bool.not_false, Bool.true_and]
          cases hb : D.bs.all (block.okB D) with
          | false => exact go run_b hm t0 hLS (fun K ok p hp => by
              simp only [List.mem_cons, List.not_mem_nil, or_false] at hp
              rcases hp with rfl | rfl
              · exact rT true ht K ok
              · exact rBk false hb K ok) (gv false (by rw [hp])) rfl
          | true => exact go run_ok hm t0 hLS (fun K ok p hp => by
              simp only [List.mem_cons, List.not_mem_nil, or_false] at hp
              rcases hp with rfl | rfl
              · exact rT true ht K ok
              · exact rBk true hb K ok) (gv false (by rw [hp])) rfl
end
end Go.Proofs.YtglmonlofejcgaaDoor.madeR
