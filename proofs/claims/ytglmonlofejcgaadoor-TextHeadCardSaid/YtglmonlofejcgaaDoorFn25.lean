/- What the reference's Check answers. -/
import Derived.Test.YtglmonlofejcgaaDoorFn24
namespace Go.Proofs.YtglmonlofejcgaaDoor.refC
open Go.RowKit Go.Proofs.YtglmonlofejcgaaDoor.Am
set_option maxRecDepth 100000
set_option linter.unusedVariables false
set_option linter.unusedSectionVars false
open twos (Ct)
def goodR (D : FnD) (t : Nat) : Bool := !(Ct.fn D).i t || onceR.onceF D t
def twosR (D : FnD) : Bool := (List.range 16).all (goodR D)
def refF (D : FnD) : Int := if many.manyF D then 4 else if !madeR.madeRF D then 8 else if !twosR D then 12 else 0
def mF (D : FnD) : List Int := rows16 [fun j => b2i ((Ct.fn D).i j)] ++ []
theorem okB_of {D : FnD} (h : madeR.madeRF D = true) : ∀ b ∈ D.bs, made.okB b = true := fun b hb => by
  unfold madeR.madeRF at h
  simp only [Bool.and_eq_true] at h
  have h := List.all_eq_true.1 h.2.2.2.2 b hb
  unfold block.okB at h
  simp only [Bool.and_eq_true] at h
  unfold made.okB
  rw [Bool.and_eq_true]
  refine ⟨List.all_eq_true.2 fun st hst => ?_, h.2.1⟩
  have := List.all_eq_true.1 h.1 st hst
  unfold block.okS at this
  rw [Bool.and_eq_true] at this
  exact this.1
theorem good_eq (D : FnD) (t : Nat) : goodR D t = twos.goodB D t := by
  unfold goodR twos.goodB onceR.onceF
  congr 2
  cases decide ((Ct.fn D).s t = 1) <;> cases decide ((Ct.fn D).p t = 1) <;> cases decide ((Ct.fn D).a t = 2) <;> rfl
section
variable {w : World} {v : Value} {D : FnD} (h : FnOk' w v D)
include h
theorem sm_of (hs : many.manyF D = false) (ok : ∀ b ∈ D.bs, made.okB b = true) : twos.Sm D := by
  obtain ⟨_, h2, h3⟩ := check.small_of hs
  refine ⟨h2, fun b hb => ⟨h3 b hb, ?_⟩⟩
  have ok := ok b hb
  unfold made.okB at ok
  rw [Bool.and_eq_true] at ok
  exact okJ_len (by rw [← (h.blk b hb).prek.len]; rfl) ok.2
theorem start_T : LT.Holds (xsAt (fnXs D (atB 0) (mF D))) (fun _ => []) := by
  have : All2 InI (List.replicate 16 ivB) (mF D) := all2_cat (a := List.replicate 16 ivB) (c := []) (all2_cat (a := List.replicate 16 ivB) (c := []) (twos.in_row16 fun j => in_b _) trivial) trivial
  have := fn_start h (q := atB 0) (fits_B (by omega)) this (m2 := []) (fun _ => [])
  rwa [List.append_nil] at this
theorem row_t {t : Nat} (ht : t < 16) : xsAt (fnXs D (atB 0) (mF D)) (nm 0 t) = b2i ((Ct.fn D).i t) := fn_row (fs := [fun j => b2i ((Ct.fn D).i j)]) (b := 0) (f := fun j => b2i ((Ct.fn D).i j)) rfl ht
theorem last (hs : twos.Sm D) (hok : ∀ b ∈ D.bs, made.okB b = true) {r : Bool} (hr : twosR D = r) : ∀ K (ok : KnowOk K (fnB w D (atB 0) (mF D)).rho (fnB w D (atB 0) (mF D)).sig), @LoopOk ((fnB w D (atB 0) (mF D)).withK K ok) Tryd.prog (rowT (if r then .exit 0 else .ret) (if r then sN else sR) K) codeT := by
  intro K ok
  have hLT := start_T h
  have rg : ∀ t, t < 16 → ∀ b, onceR.onceF D t = b → RigOk Tryd.prog (rigP (fun _ => rOn t b) tabF noLoops) (fnB w D (atB 0) (mF D)) := fun t ht b e => by
    refine rig_ok (fun K ok => ?_) (tabF_ok h _ _) no_loops
    refine @sound_rowG ((fnB w D (atB 0) (mF D)).withK K ok) _ onceR.f ⟨_, Tryd.func22, by kernel_rfl, by kernel_rfl⟩ _ _ (by rfl) [v, .int .i64 t] ⟨fn_val h (atB 0) _ r0, rfl, trivial⟩ (.bool b) (fun r => vmB _ r b) fun w' hw => ?_
    rw [← e]
    exact onceR.once_ans (h.frz hw) hs hok ht
  have gv : ∀ t b, t < 16 → (Ct.fn D).i t = b → ∀ p ∈ [(isE (nm 0 t) 1, b)], p.1.num (xsAt (fnXs D (atB 0) (mF D))) = p.2 := fun t b ht e p hp => by
    obtain rfl := List.mem_singleton.1 hp
    show (decide (_ = (1 : Int)) && true) = b
    rw [row_t h ht, made.dec_b2i, Bool.and_true]
    exact e
  have step : ∀ t, t < 16 → goodR D t = true → TurnsS Tryd.prog (fnB w D (atB 0) (mF D)) (fnB w D (atB 0) (mF D)) codeT (hdT t) .normal (hdT (t + 1)) := fun t ht e => by
    cases ho : onceR.onceF D t with
    | true => exact turn_fn (show autoB (turnT (rigP (fun _ => rOn t true) tabF noLoops) f fnFx [] [] ⟨93, 0, 3⟩ codeT (hdT t) .normal (hdT (t + 1))) (.by (nm 0 t) 1 .leaf .leaf) LT = true from List.all_eq_true.1 goodT t (List.mem_range.2 ht)) (rg t ht true ho) (twos.agree_refl _ _) hLT (fnFx_ok D _ _) (fun p hp => by cases hp) (fun u hu => by cases hu) rfl (no_loopN f codeT)
    | false =>
      have hi : (Ct.fn D).i t = false := by
        unfold goodR at e
        rw [ho, Bool.or_false, Bool.not_eq_true'] at e
        exact e
      exact turn_fn (show autoB (turnT (rigP (fun _ => rOn t false) tabF noLoops) f fnFx [(isE (nm 0 t) 1, false)] [] ⟨93, 0, 3⟩ codeT (hdT t) .normal (hdT (t + 1))) (.by (nm 0 t) 1 .leaf .leaf) LT = true from List.all_eq_true.1 skipT t (List.mem_range.2 ht)) (rg t ht false ho) (twos.agree_refl _ _) hLT (fnFx_ok D _ _) (gv t false ht hi) (fun u hu => by cases hu) rfl (no_loopN f codeT)
  cases r with
  | true =>
    refine @heads_ok _ _ _ codeT _ _ hdT _ _ (fun e => by cases e) 16 (twos.agree_refl _ _) (fun u hu => by cases hu) (fun t ht => step t ht (List.all_eq_true.1 hr t (List.mem_range.2 ht))) ?_ 8 K ok
    exact turn_fn stopT (rig_plain (tabF_ok h _ _)) (twos.agree_refl _ _) hLT (fnFx_ok D _ _) (fun p hp => by cases hp) (fun u hu => by cases hu) rfl (no_loopN f codeT)
  | false =>
    rcases first_not (goodR D) 16 with hall | ⟨N, hN, h0, hn⟩
    · unfold twosR at hr
      rw [List.all_eq_true.2 fun t ht => hall t (List.mem_range.1 ht)] at hr
      cases hr
    · refine @heads_ok _ _ _ codeT _ _ hdT _ _ (fun e => by cases e) N (twos.agree_refl _ _) (fun u hu => by cases hu) (fun t ht => step t (by omega) (h0 t ht)) ?_ 8 K ok
      unfold goodR at hn
      rw [Bool.or_eq_false_iff, Bool.not_eq_false'] at hn
      exact turn_fn (show autoB (turnT (rigP (fun _ => rOn N false) tabF noLoops) f fnFx [(isE (nm 0 N) 1, true)] [] ⟨93, 0, 3⟩ codeT (hdT N) .ret sR) (.by (nm 0 N) 1 .leaf .leaf) LT = true from List.all_eq_true.1 badT N (List.mem_range.2 hN)) (rg N hN false hn.2) (twos.agree_refl _ _) hLT (fnFx_ok D _ _) (gv N true hN hn.1) (fun u hu => by cases hu) rfl (no_loopN f codeT)
theorem ref_ans : Answers f [v] w (.int .i64 (refF D)) := by
  have pL : ∀ b, many.manyF D = b → Callable Tryd.prog (rL b).1 ∧ ∃ u, (∀ (b0 : Base) r, (b0.rho = (fnB w D (atB 0) (mF D)).rho) → @VV b0 r (rL b).2 u) ∧ ∀ w', FnOk' w' v D → Answers (rL b).1 [v] w' u := fun b e => ⟨⟨_, Tryd.func19, by kernel_rfl, by kernel_rfl⟩, .bool b, fun _ _ _ => rfl, fun w' hw => e ▸ many.many_ans hw⟩
  have pM : ∀ b, madeR.madeRF D = b → Callable Tryd.prog (rM b).1 ∧ ∃ u, (∀ (b0 : Base) r, (b0.rho = (fnB w D (atB 0) (mF D)).rho) → @VV b0 r (rM b).2 u) ∧ ∀ w', FnOk' w' v D → Answers (rM b).1 [v] w' u := fun b e => ⟨⟨_, Tryd.func20, by kernel_rfl, by kernel_rfl⟩, .bool b, fun _ _ _ => rfl, fun w' hw => e ▸ madeR.madeR_ans hw⟩
  have pT : twos.Sm D → (∀ b ∈ D.bs, made.okB b = true) → Callable Tryd.prog rT.1 ∧ ∃ u, (∀ (b0 : Base) r, (b0.rho = (fnB w D (atB 0) (mF D)).rho) → @VV b0 r rT.2 u) ∧ ∀ w', FnOk' w' v D → Answers rT.1 [v] w' u := fun hs hok => ⟨⟨_, Tryd.func21, by kernel_rfl, by kernel_rfl⟩, twos.isV D, fun b0 r e => by
      refine ⟨_, rfl, all2_by_nth (by simp [bits16]) fun j x u hx hu => ?_⟩
      have hj : j < 16 := by have := (List.getElem?_eq_some_iff.1 hx).1; simpa [bits16] using this
      unfold bits16 at hx
      rw [List.getElem?_map, List.getElem?_range hj] at hx hu
      cases hx
      cases hu
      show Value.bool _ = .bool (decide (b0.rho (nm 0 j) = 1) || false)
      rw [e, show (fnB w D (atB 0) (mF D)).rho (nm 0 j) = _ from row_t h hj, made.dec_b2i, Bool.or_false], fun w' hw => twoR.two_ans hw hs hok⟩
  have go : ∀ {l : List (FuncId × V)} {rows : Know → List (FuncId × Loops)} {n : Int}, run l rows n = true → (∀ p ∈ l, Callable Tryd.prog p.1 ∧ ∃ u, (∀ (b0 : Base) r, (b0.rho = (fnB w D (atB 0) (mF D)).rho) → @VV b0 r p.2 u) ∧ ∀ w', FnOk' w' v D → Answers p.1 [v] w' u) →
      (∀ K (ok : KnowOk K (fnB w D (atB 0) (mF D)).rho (fnB w D (atB 0) (mF D)).sig), ∀ p ∈ rows K, ∃ F : Func, Tryd.prog.funcs[p.1]? = some F ∧ ∀ c, F.body = some c → Loops.ok (@LoopOk ((fnB w D (atB 0) (mF D)).withK K ok) Tryd.prog p.2) c) → Answers f [v] w (.int .i64 n) := fun {l rows n} hr hl hrows => by
    have hr : autoB (callT (rigP (lib l) tabF fun K => rowsL (rows K)) f fnFx [] [] (fun _ => V.s (.int .i64 n)) [.g fnCells]) .leaf LT = true := hr
    refine fn_call h hr (rig_ok (fun K ok => @sound_orcs ((fnB w D (atB 0) (mF D)).withK K ok) _ _ fun o ho => ?_) (tabF_ok h _ _) (rows_ok hrows)) (start_T h) (fnFx_ok D _ _) (fun p hp => by cases hp) (fun r x hx => hx)
    obtain ⟨p, hp, rfl⟩ := List.mem_map.1 ho
    obtain ⟨h1, u, h2, h3⟩ := hl p hp
    exact @sound_rowG ((fnB w D (atB 0) (mF D)).withK K ok) _ p.1 h1 _ _ (by rfl) [v] ⟨fn_val h (atB 0) (mF D) r0, trivial⟩ u (fun r => h2 _ r rfl) fun w' hw => h3 w' (h.frz hw)
  unfold refF
  cases e0 : many.manyF D with
  | true => exact go run4 (fun p hp => by obtain rfl := List.mem_singleton.1 hp; exact pL true e0) (fun K ok p hp => by cases hp)
  | false =>
    cases e1 : madeR.madeRF D with
    | false => exact go run8 (fun p hp => by
        simp only [List.mem_cons, List.not_mem_nil, or_false] at hp
        rcases hp with rfl | rfl
        · exact pL false e0
        · exact pM false e1) (fun K ok p hp => by cases hp)
    | true =>
      have hok := okB_of e1
      have hs := sm_of h e0 hok
      have rw3 : ∀ p ∈ [rL false, rM true, rT], Callable Tryd.prog p.1 ∧ ∃ u, (∀ (b0 : Base) r, (b0.rho = (fnB w D (atB 0) (mF D)).rho) → @VV b0 r p.2 u) ∧ ∀ w', FnOk' w' v D → Answers p.1 [v] w' u := fun p hp => by
        simp only [List.mem_cons, List.not_mem_nil, or_false] at hp
        rcases hp with rfl | rfl | rfl
        · exact pL false e0
        · exact pM true e1
        · exact pT hs hok
      have rl : ∀ r, twosR D = r → ∀ K (ok : KnowOk K (fnB w D (atB 0) (mF D)).rho (fnB w D (atB 0) (mF D)).sig), ∀ p ∈ [(f, rowT (if r then .exit 0 else .ret) (if r then sN else sR) K)], ∃ F : Func, Tryd.prog.funcs[p.1]? = some F ∧ ∀ c, F.body = some c → Loops.ok (@LoopOk ((fnB w D (atB 0) (mF D)).withK K ok) Tryd.prog p.2) c := fun r e K ok p hp => by
        obtain rfl := List.mem_singleton.1 hp
        exact ⟨F, Tryd.func7, fun c hc => row_fn tagT (last h hs hok e K ok) hc⟩
      cases e2 : twosR D with
      | false => exact go run12 rw3 (rl false e2)
      | true => exact go run0 rw3 (rl true e2)
end
end Go.Proofs.YtglmonlofejcgaaDoor.refC
