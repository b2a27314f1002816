/- What fnshape.twos and fnshape.Check answer. -/
import Derived.Test.YtglmonlofejcgaaDoorFn12
namespace Go.Proofs.YtglmonlofejcgaaDoor.twos
open Go.RowKit Go.Proofs.YtglmonlofejcgaaDoor.Am
set_option maxRecDepth 100000
set_option linter.unusedVariables false
set_option linter.unusedSectionVars false
theorem in_row16 {p : Int × Int} {f : Nat → Int} (h : ∀ j, InI p (f j)) : All2 InI (List.replicate 16 p) (row16 f) :=
  ⟨h 0, h 1, h 2, h 3, h 4, h 5, h 6, h 7, h 8, h 9, h 10, h 11, h 12, h 13, h 14, h 15, trivial⟩
theorem agree_refl (b : Base) (d : Bd) : Agree b b d := ⟨rfl, rfl, fun _ _ => rfl, fun _ _ => rfl, fun _ _ => rfl⟩
section
variable {w : World} {v : Value} {D : FnD} (h : FnOk' w v D)
include h
theorem fn_in (hs : Sm D) : (Ct.fn D).In 24000 := by
  have e : Ct.at D D.bs.length = Ct.fn D := by unfold Ct.at Ct.fn; rw [List.take_length]
  rw [← e]
  exact In.more (In.at hs (Nat.le_refl _)) (by have := hs.b; omega)
theorem start_T (hs : Sm D) : LT.Holds (xsAt (fnXs D (atB 0) (mF D))) (fun _ => []) := by
  have hc := fn_in h hs
  have : All2 InI (List.replicate 48 iv64 ++ List.replicate 16 ivB) (mF D) :=
    all2_cat (a := List.replicate 16 iv64) (in_row16 fun j => by have := hc.a j; show (-9223372036854775808 : Int) ≤ _ ∧ _ ≤ (9223372036854775807 : Int); omega)
      (all2_cat (a := List.replicate 16 iv64) (in_row16 fun j => by have := hc.p j; show (-9223372036854775808 : Int) ≤ _ ∧ _ ≤ (9223372036854775807 : Int); omega)
        (all2_cat (a := List.replicate 16 iv64) (in_row16 fun j => by have := hc.s j; show (-9223372036854775808 : Int) ≤ _ ∧ _ ≤ (9223372036854775807 : Int); omega)
          (all2_cat (a := List.replicate 16 ivB) (c := []) (in_row16 fun j => in_b _) trivial)))
  have := fn_start h (q := atB 0) (fits_B (by omega)) this (m2 := []) (fun _ => [])
  rwa [List.append_nil] at this
theorem fn_at {b : Nat} {G : Nat → Int} (e : [(Ct.fn D).a, (Ct.fn D).p, (Ct.fn D).s, fun j => b2i ((Ct.fn D).i j)][b]? = some G) {j : Nat} (hj : j < 16) : xsAt (fnXs D (atB 0) (mF D)) (nm b j) = G j := by
  have := fn_row (D := D) (q := atB 0) (tail := []) e hj
  rwa [List.append_nil] at this
theorem good_num {t : Nat} (ht : t < 16) : (goodE t).num (xsAt (fnXs D (atB 0) (mF D))) = goodB D t := by
  show ((!(decide (xsAt _ (nm 3 t) = 1) && true)) || (decide (D.p < (t : Int)) && ((decide (xsAt _ (nm 0 t) = 2) && true) && ((decide (xsAt _ (nm 1 t) = 1) && true) && (decide (xsAt _ (nm 2 t) = 1) && true))))) = _
  rw [fn_at h (b := 3) (G := fun j => b2i ((Ct.fn D).i j)) rfl ht, fn_at h (b := 0) rfl ht, fn_at h (b := 1) rfl ht, fn_at h (b := 2) rfl ht, made.dec_b2i]
  unfold goodB
  rw [Bool.and_true, Bool.and_true, Bool.and_true, Bool.and_true]
theorem last (hs : Sm D) {r : Bool} (hr : twosF D = r) : ∀ K (ok : KnowOk K (fnB w D (atB 0) (mF D)).rho (fnB w D (atB 0) (mF D)).sig), @LoopOk ((fnB w D (atB 0) (mF D)).withK K ok) Tryd.prog (rowT (if r then .exit 4 else .ret) (if r then sNT else sRT) K) codeT := by
  intro K ok
  have hLT := start_T h hs
  have giv : ∀ t b, t < 16 → goodB D t = b → ∀ p ∈ [(goodE t, b)], p.1.num (xsAt (fnXs D (atB 0) (mF D))) = p.2 := fun t b ht e p hp => by
    obtain rfl := List.mem_singleton.1 hp
    exact (good_num h ht).trans e
  have step : ∀ t, t < 16 → goodB D t = true → TurnsS Tryd.prog (fnB w D (atB 0) (mF D)) (fnB w D (atB 0) (mF D)) codeT (hdT t) .normal (hdT (t + 1)) := fun t ht e =>
    turn_fn (List.all_eq_true.1 stepT t (List.mem_range.2 ht)) (rig_plain (tabF_ok h _ _)) (agree_refl _ _) hLT (fnFx_ok D _ _) (giv t true ht e) (fun u hu => by cases hu) rfl (no_loopN f codeT)
  cases r with
  | true =>
    refine @heads_ok _ _ _ codeT _ _ hdT _ _ (fun e => by cases e) 16 (agree_refl _ _) (fun u hu => by cases hu) (fun t ht => step t ht (List.all_eq_true.1 hr t (List.mem_range.2 ht))) ?_ 19 K ok
    exact turn_fn stopT (rig_plain (tabF_ok h _ _)) (agree_refl _ _) hLT (fnFx_ok D _ _) (fun p hp => by cases hp) (fun u hu => by cases hu) rfl (no_loopN f codeT)
  | false =>
    rcases first_not (goodB D) 16 with hall | ⟨N, hN, h0, hn⟩
    · unfold twosF at hr
      rw [List.all_eq_true.2 fun t ht => hall t (List.mem_range.1 ht)] at hr
      cases hr
    · refine @heads_ok _ _ _ codeT _ _ hdT _ _ (fun e => by cases e) N (agree_refl _ _) (fun u hu => by cases hu) (fun t ht => step t (by omega) (h0 t ht)) ?_ 19 K ok
      exact turn_fn (List.all_eq_true.1 badT N (List.mem_range.2 hN)) (rig_plain (tabF_ok h _ _)) (agree_refl _ _) hLT (fnFx_ok D _ _) (giv N false hN hn) (fun u hu => by cases hu) rfl (no_loopN f codeT)
def isV (D : FnD) : Value := .agg ((List.range 16).map fun j => Value.bool ((Ct.fn D).i j)).toArray
theorem twos_ans (hs : Sm D) (hok : ∀ b ∈ D.bs, made.okB b = true) : Answers f [v] w (.tuple #[isV D, .bool (twosF D)]) := by
  have val : ∀ r x u, @VV (fnB w D (atB 0) (mF D)) x (ansV r) u → u = .tuple #[isV D, .bool r] := fun r x u hu => by
    obtain ⟨vs, rfl, hv⟩ := hu
    match vs, hv with
    | [a, c], ⟨⟨us, ha, hus⟩, hc, _⟩ =>
      have hc : c = .bool r := hc
      rw [hc, ha]
      show Value.tuple #[_, _] = _
      congr 3
      unfold isV
      congr 2
      refine List.ext_getElem? fun j => ?_
      by_cases hj : j < 16
      · have hb : nth (bits16 3) j = some (.xe [(nm 3 j, 1)]) := by
          rw [nth_eq]
          unfold bits16
          rw [List.getElem?_map, List.getElem?_range hj]
          rfl
        obtain ⟨u, hu, hv⟩ := All2.nth hus hb
        rw [hu, List.getElem?_map, List.getElem?_range hj]
        have hv : u = .bool (decide (xsAt (fnXs D (atB 0) (mF D)) (nm 3 j) = 1) || false) := hv
        rw [hv, fn_at h (b := 3) (G := fun j => b2i ((Ct.fn D).i j)) rfl hj, made.dec_b2i, Bool.or_false]
        rfl
      · have hl : us.length = 16 := by have := hus.len; simp [bits16] at this; omega
        rw [List.getElem?_eq_none (by omega), List.getElem?_eq_none (by simp; omega)]
  have rig : ∀ r, twosF D = r → RigOk Tryd.prog (rigP libN tabF (rowsF (if r then .exit 4 else .ret) (if r then sNT else sRT))) (fnB w D (atB 0) (mF D)) := fun r hr =>
    rig_ok lib_none (tabF_ok h _ _) (rows_ok fun K ok p hp => by
      simp only [List.mem_cons, List.not_mem_nil, or_false] at hp
      rcases hp with rfl | rfl
      · exact ⟨F, Tryd.func46, fun c hc => row_fn tagO (outer h hs hok K ok) hc⟩
      · exact ⟨F, Tryd.func46, fun c hc => row_fn tagT (last h hs hr K ok) hc⟩)
  cases hr : twosF D with
  | true => exact fn_call h goodF (rig true hr) (start_T h hs) (fnFx_ok D _ _) (fun p hp => by cases hp) (fun r x hx => val true r x hx)
  | false => exact fn_call h badF (rig false hr) (start_T h hs) (fnFx_ok D _ _) (fun p hp => by cases hp) (fun r x hx => val false r x hx)
end
end Go.Proofs.YtglmonlofejcgaaDoor.twos
namespace Go.Proofs.YtglmonlofejcgaaDoor.check
open Go.RowKit Go.Proofs.YtglmonlofejcgaaDoor.Am
set_option maxRecDepth 100000
set_option linter.unusedVariables false
set_option linter.unusedSectionVars false
noncomputable def f : FuncId := 23
/-- what a check answers -/
def chkF (D : FnD) : Int := if many.manyF D then 4 else if !made.madeF D then 8 else if !twos.twosF D then 12 else 0
def topV (r : Bool) : V := .t [.g (List.replicate 16 .top), .s (.bool r)]
noncomputable def lib (l : List (FuncId × V)) : Know → Oracle := fun _ => orcs (l.map fun p => rowG p.1 [.g fnCells] p.2)
noncomputable def rL (b : Bool) : FuncId × V := (many.fA, V.s (.bool b))
noncomputable def rM (b : Bool) : FuncId × V := (made.f, V.s (.bool b))
noncomputable def rT (b : Bool) : FuncId × V := (twos.f, topV b)
noncomputable def run (l : List (FuncId × V)) (n : Int) : Lf → Bool := callT (rigP (lib l) tabF noLoops) f fnFx [] [] (fun _ => V.s (.int .i64 n)) [.g fnCells]
noncomputable def L0 : Lf := Lf.of (fnIv ++ [])
theorem run4 : autoB (run [rL true] 4) .leaf L0 = true := by kernel_rfl
theorem run8 : autoB (run [rL false, rM false] 8) .leaf L0 = true := by kernel_rfl
theorem run12 : autoB (run [rL false, rM true, rT false] 12) .leaf L0 = true := by kernel_rfl
theorem run0 : autoB (run [rL false, rM true, rT true] 0) .leaf L0 = true := by kernel_rfl
/-- not too much of anything -/
theorem small_of {D : FnD} (h : many.manyF D = false) : D.ls.length ≤ 16 ∧ D.bs.length ≤ 24 ∧ ∀ b ∈ D.bs, b.st.length ≤ 24 := by
  unfold many.manyF at h
  simp only [Bool.or_eq_false_iff, decide_eq_false_iff_not, Bool.not_eq_false'] at h
  obtain ⟨h1, h2, h3⟩ := h
  exact ⟨by omega, by omega, fun b hb => of_decide_eq_true (List.all_eq_true.1 h3 b hb)⟩
theorem okB_of {D : FnD} (h : made.madeF D = true) : ∀ b ∈ D.bs, made.okB b = true := by
  unfold made.madeF at h
  simp only [Bool.and_eq_true] at h
  exact List.all_eq_true.1 h.2.2.1
section
variable {w : World} {v : Value} {D : FnD} (h : FnOk' w v D)
include h
theorem sm_of (hs : many.manyF D = false) (hm : made.madeF D = true) : twos.Sm D := by
  obtain ⟨_, h2, h3⟩ := small_of hs
  refine ⟨h2, fun b hb => ⟨h3 b hb, ?_⟩⟩
  have ok := okB_of hm b hb
  unfold made.okB at ok
  rw [Bool.and_eq_true] at ok
  exact okJ_len (by rw [← (h.blk b hb).prek.len]; rfl) ok.2
theorem rows_lib {q : At} {m : List Int} {l : List (FuncId × V)} (hl : ∀ p ∈ l, Callable Tryd.prog p.1 ∧ ∃ u, (∀ (b0 : Base) r, @VV b0 r p.2 u) ∧ ∀ w', FnOk' w' v D → Answers p.1 [v] w' u) (K : Know) (ok : KnowOk K (fnB w D q m).rho (fnB w D q m).sig) : @Sound ((fnB w D q m).withK K ok) Tryd.prog (lib l K) :=
  @sound_orcs ((fnB w D q m).withK K ok) _ _ fun o ho => by
    obtain ⟨p, hp, rfl⟩ := List.mem_map.1 ho
    obtain ⟨h1, u, h2, h3⟩ := hl p hp
    exact row_fnD h h1 h2 q m h3 K ok
theorem check_ans : Answers f [v] w (.int .i64 (chkF D)) := by
  have L0h : L0.Holds (xsAt (fnXs D (atB 0) [])) (fun _ => []) := fn_start h (q := atB 0) (fits_B (by omega)) (iv := []) (m1 := []) (m2 := []) trivial _
  have pL : ∀ b, many.manyF D = b → Callable Tryd.prog (rL b).1 ∧ ∃ u, (∀ (b0 : Base) r, @VV b0 r (rL b).2 u) ∧ ∀ w', FnOk' w' v D → Answers (rL b).1 [v] w' u := fun b e => ⟨⟨_, Tryd.func44, by kernel_rfl, by kernel_rfl⟩, .bool b, fun _ _ => rfl, fun w' hw => e ▸ many.large_ans hw⟩
  have pM : ∀ b, many.manyF D = false → made.madeF D = b → Callable Tryd.prog (rM b).1 ∧ ∃ u, (∀ (b0 : Base) r, @VV b0 r (rM b).2 u) ∧ ∀ w', FnOk' w' v D → Answers (rM b).1 [v] w' u := fun b e0 e => ⟨⟨_, Tryd.func45, by kernel_rfl, by kernel_rfl⟩, .bool b, fun _ _ => rfl, fun w' hw => e ▸ (by
    obtain ⟨s1, s2, s3⟩ := small_of e0
    exact made.made_ans hw s1 s2 s3)⟩
  have pT : ∀ b, many.manyF D = false → made.madeF D = true → twos.twosF D = b → Callable Tryd.prog (rT b).1 ∧ ∃ u, (∀ (b0 : Base) r, @VV b0 r (rT b).2 u) ∧ ∀ w', FnOk' w' v D → Answers (rT b).1 [v] w' u := fun b e0 e1 e => ⟨⟨_, Tryd.func46, by kernel_rfl, by kernel_rfl⟩, .tuple #[twos.isV D, .bool b], fun b0 r => ⟨[twos.isV D, .bool b], rfl, ⟨_, rfl, ⟨rfl, rfl, rfl, rfl, rfl, rfl, rfl, rfl, rfl, rfl, rfl, rfl, rfl, rfl, rfl, rfl, trivial⟩⟩, rfl, trivial⟩, fun w' hw => e ▸ twos.twos_ans hw (sm_of hw e0 e1) (okB_of e1)⟩
  have go : ∀ {l : List (FuncId × V)} {n : Int}, autoB (run l n) .leaf L0 = true → (∀ p ∈ l, Callable Tryd.prog p.1 ∧ ∃ u, (∀ (b0 : Base) r, @VV b0 r p.2 u) ∧ ∀ w', FnOk' w' v D → Answers p.1 [v] w' u) → Answers f [v] w (.int .i64 n) := fun {l n} hr hl =>
    fn_call h hr (rig_ok (rows_lib h hl) (tabF_ok h _ _) no_loops) L0h (fnFx_ok D _ _) (fun p hp => by cases hp) (fun r x hx => hx)
  unfold chkF
  cases e0 : many.manyF D with
  | true => exact go run4 (fun p hp => by obtain rfl := List.mem_singleton.1 hp; exact pL true e0)
  | false =>
    cases e1 : made.madeF D with
    | false => exact go run8 (fun p hp => by
        simp only [List.mem_cons, List.not_mem_nil, or_false] at hp
        rcases hp with rfl | rfl
        · exact pL false e0
        · exact pM false e0 e1)
    | true =>
      cases e2 : twos.twosF D with
      | false => exact go run12 (fun p hp => by
          simp only [List.mem_cons, List.not_mem_nil, or_false] at hp
          rcases hp with rfl | rfl | rfl
          · exact pL false e0
          · exact pM true e0 e1
          · exact pT false e0 e1 e2)
      | true => exact go run0 (fun p hp => by
          simp only [List.mem_cons, List.not_mem_nil, or_false] at hp
          rcases hp with rfl | rfl | rfl
          · exact pL false e0
          · exact pM true e0 e1
          · exact pT true e0 e1 e2)
end
end Go.Proofs.YtglmonlofejcgaaDoor.check
