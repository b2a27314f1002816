/- What fnshape.twos and fnshape.Check answer. The reference's far and Occurs: how often each local occurs in a statement, and whether one occurs that is not near. The reference's Occurs: how often each local occurs in a statement. -/
import Derived.Test.YthdcahkedlijpaaGreatFn12
namespace Go.Proofs.YthdcahkedlijpaaGreat.twos
open Go.RowKit Go.Proofs.YthdcahkedlijpaaGreat.Am
set_option maxRecDepth 100000
set_option linter.unusedVariables false
set_option linter.unusedSectionVars false
theorem in_row16 {p : Int × Int} {f : Nat → Int} (h : ∀ j, InI p (f j)) : All2 InI (List.replicate 16 p) (row16 f) :=
  ⟨h 0, h 1, h 2, h 3, h 4, h 5, h 6, h 7, h 8, h 9, h 10, h 11, h 12, h 13, h 14, h 15, trivial⟩
theorem agree_refl (b : Base) (d : Bd) : Agree b b d := ⟨rfl, rfl, fun _ _ => rfl, fun _ _ => rfl, fun _ _ => rfl⟩
section
variable {w : World} {v : Value} {D : FnD} (h : FnOk' w v D)
include h
theorem fn_in (hs : Sm D) : (Ct.fn D).In 24000 := by
  have e : Ct.at D D.bs.length = Ct.fn D := by unfold Ct.at Ct.fn; rw [List.take_length]
  rw [← e]
  exact In.more (In.at hs (Nat.le_refl _)) (by have := hs.b; omega)
theorem start_T (hs : Sm D) : LT.Holds (xsAt (fnXs D (atB 0) (mF D))) (fun _ => []) := by
  have hc := fn_in h hs
  have : All2 InI (List.replicate 48 iv64 ++ List.replicate 16 ivB) (mF D) :=
    all2_cat (a := List.replicate 16 iv64) (in_row16 fun j => by have := hc.a j; show (-9223372036854775808 : Int) ≤ _ ∧ _ ≤ (9223372036854775807 : Int); omega)
      (all2_cat (a := List.replicate 16 iv64) (in_row16 fun j => by have := hc.p j; show (-9223372036854775808 : Int) ≤ _ ∧ _ ≤ (9223372036854775807 : Int); omega)
        (all2_cat (a := List.replicate 16 iv64) (in_row16 fun j => by have := hc.s j; show (-9223372036854775808 : Int) ≤ _ ∧ _ ≤ (9223372036854775807 : Int); omega)
          (all2_cat (a := List.replicate 16 ivB) (c := []) (in_row16 fun j => in_b _) trivial)))
  have := fn_start h (q := atB 0) (fits_B (by omega)) this (m2 := []) (fun _ => [])
  rwa [List.append_nil] at this
theorem fn_at {b : Nat} {G : Nat → Int} (e : [(Ct.fn D).a, (Ct.fn D).p, (Ct.fn D).s, fun j => b2i ((Ct.fn D).i j)][b]? = some G) {j : Nat} (hj : j < 16) : xsAt (fnXs D (atB 0) (mF D)) (nm b j) = G j := by
  have := fn_row (D := D) (q := atB 0) (tail := []) e hj
  rwa [List.append_nil] at this
theorem good_num {t : Nat} (ht : t < 16) : (goodE t).num (xsAt (fnXs D (atB 0) (mF D))) = goodB D t := by
  show ((!(decide (xsAt _ (nm 3 t) = 1) && true)) || (decide (D.p < (t : Int)) && ((decide (xsAt _ (nm 0 t) = 2) && true) && ((decide (xsAt _ (nm 1 t) = 1) && true) && (decide (xsAt _ (nm 2 t) = 1) && true))))) = _
  rw [fn_at h (b := 3) (G := fun j => b2i ((Ct.fn D).i j)) rfl ht, fn_at h (b := 0) rfl ht, fn_at h (b := 1) rfl ht, fn_at h (b := 2) rfl ht, made.dec_b2i]
  unfold goodB
  rw [Bool.and_true, Bool.and_true, Bool.and_true, Bool.and_true]
theorem last (hs : Sm D) {r : Bool} (hr : twosF D = r) : ∀ K (ok : KnowOk K (fnB w D (atB 0) (mF D)).rho (fnB w D (atB 0) (mF D)).sig), @LoopOk ((fnB w D (atB 0) (mF D)).withK K ok) Tryz.prog (rowT (if r then .exit 4 else .ret) (if r then sNT else sRT) K) codeT := by
  intro K ok
  have hLT := start_T h hs
  have giv : ∀ t b, t < 16 → goodB D t = b → ∀ p ∈ [(goodE t, b)], p.1.num (xsAt (fnXs D (atB 0) (mF D))) = p.2 := fun t b ht e p hp => by
    obtain rfl := List.mem_singleton.1 hp
    exact (good_num h ht).trans e
  have step : ∀ t, t < 16 → goodB D t = true → TurnsS Tryz.prog (fnB w D (atB 0) (mF D)) (fnB w D (atB 0) (mF D)) codeT (hdT t) .normal (hdT (t + 1)) := fun t ht e =>
    turn_fn (List.all_eq_true.1 stepT t (List.mem_range.2 ht)) (rig_plain (tabF_ok h _ _)) (agree_refl _ _) hLT (fnFx_ok D _ _) (giv t true ht e) (fun u hu => by cases hu) rfl (no_loopN f codeT)
  cases r with
  | true =>
    refine @heads_ok _ _ _ codeT _ _ hdT _ _ (fun e => by cases e) 16 (agree_refl _ _) (fun u hu => by cases hu) (fun t ht => step t ht (List.all_eq_true.1 hr t (List.mem_range.2 ht))) ?_ 19 K ok
    exact turn_fn stopT (rig_plain (tabF_ok h _ _)) (agree_refl _ _) hLT (fnFx_ok D _ _) (fun p hp => by cases hp) (fun u hu => by cases hu) rfl (no_loopN f codeT)
  | false =>
    rcases first_not (goodB D) 16 with hall | ⟨N, hN, h0, hn⟩
    · unfold twosF at hr
      rw [List.all_eq_true.2 fun t ht => hall t (List.mem_range.1 ht)] at hr
      cases hr
    · refine @heads_ok _ _ _ codeT _ _ hdT _ _ (fun e => by cases e) N (agree_refl _ _) (fun u hu => by cases hu) (fun t ht => step t (by omega) (h0 t ht)) ?_ 19 K ok
      exact turn_fn (List.all_eq_true.1 badT N (List.mem_range.2 hN)) (rig_plain (tabF_ok h _ _)) (agree_refl _ _) hLT (fnFx_ok D _ _) (giv N false hN hn) (fun u hu => by cases hu) rfl (no_loopN f codeT)
def isV (D : FnD) : Value := .agg ((List.range 16).map fun j => Value.bool ((Ct.fn D).i j)).toArray
theorem twos_ans (hs : Sm D) (hok : ∀ b ∈ D.bs, made.okB b = true) : Answers f [v] w (.tuple #[isV D, .bool (twosF D)]) := by
  have val : ∀ r x u, @VV (fnB w D (atB 0) (mF D)) x (ansV r) u → u = .tuple #[isV D, .bool r] := fun r x u hu => by
    obtain ⟨vs, rfl, hv⟩ := hu
    match vs, hv with
    | [a, c], ⟨⟨us, ha, hus⟩, hc, _⟩ =>
      have hc : c = .bool r := hc
      rw [hc, ha]
      show Value.tuple #[_, _] = _
      congr 3
      unfold isV
      congr 2
      refine List.ext_getElem? fun j => ?_
      by_cases hj : j < 16
      · have hb : nth (bits16 3) j = some (.xe [(nm 3 j, 1)]) := by
          rw [nth_eq]
          unfold bits16
          rw [List.getElem?_map, List.getElem?_range hj]
          rfl
        obtain ⟨u, hu, hv⟩ := All2.nth hus hb
        rw [hu, List.getElem?_map, List.getElem?_range hj]
        have hv : u = .bool (decide (xsAt (fnXs D (atB 0) (mF D)) (nm 3 j) = 1) || false) := hv
        rw [hv, fn_at h (b := 3) (G := fun j => b2i ((Ct.fn D).i j)) rfl hj, made.dec_b2i, Bool.or_false]
        rfl
      · have hl : us.length = 16 := by have := hus.len; simp [bits16] at this; omega
        rw [List.getElem?_eq_none (by omega), List.getElem?_eq_none (by simp; omega)]
  have rig : ∀ r, twosF D = r → RigOk Tryz.prog (rigP libN tabF (rowsF (if r then .exit 4 else .ret) (if r then sNT else sRT))) (fnB w D (atB 0) (mF D)) := fun r hr =>
    rig_ok lib_none (tabF_ok h _ _) (rows_ok fun K ok p hp => by
      simp only [List.mem_cons, List.not_mem_nil, or_false] at hp
      rcases hp with rfl | rfl
      · exact ⟨F, Tryz.func42, fun c hc => row_fn tagO (outer h hs hok K ok) hc⟩
      · exact ⟨F, Tryz.func42, fun c hc => row_fn tagT (last h hs hr K ok) hc⟩)
  cases hr : twosF D with
  | true => exact fn_call h goodF (rig true hr) (start_T h hs) (fnFx_ok D _ _) (fun p hp => by cases hp) (fun r x hx => val true r x hx)
  | false => exact fn_call h badF (rig false hr) (start_T h hs) (fnFx_ok D _ _) (fun p hp => by cases hp) (fun r x hx => val false r x hx)
end
end Go.Proofs.YthdcahkedlijpaaGreat.twos
namespace Go.Proofs.YthdcahkedlijpaaGreat.check
open Go.RowKit Go.Proofs.YthdcahkedlijpaaGreat.Am
set_option maxRecDepth 100000
set_option linter.unusedVariables false
set_option linter.unusedSectionVars false
noncomputable def f : FuncId := 30
def chkF (D : FnD) : Int := if many.manyF D then 4 else if !made.madeF D then 8 else if !twos.twosF D then 12 else 0
def topV (r : Bool) : V := .t [.g (List.replicate 16 .top), .s (.bool r)]
noncomputable def lib (l : List (FuncId × V)) : Know → Oracle := fun _ => orcs (l.map fun p => rowG p.1 [.g fnCells] p.2)
noncomputable def rL (b : Bool) : FuncId × V := (many.fA, V.s (.bool b))
noncomputable def rM (b : Bool) : FuncId × V := (made.f, V.s (.bool b))
noncomputable def rT (b : Bool) : FuncId × V := (twos.f, topV b)
noncomputable def run (l : List (FuncId × V)) (n : Int) : Lf → Bool := callT (rigP (lib l) tabF noLoops) f fnFx [] [] (fun _ => V.s (.int .i64 n)) [.g fnCells]
noncomputable def L0 : Lf := Lf.of (fnIv ++ [])
theorem run4 : autoB (run [rL true] 4) .leaf L0 = true := by kernel_rfl
theorem run8 : autoB (run [rL false, rM false] 8) .leaf L0 = true := by kernel_rfl
theorem run12 : autoB (run [rL false, rM true, rT false] 12) .leaf L0 = true := by kernel_rfl
theorem run0 : autoB (run [rL false, rM true, rT true] 0) .leaf L0 = true := by kernel_rfl
theorem small_of {D : FnD} (h : many.manyF D = false) : D.ls.length ≤ 16 ∧ D.bs.length ≤ 24 ∧ ∀ b ∈ D.bs, b.st.length ≤ 24 := by
  unfold many.manyF at h
  simp only [Bool.or_eq_false_iff, decide_eq_false_iff_not, Bool.not_eq_false'] at h
  obtain ⟨h1, h2, h3⟩ := h
  exact ⟨by omega, by omega, fun b hb => of_decide_eq_true (List.all_eq_true.1 h3 b hb)⟩
theorem okB_of {D : FnD} (h : made.madeF D = true) : ∀ b ∈ D.bs, made.okB b = true := by
  unfold made.madeF at h
  simp only [Bool.and_eq_true] at h
  exact List.all_eq_true.1 h.2.2.1
section
variable {w : World} {v : Value} {D : FnD} (h : FnOk' w v D)
include h
theorem sm_of (hs : many.manyF D = false) (hm : made.madeF D = true) : twos.Sm D := by
  obtain ⟨_, h2, h3⟩ := small_of hs
  refine ⟨h2, fun b hb => ⟨h3 b hb, ?_⟩⟩
  have ok := okB_of hm b hb
  unfold made.okB at ok
  rw [Bool.and_eq_true] at ok
  exact okJ_len (by rw [← (h.blk b hb).prek.len]; rfl) ok.2
theorem rows_lib {q : At} {m : List Int} {l : List (FuncId × V)} (hl : ∀ p ∈ l, Callable Tryz.prog p.1 ∧ ∃ u, (∀ (b0 : Base) r, @VV b0 r p.2 u) ∧ ∀ w', FnOk' w' v D → Answers p.1 [v] w' u) (K : Know) (ok : KnowOk K (fnB w D q m).rho (fnB w D q m).sig) : @Sound ((fnB w D q m).withK K ok) Tryz.prog (lib l K) :=
  @sound_orcs ((fnB w D q m).withK K ok) _ _ fun o ho => by
    obtain ⟨p, hp, rfl⟩ := List.mem_map.1 ho
    obtain ⟨h1, u, h2, h3⟩ := hl p hp
    exact row_fnD h h1 h2 q m h3 K ok
theorem check_ans : Answers f [v] w (.int .i64 (chkF D)) := by
  have L0h : L0.Holds (xsAt (fnXs D (atB 0) [])) (fun _ => []) := fn_start h (q := atB 0) (fits_B (by omega)) (iv := []) (m1 := []) (m2 := []) trivial _
  have pL : ∀ b, many.manyF D = b → Callable Tryz.prog (rL b).1 ∧ ∃ u, (∀ (b0 : Base) r, @VV b0 r (rL b).2 u) ∧ ∀ w', FnOk' w' v D → Answers (rL b).1 [v] w' u := fun b e => ⟨⟨_, Tryz.func44, by kernel_rfl, by kernel_rfl⟩, .bool b, fun _ _ => rfl, fun w' hw => e ▸ many.large_ans hw⟩
  have pM : ∀ b, many.manyF D = false → made.madeF D = b → Callable Tryz.prog (rM b).1 ∧ ∃ u, (∀ (b0 : Base) r, @VV b0 r (rM b).2 u) ∧ ∀ w', FnOk' w' v D → Answers (rM b).1 [v] w' u := fun b e0 e => ⟨⟨_, Tryz.func45, by kernel_rfl, by kernel_rfl⟩, .bool b, fun _ _ => rfl, fun w' hw => e ▸ (by
    obtain ⟨s1, s2, s3⟩ := small_of e0
    exact made.made_ans hw s1 s2 s3)⟩
  have pT : ∀ b, many.manyF D = false → made.madeF D = true → twos.twosF D = b → Callable Tryz.prog (rT b).1 ∧ ∃ u, (∀ (b0 : Base) r, @VV b0 r (rT b).2 u) ∧ ∀ w', FnOk' w' v D → Answers (rT b).1 [v] w' u := fun b e0 e1 e => ⟨⟨_, Tryz.func42, by kernel_rfl, by kernel_rfl⟩, .tuple #[twos.isV D, .bool b], fun b0 r => ⟨[twos.isV D, .bool b], rfl, ⟨_, rfl, ⟨rfl, rfl, rfl, rfl, rfl, rfl, rfl, rfl, rfl, rfl, rfl, rfl, rfl, rfl, rfl, rfl, trivial⟩⟩, rfl, trivial⟩, fun w' hw => e ▸ twos.twos_ans hw (sm_of hw e0 e1) (okB_of e1)⟩
  have go : ∀ {l : List (FuncId × V)} {n : Int}, autoB (run l n) .leaf L0 = true → (∀ p ∈ l, Callable Tryz.prog p.1 ∧ ∃ u, (∀ (b0 : Base) r, @VV b0 r p.2 u) ∧ ∀ w', FnOk' w' v D → Answers p.1 [v] w' u) → Answers f [v] w (.int .i64 n) := fun {l n} hr hl =>
    fn_call h hr (rig_ok (rows_lib h hl) (tabF_ok h _ _) no_loops) L0h (fnFx_ok D _ _) (fun p hp => by cases hp) (fun r x hx => hx)
  unfold chkF
  cases e0 : many.manyF D with
  | true => exact go run4 (fun p hp => by obtain rfl := List.mem_singleton.1 hp; exact pL true e0)
  | false =>
    cases e1 : made.madeF D with
    | false => exact go run8 (fun p hp => by
        simp only [List.mem_cons, List.not_mem_nil, or_false] at hp
        rcases hp with rfl | rfl
        · exact pL false e0
        · exact pM false e0 e1)
    | true =>
      cases e2 : twos.twosF D with
      | false => exact go run12 (fun p hp => by
          simp only [List.mem_cons, List.not_mem_nil, or_false] at hp
          rcases hp with rfl | rfl | rfl
          · exact pL false e0
          · exact pM true e0 e1
          · exact pT false e0 e1 e2)
      | true => exact go run0 (fun p hp => by
          simp only [List.mem_cons, List.not_mem_nil, or_false] at hp
          rcases hp with rfl | rfl | rfl
          · exact pL false e0
          · exact pM true e0 e1
          · exact pT true e0 e1 e2)
end
end Go.Proofs.YthdcahkedlijpaaGreat.check
namespace Go.Proofs.YthdcahkedlijpaaGreat.Am
open Go.RowKit
noncomputable section
def callN (R : Rig) (f : FuncId) (fx : Fx) (giv : List (E × Bool)) (es : List E) (g : List Bool → V) (args : List A) (L : Lf) : Bool :=
  @skipB (L.knowX fx) giv || Option.rec false (fun bs => sayE (g bs) (@runsL (L.knowX fx) R.ty R.fn (R.lib (L.knowX fx)) R.tb (R.loops (L.knowX fx)) R.n R.d f (args.map L.nA) ⟨[], 0⟩ 0)) (@absAll (L.knowX fx) es)
theorem calls_norm {P : Program} {R : Rig} {f : FuncId} {b : Base} {w : World} (hnb : b.nb ≤ w.heap.size) (hg : ∀ k, k < b.nb → w.heap[k]? = b.g k) (hR : RigOk P R b) {L0 : Lf} {hs : HT} {fx : Fx} {giv : List (E × Bool)} {es : List E} {g : List Bool → V} {args : List A} {vs : List Value}
    (h0 : L0.Holds b.rho b.sig) (hf : FxOk fx b.rho) (has : ∀ p ∈ giv, p.1.num b.rho = p.2) (ha : All2 (@VA b r0) args vs) (hrun : autoB (callN R f fx giv es g args) hs L0 = true) :
    Calls P f vs.toArray w fun x w' => ∃ u r, x = .returned u ∧ @VV b r (g (es.map (E.num b.rho))) u ∧ Below w.heap.size w w' := by
  obtain ⟨L, hLh, ht⟩ := autoB_ok hrun h0
  unfold callN at ht
  rw [Bool.or_eq_true] at ht
  let bL : Base := b.withK (L.knowX fx) (Lf.okX hLh hf)
  rcases ht with ht | ht
  · rw [@skipB_no bL giv has] at ht
    cases ht
  · cases ha' : @absAll (L.knowX fx) es with
    | none => rw [ha'] at ht; cases ht
    | some bs =>
      rw [ha'] at ht
      obtain ⟨h', hr⟩ := sayE_is ht
      have e : es.map (E.num b.rho) = bs := @absAll_ok bL _ _ ha'
      rw [e]
      exact @calls_flat bL P w hnb hg _ (hR.sound _ _) f _ _ (@Lf.nAs_ok bL L r0 hLh _ _ ha) _ h' hr
end
end Go.Proofs.YthdcahkedlijpaaGreat.Am
namespace Go.Proofs.YthdcahkedlijpaaGreat.far
open Go.RowKit Go.Proofs.YthdcahkedlijpaaGreat.Am
set_option maxRecDepth 100000
set_option linter.unusedVariables false
set_option linter.unusedSectionVars false
noncomputable def f : FuncId := 77
def farF (ns : Nat → Int) (c : Nat) : Bool := (List.range 16).any fun j => decide (c < j + 1) && !decide (ns j < 1)
def farE : E := (List.range 16).foldr (fun (j : Nat) (e : E) => .or (.and (.lt 0 ((j : Int) + 1)) (.not (.lt (1 + j) 1))) e) (.not (.zero []))
def chain : Nat → Nat → HT
  | 0, _ => .leaf
  | n + 1, j => .on (1 + j) 1 (chain n (j + 1)) .leaf
def tree : HT := (List.range 16).foldr (fun (k : Nat) (t : HT) => .on 0 ((k : Int) + 2) (chain (15 - k) (k + 1)) t) .leaf
def args : List A := [.g ((List.range 16).map fun j => .xi .i64 (1 + j)), .s (.xi .i64 0)]
noncomputable def L0 : Lf := Lf.of ((1, 16) :: List.replicate 16 twos.iv64)
noncomputable def run : Lf → Bool := callN (rigP libN Tabs.nought noLoops) f ⟨[], XTab.nought⟩ [] [farE] (fun bs => V.s (.bool (bs.headD false))) args
theorem run_ok : autoB run tree L0 = true := by kernel_rfl
theorem far_ans (ns : Nat → Int) (hn : ∀ j, -9223372036854775808 ≤ ns j ∧ ns j ≤ 9223372036854775807) (c : Nat) (h1 : 1 ≤ c) (h16 : c ≤ 16) (w : World) :
    Answers f [.agg ((List.range 16).map fun j => Value.int .i64 (ns j)).toArray, .int .i64 c] w (.bool (farF ns c)) := by
  let e : Env := ⟨w, (c : Int) :: row16 ns, []⟩
  have rn : ∀ j, j < 16 → xsAt ((c : Int) :: row16 ns) (1 + j) = ns j := fun j hj => by
    have := rows16_at [ns] [] 0 j ns rfl hj
    simp only [rows16, List.append_nil, Nat.mul_zero, Nat.zero_add] at this
    rw [show (c : Int) :: row16 ns = [(c : Int)] ++ row16 ns from rfl, xsAt_ge (n := 1) rfl]
    exact this
  have hL : L0.Holds e.b.rho e.b.sig := Lf.of_ok fun i p hp => by
    have hall : All2 InI ((1, 16) :: List.replicate 16 twos.iv64) ((c : Int) :: row16 ns) := ⟨⟨by show (1 : Int) ≤ c; omega, by show (c : Int) ≤ 16; omega⟩, twos.in_row16 hn⟩
    obtain ⟨x, hx, hi⟩ := All2.nth hall (n := i) (x := p) (by rw [nth_eq]; exact hp)
    have : xsAt ((c : Int) :: row16 ns) i = x := by unfold xsAt; rw [List.getD_eq_getElem?_getD, hx]; rfl
    show p.1 ≤ xsAt ((c : Int) :: row16 ns) i ∧ xsAt ((c : Int) :: row16 ns) i ≤ p.2
    rw [this]
    exact hi
  have ha : All2 (@VA e.b r0) args [.agg ((List.range 16).map fun j => Value.int .i64 (ns j)).toArray, .int .i64 c] := by
    refine ⟨⟨_, rfl, all2_by_nth (by simp) fun j x u hx hu => ?_⟩, rfl, trivial⟩
    have hj : j < 16 := by have := (List.getElem?_eq_some_iff.1 hu).1; simpa using this
    rw [List.getElem?_map, List.getElem?_range hj] at hx hu
    cases hx
    cases hu
    show Value.int .i64 _ = .int .i64 (xsAt ((c : Int) :: row16 ns) (1 + j))
    rw [rn j hj]
  have hE : farE.num e.b.rho = farF ns c := by
    show farE.num (xsAt ((c : Int) :: row16 ns)) = _
    have e0 : xsAt ((c : Int) :: row16 ns) 0 = c := rfl
    have ej : ∀ j : Nat, (E.and (.lt 0 ((j : Int) + 1)) (.not (.lt (1 + j) 1))).num (xsAt ((c : Int) :: row16 ns)) = (decide ((c : Int) < (j : Int) + 1) && !decide (xsAt ((c : Int) :: row16 ns) (1 + j) < 1)) := fun j => rfl
    have key : ∀ l : List Nat, (∀ j ∈ l, j < 16) → ((l.foldr (fun (j : Nat) (e : E) => E.or (.and (.lt 0 ((j : Int) + 1)) (.not (.lt (1 + j) 1))) e) (.not (.zero []))).num (xsAt ((c : Int) :: row16 ns))) = l.any fun j => decide (c < j + 1) && !decide (ns j < 1) := by
      intro l
      induction l with
      | nil => intro _; rfl
      | cons j l ih =>
        intro hl
        show ((E.and _ _).num _ || _) = _
        rw [ej, ih fun x hx => hl x (by simp [hx]), rn j (hl j (by simp)), List.any_cons]
        congr 2
        exact decide_eq_decide.2 (by omega)
    exact key _ fun j hj => List.mem_range.1 hj
  have hR : RigOk Tryz.prog (rigP libN Tabs.nought noLoops) e.b := rig_plain (@TabsOk.nought e.b)
  have := calls_norm (b := e.b) (w := w) (Nat.le_refl _) (fun _ _ => rfl) hR hL ⟨fun _ _ _ h => (by cases h), XTabOk.nought _⟩ (fun p hp => by cases hp) ha run_ok
  refine Answers.of (b := e.b) (v := V.s (.bool (farF ns c))) (fun r x hx => hx) ?_
  refine this.mono fun x w' ⟨u, r, e1, e2, e3⟩ => ⟨u, r, e1, ?_, e3⟩
  have e2 : u = .bool (farE.num e.b.rho) := e2
  show u = _
  rw [e2, hE]
end Go.Proofs.YthdcahkedlijpaaGreat.far
namespace Go.Proofs.YthdcahkedlijpaaGreat.Am
open Go.RowKit
set_option linter.unusedVariables false
structure CntZ where
  dst : Nat
  l : Nat
  m : Nat
def zeros16 : List S := List.replicate 16 (.int .i64 0)
def trZX (Z : List CntZ) (T : List Cnt) : XTab := { fnFx.xt with ld := Z.map (fun t => (zeros16, t.l, t.m)) ++ T.map fun t => (cells16 t.src, t.l, t.m), sr := Z.map (fun t => (zeros16, t.l, t.m + 1, cells16 t.dst)) ++ T.map fun t => (cells16 t.src, t.l, t.m + 1, cells16 t.dst) }
def trZFx (Z : List CntZ) (T : List Cnt) : Fx := ⟨Z.map (fun t => (t.m, 1, t.m + 1)) ++ T.map fun t => (t.m, 1, t.m + 1), trZX Z T⟩
structure CntZOk (rho : Nat → Int) (t : CntZ) : Prop where
  d : ∀ j, j < 16 → rho (nm t.dst j) = bump (fun _ => 0) (rho t.l) j
  m0 : rho t.m = 0
  m1 : rho (t.m + 1) = 1
theorem zeros_at {j : Nat} {c : S} (h : zeros16[j]? = some c) : j < 16 ∧ c = .int .i64 0 := by
  have hj : j < 16 := by have := (List.getElem?_eq_some_iff.1 h).1; simpa [zeros16] using this
  unfold zeros16 at h
  rw [List.getElem?_replicate, if_pos hj] at h
  cases h
  exact ⟨hj, rfl⟩
theorem trZFx_ok {Z : List CntZ} {T : List Cnt} {rho : Nat → Int} (h0 : FxOk fnFx rho) (hz : ∀ t ∈ Z, CntZOk rho t) (h : ∀ t ∈ T, CntOk rho t) : FxOk (trZFx Z T) rho := by
  have hT := trFx_ok h0 h
  refine ⟨fun i c k hm => ?_, ⟨h0.xt.lf, h0.xt.sm, fun cs i m hm => ?_, fun cs i m ds hm => ?_, h0.xt.eq⟩⟩
  · rcases List.mem_append.1 (show (i, c, k) ∈ Z.map (fun t => (t.m, (1 : Int), t.m + 1)) ++ T.map fun t => (t.m, (1 : Int), t.m + 1) from hm) with hm | hm
    · obtain ⟨t, ht, e⟩ := List.mem_map.1 hm
      cases e
      have k := hz t ht
      rw [k.m0, k.m1]
      exact ⟨rfl, by decide, by decide⟩
    · exact hT.ad i c k hm
  · rcases List.mem_append.1 (show (cs, i, m) ∈ Z.map (fun t => (zeros16, t.l, t.m)) ++ T.map fun t => (cells16 t.src, t.l, t.m) from hm) with hm | hm
    · obtain ⟨t, ht, e⟩ := List.mem_map.1 hm
      cases e
      intro j c hc _
      obtain ⟨_, rfl⟩ := zeros_at hc
      show some (0 : Int) = some (rho t.m)
      rw [(hz t ht).m0]
    · exact hT.xt.ld cs i m hm
  · rcases List.mem_append.1 (show (cs, i, m, ds) ∈ Z.map (fun t => (zeros16, t.l, t.m + 1, cells16 t.dst)) ++ T.map fun t => (cells16 t.src, t.l, t.m + 1, cells16 t.dst) from hm) with hm | hm
    · obtain ⟨t, ht, e⟩ := List.mem_map.1 hm
      cases e
      have k := hz t ht
      refine ⟨by simp [cells16, zeros16], fun j c d hc hd => ?_⟩
      obtain ⟨hj, rfl⟩ := zeros_at hc
      obtain ⟨_, rfl⟩ := cells16_at hd
      refine ⟨0, rfl, ?_⟩
      show some (rho (nm t.dst j)) = _
      rw [k.d j hj, k.m1]
      unfold bump
      by_cases e : rho t.l = (j : Int)
      · rw [if_pos e, decide_eq_true e]; rfl
      · rw [if_neg e, decide_eq_false e]; rfl
    · exact hT.xt.sr cs i m ds hm
theorem cntZ_ok {D : FnD} {q : At} {fs : List (Nat → Int)} {tail : List Int} {t : CntZ} {n N : Nat} (hn : fs.length = N) (h2 : fs[t.dst]? = some (bump (fun _ => 0) (xsAt (fnXs D q (rows16 fs ++ tail)) t.l))) (hm : t.m = 77 + (16 * N + n)) (e0 : xsAt tail n = 0) (e1 : xsAt tail (n + 1) = 1) : CntZOk (xsAt (fnXs D q (rows16 fs ++ tail))) t :=
  ⟨fun j hj => fn_row h2 hj, by rw [hm, fn_tail hn, e0], by rw [hm, show 77 + (16 * N + n) + 1 = 77 + (16 * N + (n + 1)) by omega, fn_tail hn, e1]⟩
end Go.Proofs.YthdcahkedlijpaaGreat.Am
namespace Go.Proofs.YthdcahkedlijpaaGreat.occurs
open Go.RowKit Go.Proofs.YthdcahkedlijpaaGreat.Am
set_option maxRecDepth 100000
set_option linter.unusedVariables false
set_option linter.unusedSectionVars false
noncomputable def f : FuncId := 54
def Z : List CntZ := [⟨0, 49, 189⟩, ⟨1, 46, 191⟩, ⟨2, 25, 193⟩]
def T : List Cnt := [⟨2, 3, 41, 195⟩, ⟨2, 4, 33, 197⟩, ⟨4, 5, 38, 199⟩, ⟨2, 6, 38, 201⟩]
def o0 : Nat → Int := fun _ => 0
def rows (st : List Value) : List (Nat → Int) :=
  [bump o0 (cellI st 25), bump o0 (cellI st 22), bump o0 (cellI st 1), bump (bump o0 (cellI st 1)) (cellI st 17), bump (bump o0 (cellI st 1)) (cellI st 9), bump (bump (bump o0 (cellI st 1)) (cellI st 9)) (cellI st 14), bump (bump o0 (cellI st 1)) (cellI st 14)]
def more (st : List Value) : List Int := rows16 (rows st) ++ ([0, 1, 0, 1, 0, 1] ++ (twos.two1 (bump o0 (cellI st 1)) (cellI st 17) ++ (twos.two1 (bump o0 (cellI st 1)) (cellI st 9) ++ (twos.two1 (bump (bump o0 (cellI st 1)) (cellI st 9)) (cellI st 14) ++ twos.two1 (bump o0 (cellI st 1)) (cellI st 14)))))
def out (bs : List Bool) : V := .a (.g (bif Nat.beq (twos.stateOf bs) 0 then zeros16 else cells16 (twos.stateOf bs - 1)))
def op4 (k : Nat) (t : HT) : HT := .by k 1 t (.by k 2 t (.by k 3 t (.by k 4 t t)))
def sa0 : HT := .by 44 1 .leaf .leaf
def asT : HT := .on 28 1 .leaf (.on 28 2 (op4 31 sa0) (.on 28 3 (op4 31 (op4 36 sa0)) (.on 28 4 (op4 31 (op4 36 sa0)) (.on 28 6 (.by 28 5 sa0 sa0) .leaf))))
def stT : HT := .on 24 1 .leaf (.on 24 2 asT (.on 24 3 (op4 44 .leaf) (.on 24 4 sa0 (.on 24 5 (op4 44 .leaf) .leaf))))
noncomputable def L1 : Lf := twos.LI (Lf.of (fnIv ++ []))
noncomputable def run : Lf → Bool := callT (rigP libN Tabs.nought noLoops) f (trZFx Z T) [(okSN, true)] (twos.placeE.map twos.at24) out [.g stmCells]
theorem run_ok : autoB run stT L1 = true := by kernel_rfl
end Go.Proofs.YthdcahkedlijpaaGreat.occurs
