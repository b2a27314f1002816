/- JumpTells: its answer at any jump: true. -/
import Derived.Test.YtaamdiknefodgaaDoorJTellsR
namespace Go.Proofs.YtaamdiknefodgaaDoor.jumpTells
open Go.RowKit Go.Proofs.YtaamdiknefodgaaDoor.Am
set_option maxRecDepth 100000
set_option maxHeartbeats 1000000
set_option linter.unusedVariables false
set_option linter.unusedSectionVars false
@[reducible] noncomputable def fT : Func := Tryd.f4
theorem body_some : fT.body = some body := by
  have h : (fT.body).isSome = true := by kernel_rfl
  obtain ⟨c, hc⟩ := Option.isSome_iff_exists.1 h
  unfold body
  rw [hc]
  rfl
theorem rest_some : restC 6 body = some code2 := by
  have h : (restC 6 body).isSome = true := by kernel_rfl
  obtain ⟨c, hc⟩ := Option.isSome_iff_exists.1 h
  unfold code2
  rw [hc]
  rfl
theorem nodup_short : ∀ {l T : List Int}, List.Pairwise (· < ·) l → (∀ x ∈ l, x ∈ T) → l.length ≤ T.length
  | [], T, _, _ => Nat.zero_le _
  | x :: l, T, hp, h => by
    have hp := List.pairwise_cons.1 hp
    obtain ⟨s, t, rfl⟩ := List.append_of_mem (h x (List.mem_cons_self ..))
    have := nodup_short (l := l) (T := s ++ t) hp.2 fun y hy => by
      have h1 := h y (List.mem_cons_of_mem _ hy)
      have h2 := hp.1 y hy
      simp only [List.mem_append, List.mem_cons] at h1 ⊢
      rcases h1 with h1 | h1 | h1
      · exact .inl h1
      · omega
      · exact .inr h1
    simp only [List.length_cons, List.length_append] at this ⊢
    omega
theorem incT_short (T : List Int) : (incT T).length ≤ T.length := nodup_short (incT_sorted T) fun x hx => (incT_mem.1 hx).1
theorem toldL_short (sel : Int → Bool) : ∀ l : List (List Value), (toldL sel l).length ≤ l.length
  | [] => Nat.le_refl _
  | x :: l => by
    have := toldL_short sel l
    have e : toldL sel (x :: l) = (bif sel (cellI x 0) then [cellI x 2] else []) ++ toldL sel l := rfl
    rw [e, List.length_append, List.length_cons]
    cases sel (cellI x 0) <;> simp <;> omega
section
variable {w : World} {v : Value} {pre : List Value} {sv : Value} {post : List Value} {els : List (List Value)} (hj : JumpIs w v pre sv post els)
include hj
theorem stage1 {z : Nat} (hz : IsZ z sv els) (hn : els.length < 13) {R : Ending → World → Prop}
    (k : ∀ (w1 : World) (a1 : Act) (u0 u1 : Value), Below w.heap.size w w1 → a1.defers = [] → Ops w1 u0 els → Ops w1 u1 els →
      (∀ b2 : Base, b2.nb = w1.heap.size → b2.g = (fun k => w1.heap[k]?) → (∀ i, i < 13 → b2.rho i = cellI (flatJ pre els post) i) → b2.lst 0 = ⟨u0, els⟩ → b2.lst 1 = ⟨u1, els⟩ → ∃ r2, @Rel b2 (hdX (.rv 0) (.rv 1)) r2 w1.heap.size a1 w1) → Am.Ends Tryd.prog fT R code2 a1 w1) :
    Calls Tryd.prog 4 #[v] w R := by
  let b1 : Base := baseJ hj (codesE els)
  have hok : cutOk z els.length = true := by
    rcases hz with ⟨rfl, he, _⟩ | ⟨rfl, he, _⟩ | ⟨rfl, he⟩
    · rw [he]; exact cut_0
    · rw [he]; exact cut_1
    · have := List.all_eq_true.1 cut_n els.length (List.mem_range.2 hn)
      simp only [Bool.or_eq_true] at this
      rcases this with h | h
      · have := Nat.eq_of_beq_eq_true h; omega
      · exact h
  unfold cutOk at hok
  cases hx : cut1 z els.length with
  | none => rw [hx] at hok; cases hok
  | some s1 =>
    rw [hx] at hok
    have hok : (frzSt ⟨13, 0, 0⟩ [] (hdX .top .top) s1 && copyOk z els.length 1 2 s1.h) = true := hok
    simp only [Bool.and_eq_true] at hok
    obtain ⟨R1, hrel⟩ := start_rel hj hz (nt - 1)
    have hC : @CtxOk b1 Tryd.prog ctxA := @CtxOk.mk b1 _ ctxA (@runs_ok b1 _ _ (@tyOf_ok b1 Tryd.prog) _ fnOkN noneO (fun _ _ _ _ _ _ h => by cases h) mixedN 10 3) (@TabsOk.nought b1)
    refine ends_calls Tryd.func4 body_some ?_
    refine @ends_cut b1 _ ctxA 0 10 6 (@tyOf_ok b1 Tryd.prog) hC mixedN fT R code2 s1 body (Loops.ok_all (fun c => @LoopOk.none b1 _ c) _) rest_some _ _ _ _ _ hrel hx fun r1 a1 w1 hr1 adv hd => ?_
    have hown : noOwn (⟨heapA z els.length, 1⟩ : Heap) = true := by
      rcases hz with ⟨rfl, _⟩ | ⟨rfl, _⟩ | ⟨rfl, _⟩ <;> rfl
    have hbel : Below w.heap.size w w1 := @Adv.below b1 _ _ _ _ _ _ _ hown adv
    obtain ⟨u0, u1, ⟨g0, o0⟩, g1, o1⟩ := both_ops hj hz hr1 hok.2
    refine k w1 a1 u0 u1 hbel hd o0 o1 fun b2 hnb hg hrho hl0 hl1 => ?_
    have hf := Am.freeze (b1 := b1) (b2 := b2) (d := ⟨13, 0, 0⟩) (r := r1) (th := []) ⟨fun i hi => by rw [hrho i hi]; exact rhoJ_lt hj _ hi, fun i hi => absurd hi (Nat.not_lt_zero i), fun i hi => absurd hi (Nat.not_lt_zero i)⟩ (fun p hp => by cases hp) (hd := hdX .top .top) (s := s1) hr1 (by rw [hnb]; exact Nat.le_refl _) (fun k _ => by rw [hg]) hok.1
    refine ⟨r1.cut 3, ?_⟩
    have P := @Rel.parts b2 _ _ _ _ _ hf
    refine Rel.recell (b := b2) (h' := (hdX (.rv 0) (.rv 1)).h) hf rfl fun l q hq => ?_
    have hq : (bif (1 : Nat) == l then some (⟨cellsX (.rv 0), false⟩ : Blk) else bif (2 : Nat) == l then some (⟨cellsX (.rv 1), false⟩ : Blk) else none) = some q := hq
    have nine : ∀ {x : S} {i : Nat} {y : S}, nth (cellsX x) i = some y → (i = 9 ∧ y = x) ∨ nth (cellsX .top) i = some y := fun {x i y} h => by
      by_cases h9 : i = 9
      · subst h9
        have h : some x = some y := h
        cases h
        exact .inl ⟨rfl, rfl⟩
      · refine .inr ?_
        rw [nth_eq] at h ⊢
        unfold cellsX at h ⊢
        by_cases hlt : i < 9
        · rw [List.getElem?_append_left (by show i < 9; exact hlt)] at h ⊢
          exact h
        · rw [List.getElem?_append_right (by show 9 ≤ i; omega)] at h ⊢
          obtain ⟨m, hm⟩ : ∃ m, i - (cellsT 0 kPre).length = m + 1 := ⟨i - 10, by show i - 9 = i - 10 + 1; omega⟩
          rw [hm] at h ⊢
          exact h
    have slv : ∀ {m : Nat} {u : Value}, b2.lst m = ⟨u, els⟩ → Ops w1 u els → ∀ r, @VS b2 r (.rv m) u := fun {m u} hl ho r => by
      obtain ⟨A, c, e⟩ := ho.sl
      exact ⟨A, els.length, c, by rw [hl]; exact e, e⟩
    cases hb1 : ((1 : Nat) == l) with
    | true =>
      rw [hb1] at hq
      cases hq
      have := by simpa using hb1
      subst this
      refine ⟨rfl, ⟨cellsX .top, false⟩, rfl, rfl, fun i x hi => ?_⟩
      rcases nine hi with ⟨rfl, rfl⟩ | h
      · exact ⟨u0, g0, slv hl0 o0 _⟩
      · exact (P.ro 1 ⟨cellsX .top, false⟩ rfl rfl).2 i x h
    | false =>
      rw [hb1] at hq
      cases hb2 : ((2 : Nat) == l) with
      | false => rw [hb2] at hq; cases hq
      | true =>
        rw [hb2] at hq
        cases hq
        have := by simpa using hb2
        subst this
        refine ⟨rfl, ⟨cellsX .top, false⟩, rfl, rfl, fun i x hi => ?_⟩
        rcases nine hi with ⟨rfl, rfl⟩ | h
        · exact ⟨u1, g1, slv hl1 o1 _⟩
        · exact (P.ro 2 ⟨cellsX .top, false⟩ rfl rfl).2 i x h
/-! the second piece -/
@[reducible] noncomputable def baseW (_ : JumpIs w v pre sv post els) (w1 : World) (u0 u1 : Value) (strs : List (List UInt8)) (ints : List Int) : Base :=
  { Know.nought with nb := w1.heap.size, g := fun k => w1.heap[k]?, rho := rhoOf (behind (flatJ pre els post) strs ints), sig := sigOf (behind (flatJ pre els post) strs ints), ok := KnowOk.nought _ _, lst := fun k => match k with | 0 => ⟨u0, els⟩ | _ => ⟨u1, els⟩ }
theorem descW {w1 : World} {u0 u1 : Value} (o0 : Ops w1 u0 els) (o1 : Ops w1 u1 els) (strs : List (List UInt8)) (ints : List Int) : @Desc (baseW hj w1 u0 u1 strs ints) (cellsX (.rv 0)) (pre ++ u0 :: post) ∧ @Desc (baseW hj w1 u0 u1 strs ints) (cellsX (.rv 1)) (pre ++ u1 :: post) := by
  have rl : ∀ i, i < 13 → (baseW hj w1 u0 u1 strs ints).rho i = cellI (flatJ pre els post) i := fun i hi => behind_cell (by rw [len_flat hj]; exact hi)
  have h1 : @Desc (baseW hj w1 u0 u1 strs ints) (cellsT 0 kPre) pre := desc_T _ rfl hj.pre fun i hi => by
    have := len_pre hj
    rw [Nat.zero_add, rl i (by omega), fl_pre hj (by omega)]
  have h2 : @Desc (baseW hj w1 u0 u1 strs ints) (cellsT 10 kPost) post := desc_T _ rfl hj.post fun i hi => by
    have := len_post hj
    rw [rl (10 + i) (by omega), fl_post hj]
  obtain ⟨A, c, e⟩ := o0.sl
  obtain ⟨A', c', e'⟩ := o1.sl
  exact ⟨All2.app h1 ⟨fun r => ⟨A, els.length, c, e, e⟩, h2⟩, All2.app h1 ⟨fun r => ⟨A', els.length, c', e', e'⟩, h2⟩⟩
theorem oneX (k : Nat) : (([.g (cellsX (.rv k))] : List A).all A.oneR) = true := rfl
/-- the end, out of its run -/
theorem stage2 {w1 : World} {a1 : Act} {u0 u1 : Value} {strs : List (List UInt8)} {ints : List Int} (hbel : Below w.heap.size w w1) (hd : a1.defers = [])
    {r2 : Ren} (hr : @Rel (baseW hj w1 u0 u1 strs ints) (hdX (.rv 0) (.rv 1)) r2 w1.heap.size a1 w1) {K : Know} (hK : KnowOk K (baseW hj w1 u0 u1 strs ints).rho (baseW hj w1 u0 u1 strs ints).sig) {lib : List Oracle} (hlib : @Sound ((baseW hj w1 u0 u1 strs ints).withK K hK) Tryd.prog (orcs lib))
    (hrun : endOk (ctxG K lib) fT (@exec K (ctxG K lib) 0 30 code2 (hdX (.rv 0) (.rv 1))) = true) : Am.Ends Tryd.prog fT (fun e w' => e = .returned (.bool true) ∧ Below w.heap.size w w') code2 a1 w1 := by
  letI bL : Base := (baseW hj w1 u0 u1 strs ints).withK K hK
  unfold endOk at hrun
  cases hx : @exec K (ctxG K lib) 0 30 code2 (hdX (.rv 0) (.rv 1)) with
  | none => rw [hx] at hrun; cases hrun
  | some p =>
    obtain ⟨x, s'⟩ := p
    rw [hx] at hrun
    have hrun : (isRet x && (match mapO (resOf (ctxG K lib) s') fT.results.toList with | some [.s (.bool true)] => true | _ => false)) = true := hrun
    simp only [Bool.and_eq_true] at hrun
    obtain ⟨h1, h2⟩ := hrun
    have hxr : x = .ret := by cases x <;> first | rfl | cases h1
    subst hxr
    split at h2
    · rename_i hm
      have hC : @CtxOk bL Tryd.prog (ctxG K lib) := @CtxOk.mk bL _ (ctxG K lib) (@runs_ok bL _ _ (@tyOf_ok bL Tryd.prog) _ fnOkN _ hlib mixedN 30 10) (@TabsOk.nought bL)
      refine @ends_last bL _ (ctxG K lib) 0 30 (@tyOf_ok bL Tryd.prog) hC mixedN fT _ code2 (Loops.ok_all (fun c => @LoopOk.none bL _ c) _) _ _ _ _ _ _ (Rel.withK _ hK hr) hd hx _ hm fun r' w' vs hvs hi adv => ?_
      match vs, hvs with
      | [u], ⟨hu, _⟩ =>
        have hu : u = .bool true := hu
        subst hu
        have hb := Adv.below (h := (hdX (.rv 0) (.rv 1)).h) (by rfl) adv
        exact ⟨rfl, Below.trans hbel (hb.mono hbel.size)⟩
    · cases h2
theorem parts_len : (partsJ pre els).length = if cellI pre 0 = 2 then 1 else els.length := by
  unfold partsJ
  split <;> rfl
theorem uses_len (h : okJ pre els post = true) : (usesJ pre els post).length ≤ 9 ∧ (movesJ pre els post).length ≤ 8 ∧ (targetsJ pre).length ≤ 2 := by
  have t1 := toldL_short selU (partsJ pre els)
  have t2 := toldL_short selM (partsJ pre els)
  have hp := parts_len hj
  have h3 : (targetsJ pre).length ≤ 2 := by unfold targetsJ; split <;> (try split) <;> simp
  have h1 : (if cellI pre 0 = 3 then ([0] : List Int) else []).length ≤ 1 := by split <;> simp
  have h2 : (if partJ post then [cellI post 0] else []).length ≤ 1 := by split <;> simp
  unfold usesJ movesJ
  rw [List.length_append, List.length_append]
  rcases isJ hj h with ⟨k, _, _, _, l, _⟩ | ⟨k, _, _, _, _, l, _⟩ | ⟨k, _, l, _⟩ | ⟨k, _, _, _, _, l, _, _⟩
  · rw [if_neg (by omega)] at hp
    have : els.length = 0 := by rw [l]; rfl
    refine ⟨by omega, by omega, h3⟩
  · rw [if_pos k] at hp
    refine ⟨by omega, by omega, h3⟩
  · rw [if_neg (by omega)] at hp
    have : els.length = 0 := by rw [l]; rfl
    refine ⟨by omega, by omega, h3⟩
  · rw [if_neg (by omega)] at hp
    have h0 : (if cellI pre 0 = 3 then ([0] : List Int) else []).length = 0 := by rw [if_neg (by omega)]; rfl
    refine ⟨by omega, by omega, h3⟩
end
theorem sound_listR {b : Base} {F : FuncId} (hF : Callable Tryd.prog F) {cells res : List S} (h1 : (([.g cells] : List A).all A.oneR) = true) {v : Value} (hv : All2 (@VA b r0) [.g cells] [v]) {vals : List Value} (hr : ∀ r, All2 (@VS b r) res vals)
    (h : ∀ w' : World, (∀ k, k < b.nb → w'.heap[k]? = b.g k) → Calls Tryd.prog F #[v] w' fun x w'' => ∃ u, x = .returned (.tuple #[u, .int .i64 0]) ∧ NewRow w' w'' u vals ∧ Below w'.heap.size w' w'') : @Sound b Tryd.prog (listR F cells res) := by
  letI : Base := b
  intro f args hp fl v0 h' e
  unfold listR at e
  cases hf : (f == F) <;> rw [hf] at e <;> simp only [cond_true, cond_false] at e
  · cases e
  obtain rfl : f = F := by simpa using hf
  split at e
  · rename_i xs
    cases hs : sameL S.eqb cells xs <;> rw [hs] at e <;> simp only [cond_true, cond_false] at e
    · cases e
    have he := sameB (fun _ _ => S.eqb_ok) hs
    subst he
    have e : newV res hp = (v0, h') := by injection e
    refine ⟨hF, fun r B w vs hi ha => ?_⟩
    obtain rfl := As.one_sameR h1 ha hv
    refine (h w hi.hr.z).mono fun x w' ⟨u, e1, e2, e3⟩ => ⟨_, e1, ?_⟩
    have := Post.new (fl := fl) hi e3 e2 (hr r)
    rw [e] at this
    exact this
  · cases e
theorem sound_litR {b : Base} {F : FuncId} (hF : Callable Tryd.prog F) {cells res : List S} (h1 : (([.g cells] : List A).all A.oneR) = true) {v : Value} (hv : All2 (@VA b r0) [.g cells] [v]) {vals : List Value} (hr : ∀ r, All2 (@VS b r) res vals)
    (h : ∀ w' : World, (∀ k, k < b.nb → w'.heap[k]? = b.g k) → Calls Tryd.prog F #[v] w' fun x w'' => ∃ u, x = .returned (.tuple #[u, .int .i64 0]) ∧ NewLit w' w'' u vals ∧ Below w'.heap.size w' w'') : @Sound b Tryd.prog (litR F cells res) := by
  letI : Base := b
  intro f args hp fl v0 h' e
  unfold litR at e
  cases hf : (f == F) <;> rw [hf] at e <;> simp only [cond_true, cond_false] at e
  · cases e
  obtain rfl : f = F := by simpa using hf
  split at e
  · rename_i xs
    cases hs : sameL S.eqb cells xs <;> rw [hs] at e <;> simp only [cond_true, cond_false] at e
    · cases e
    have he := sameB (fun _ _ => S.eqb_ok) hs
    subst he
    have e : litV res hp = (v0, h') := by injection e
    refine ⟨hF, fun r B w vs hi ha => ?_⟩
    obtain rfl := As.one_sameR h1 ha hv
    refine (h w hi.hr.z).mono fun x w' ⟨u, e1, e2, e3⟩ => ⟨_, e1, ?_⟩
    have := Post.lit (fl := fl) hi e3 e2 (hr r)
    rw [e] at this
    exact this
  · cases e
noncomputable def LBig : Lf := ((Lf.startB [(true, kJ)] [] []).lo 9 0).lo 9 13
theorem big_run : tells true (@runsL (LBig.know []) (tyOf Tryd.prog) (fnOf Tryd.prog) noneO tbJ (fun _ _ _ _ => none) 30 10 4 (([.g cellsJ] : List A).map LBig.nA) ⟨[], 0⟩ 0) = true := by kernel_rfl
section
variable {w : World} {v : Value} {pre : List Value} {sv : Value} {post : List Value} {els : List (List Value)} (hj : JumpIs w v pre sv post els)
include hj
theorem sound_chk {w1 : World} {u0 u1 : Value} (o0 : Ops w1 u0 els) (o1 : Ops w1 u1 els) (hn : els.length < 13) (strs : List (List UInt8)) (ints : List Int) {K : Know} (hK : KnowOk K (baseW hj w1 u0 u1 strs ints).rho (baseW hj w1 u0 u1 strs ints).sig) {t : Bool} (ht : okJ pre els post = t) :
    ∀ O ∈ chkR t, @Sound ((baseW hj w1 u0 u1 strs ints).withK K hK) Tryd.prog O := by
  letI bL : Base := (baseW hj w1 u0 u1 strs ints).withK K hK
  obtain ⟨d0, d1⟩ := descW hj o0 o1 strs ints
  have j0 := hj.other o0
  have j1 := hj.other o1
  have a0 : All2 (@VA bL r0) [.g (cellsX (.rv 0))] [.agg (pre ++ u0 :: post).toArray] := ⟨⟨_, rfl, @Desc.vs (baseW hj w1 u0 u1 strs ints) _ _ d0 r0⟩, trivial⟩
  have a1 : All2 (@VA bL r0) [.g (cellsX (.rv 1))] [.agg (pre ++ u1 :: post).toArray] := ⟨⟨_, rfl, @Desc.vs (baseW hj w1 u0 u1 strs ints) _ _ d1 r0⟩, trivial⟩
  intro O hO
  simp only [chkR, List.mem_cons, List.not_mem_nil, or_false] at hO
  rcases hO with rfl | rfl | rfl | rfl
  · exact @sound_rowG bL _ _ ⟨_, Tryd.func22, by kernel_rfl, by kernel_rfl⟩ _ _ (oneX hj 1) _ a1 (v8 t) (fun _ => rfl) fun w' hw => by
      rw [← ht]
      exact jA_tests w' _ pre u1 post els (j1.frz hw)
  · exact @sound_rowG bL _ _ ⟨_, Tryd.func30, by kernel_rfl, by kernel_rfl⟩ _ _ (oneX hj 0) _ a0 (v8 t) (fun _ => rfl) fun w' hw => by
      rw [← ht]
      exact jP_tests w' _ pre u0 post els (j0.frz hw)
  · exact @sound_rowG bL _ _ ⟨_, Tryd.func64, by kernel_rfl, by kernel_rfl⟩ _ _ (oneX hj 0) _ a0 (.bool t) (fun _ => rfl) fun w' hw => by
      rw [← ht]
      exact jV_tests w' _ pre u0 post els (j0.frz hw)
  · exact @sound_rowG bL _ _ ⟨_, Tryd.func32, by kernel_rfl, by kernel_rfl⟩ _ _ rfl [.agg (pre ++ u1 :: post).toArray, .agg (pre ++ u0 :: post).toArray] ⟨a1.1, a0.1, trivial⟩ (.bool true) (fun _ => rfl) fun w' hw => same_args (j1.frz hw) (j0.frz hw) rfl rfl (.inl ⟨rfl, rfl, hn⟩)
theorem bad_end {w1 : World} {a1 : Act} {u0 u1 : Value} (hbel : Below w.heap.size w w1) (hd : a1.defers = []) (o0 : Ops w1 u0 els) (o1 : Ops w1 u1 els) (hn : els.length < 13) (hok : okJ pre els post = false)
    {r2 : Ren} (hr : @Rel (baseW hj w1 u0 u1 [] []) (hdX (.rv 0) (.rv 1)) r2 w1.heap.size a1 w1) : Am.Ends Tryd.prog fT (fun e w' => e = .returned (.bool true) ∧ Below w.heap.size w w') code2 a1 w1 := by
  have hL : (Lf.startB [(true, kJ)] [] []).Holds (baseW hj w1 u0 u1 [] []).rho (baseW hj w1 u0 u1 [] []).sig := Lf.startB_some (gps_flat hj) (ivS := []) (strs := []) trivial (ints := []) (i0 := []) (i1 := []) rfl trivial
  have hl : Lens [] (baseW hj w1 u0 u1 [] []).rho (baseW hj w1 u0 u1 [] []).sig := lens_behind (n := 13) (a := 0) (gps_flat hj) rfl (len_flat hj) rfl
  have hK : KnowOk KB (baseW hj w1 u0 u1 [] []).rho (baseW hj w1 u0 u1 [] []).sig := Lf.ok hL hl
  exact stage2 hj hbel hd hr hK (@sound_orcs ((baseW hj w1 u0 u1 [] []).withK _ hK) _ _ (sound_chk hj o0 o1 hn [] [] hK hok)) okB_run
def intsG (pre : List Value) (els : List (List Value)) (post : List Value) : List Int := setJ pre post :: (targetsJ pre ++ (incT (usesJ pre els post) ++ incT (movesJ pre els post)))
theorem good_end {w1 : World} {a1 : Act} {u0 u1 : Value} (hbel : Below w.heap.size w w1) (hd : a1.defers = []) (o0 : Ops w1 u0 els) (o1 : Ops w1 u1 els) (hok : okJ pre els post = true) (kt : TabOk w1)
    {r2 : Ren} (hr : @Rel (baseW hj w1 u0 u1 [jumpT pre els post] (intsG pre els post)) (hdX (.rv 0) (.rv 1)) r2 w1.heap.size a1 w1) : Am.Ends Tryd.prog fT (fun e w' => e = .returned (.bool true) ∧ Below w.heap.size w w') code2 a1 w1 := by
  have hn9 : els.length < 9 := by
    rcases isJ hj hok with ⟨_, _, _, _, l, _⟩ | ⟨_, _, _, _, _, l, _⟩ | ⟨_, _, l, _⟩ | ⟨_, _, _, _, _, l, _, _⟩
    · rw [l]; decide
    · rw [l]; decide
    · rw [l]; decide
    · exact l
  let b : Base := baseW hj w1 u0 u1 [jumpT pre els post] (intsG pre els post)
  have hml := jumpT_len (pre := pre) (post := post) hn9
  have hL : (Lf.startB [(true, kJ)] [(0, 1000)] []).Holds b.rho b.sig := Lf.startB_some (gps_flat hj) (strs := [jumpT pre els post]) ⟨⟨by show (0 : Int) ≤ _; omega, by show ((jumpT pre els post).length : Int) ≤ 1000; omega⟩, trivial⟩ (i0 := []) (i1 := intsG pre els post) rfl trivial
  have hl : Lens (strsB 13 1) b.rho b.sig := lens_behind (n := 13) (a := 1) (gps_flat hj) rfl (len_flat hj) rfl
  have hK : KnowOk KG b.rho b.sig := Lf.ok hL hl
  letI bL : Base := b.withK KG hK
  obtain ⟨q1, q2, q3⟩ := uses_len hj hok
  have s1 := incT_short (usesJ pre els post)
  have s2 := incT_short (movesJ pre els post)
  have hrun := ok_all (np := (targetsJ pre).length) (nu := (incT (usesJ pre els post)).length) (nm := (incT (movesJ pre els post)).length) (by omega) (by omega) (by omega)
  have ri : ∀ {j : Nat} {x : Int}, (intsG pre els post)[j]? = some x → b.rho (14 + j) = x := fun {j x} h => behind_int (n := 13) (a := 1) (len_flat hj) rfl h
  have e14 : b.rho 14 = setJ pre post := ri (j := 0) rfl
  have eT : ∀ r, All2 (@VS bL r) (numsX 15 (targetsJ pre).length) (intsJ (targetsJ pre)) := fun r => @numsX_ok bL r 15 _ fun j m hm => by
    show b.rho (15 + j) = m
    rw [show 15 + j = 14 + (j + 1) by omega]
    refine ri ?_
    unfold intsG
    rw [List.getElem?_cons_succ, List.getElem?_append_left (List.getElem?_eq_some_iff.1 hm).1]
    exact hm
  have eU : ∀ r, All2 (@VS bL r) (numsX (15 + (targetsJ pre).length) (incT (usesJ pre els post)).length) (intsJ (incT (usesJ pre els post))) := fun r => @numsX_ok bL r _ _ fun j m hm => by
    show b.rho (15 + (targetsJ pre).length + j) = m
    rw [show 15 + (targetsJ pre).length + j = 14 + ((targetsJ pre).length + j + 1) by omega]
    refine ri ?_
    unfold intsG
    rw [List.getElem?_cons_succ, List.getElem?_append_right (by omega), List.getElem?_append_left (by have := (List.getElem?_eq_some_iff.1 hm).1; omega), show (targetsJ pre).length + j - (targetsJ pre).length = j by omega]
    exact hm
  have eM : ∀ r, All2 (@VS bL r) (numsX (15 + (targetsJ pre).length + (incT (usesJ pre els post)).length) (incT (movesJ pre els post)).length) (intsJ (incT (movesJ pre els post))) := fun r => @numsX_ok bL r _ _ fun j m hm => by
    show b.rho (15 + (targetsJ pre).length + (incT (usesJ pre els post)).length + j) = m
    rw [show 15 + (targetsJ pre).length + (incT (usesJ pre els post)).length + j = 14 + ((targetsJ pre).length + ((incT (usesJ pre els post)).length + j) + 1) by omega]
    refine ri ?_
    unfold intsG
    rw [List.getElem?_cons_succ, List.getElem?_append_right (by omega), List.getElem?_append_right (by omega), show (targetsJ pre).length + ((incT (usesJ pre els post)).length + j) - (targetsJ pre).length - (incT (usesJ pre els post)).length = j by omega]
    exact hm
  obtain ⟨d0, d1⟩ := descW hj o0 o1 [jumpT pre els post] (intsG pre els post)
  have j0 := hj.other o0
  have j1 := hj.other o1
  have a0 : All2 (@VA bL r0) [.g (cellsX (.rv 0))] [.agg (pre ++ u0 :: post).toArray] := ⟨⟨_, rfl, @Desc.vs b _ _ d0 r0⟩, trivial⟩
  have a1' : All2 (@VA bL r0) [.g (cellsX (.rv 1))] [.agg (pre ++ u1 :: post).toArray] := ⟨⟨_, rfl, @Desc.vs b _ _ d1 r0⟩, trivial⟩
  have tab : ∀ w' : World, (∀ k, k < bL.nb → w'.heap[k]? = bL.g k) → TabOk w' := fun w' hw => kt.all fun k hk => hw k (by have := kt.size; show k < w1.heap.size; omega)
  have s13 : b.sig 13 = jumpT pre els post := behind_str (n := 13) (len_flat hj) (j := 0) rfl
  have vT : ∀ r, @VV bL r (mS2 (.xs [256 + 13])) (vS2 (jumpT pre els post)) := fun r => by
    refine ⟨[_, _], rfl, ?_, rfl, trivial⟩
    show Value.string _ = Value.string ⟨(strX bL.sig [256 + 13]).toArray⟩
    rw [@strX_one, show bL.sig 13 = jumpT pre els post from s13]
  have vS : ∀ r, @VV bL r (.t [.s (.xi .i64 14), .s (.int .i64 0)]) (.tuple #[.int .i64 (setJ pre post), .int .i64 0]) := fun r => ⟨[_, _], rfl, congrArg (Value.int .i64) e14.symm, rfl, trivial⟩
  refine stage2 hj hbel hd hr hK (@sound_orcs bL _ _ fun O hO => ?_) hrun
  unfold rowsG at hO
  rcases List.mem_append.1 hO with hO | hO
  · exact sound_chk hj o0 o1 (by omega) _ _ hK hok O hO
  simp only [List.mem_cons, List.not_mem_nil, or_false] at hO
  rcases hO with rfl | rfl | rfl | rfl | rfl | rfl | rfl | rfl | rfl | rfl
  · exact sound_litR (b := bL) ⟨_, Tryd.func17, by kernel_rfl, by kernel_rfl⟩ (oneX hj 1) a1' eT fun w' hw => jTargA w' _ pre u1 post els (j1.frz hw) hok
  · exact sound_litR (b := bL) ⟨_, Tryd.func25, by kernel_rfl, by kernel_rfl⟩ (oneX hj 0) a0 eT fun w' hw => jTargB w' _ pre u0 post els (j0.frz hw) hok
  · exact sound_listR (b := bL) ⟨_, Tryd.func18, by kernel_rfl, by kernel_rfl⟩ (oneX hj 1) a1' eU fun w' hw => jUsesA w' _ pre u1 post els (j1.frz hw) hok
  · exact sound_listR (b := bL) ⟨_, Tryd.func26, by kernel_rfl, by kernel_rfl⟩ (oneX hj 0) a0 eU fun w' hw => jUsesB w' _ pre u0 post els (j0.frz hw) hok
  · exact sound_listR (b := bL) ⟨_, Tryd.func20, by kernel_rfl, by kernel_rfl⟩ (oneX hj 1) a1' eM fun w' hw => jMovesA w' _ pre u1 post els (j1.frz hw) hok
  · exact sound_listR (b := bL) ⟨_, Tryd.func28, by kernel_rfl, by kernel_rfl⟩ (oneX hj 0) a0 eM fun w' hw => jMovesB w' _ pre u0 post els (j0.frz hw) hok
  · exact @sound_rowG bL _ _ ⟨_, Tryd.func19, by kernel_rfl, by kernel_rfl⟩ _ _ (oneX hj 1) _ a1' _ vS fun w' hw => jSetA w' _ pre u1 post els (j1.frz hw) hok
  · exact @sound_rowG bL _ _ ⟨_, Tryd.func27, by kernel_rfl, by kernel_rfl⟩ _ _ (oneX hj 0) _ a0 _ vS fun w' hw => jSetB w' _ pre u0 post els (j0.frz hw) hok
  · exact @sound_rowG bL _ _ ⟨_, Tryd.func21, by kernel_rfl, by kernel_rfl⟩ _ _ (oneX hj 1) _ a1' _ vT fun w' hw => jTextA w' _ pre u1 post els (tab w' hw) (j1.frz hw) hok
  · exact @sound_rowG bL _ _ ⟨_, Tryd.func29, by kernel_rfl, by kernel_rfl⟩ _ _ (oneX hj 0) _ a0 _ vT fun w' hw => jTextB w' _ pre u0 post els (tab w' hw) (j0.frz hw) hok
theorem walk (hz : ∃ z, IsZ z sv els) (kt : TabOk w) : Calls Tryd.prog 4 #[v] w fun e w' => e = .returned (.bool true) ∧ Below w.heap.size w w' := by
  obtain ⟨z, hz⟩ := hz
  by_cases hn : els.length < 13
  · refine stage1 hj hz hn fun w1 a1 u0 u1 hbel hd o0 o1 hrel => ?_
    have rl : ∀ (strs : List (List UInt8)) (ints : List Int), ∀ i, i < 13 → (baseW hj w1 u0 u1 strs ints).rho i = cellI (flatJ pre els post) i := fun strs ints i hi => behind_cell (by rw [len_flat hj]; exact hi)
    cases hok : okJ pre els post with
    | false =>
      obtain ⟨r2, hr⟩ := hrel (baseW hj w1 u0 u1 [] []) rfl rfl (rl _ _) rfl rfl
      exact bad_end hj hbel hd o0 o1 hn hok hr
    | true =>
      obtain ⟨r2, hr⟩ := hrel (baseW hj w1 u0 u1 [jumpT pre els post] (intsG pre els post)) rfl rfl (rl _ _) rfl rfl
      exact good_end hj hbel hd o0 o1 hok (kt.all fun k hk => hbel.block k (by have := kt.size; omega)) hr
  · have hL : LBig.Holds (baseJ hj []).rho (baseJ hj []).sig := (startJ_ok hj (ivI := []) (i0 := []) (i1 := []) trivial).lo (i := 9) (c := 13) (by
      have := rho9 hj ([] ++ [])
      show (13 : Int) ≤ (baseJ hj ([] ++ [])).rho 9
      rw [this]
      omega)
    letI bL : Base := (baseJ hj []).withK (LBig.know []) (Lf.ok hL (lensJ hj []))
    exact @calls_bool bL _ w (Nat.le_refl _) (fun _ _ => rfl) _ (@runsL_ok bL _ _ (@tyOf_ok bL Tryd.prog) _ fnOkN noneO (fun _ _ _ _ _ _ h => by cases h) mixedN _ (TabsOk.withK (tabsJ_ok hj _) _) _ (fun f F cd _ _ => Loops.ok_all (fun c => @LoopOk.none bL _ c) cd) 30 10) _ _ _ (@Lf.nAs_ok bL _ r0 hL _ _ (cellsJ_ok hj _)) _ big_run
end
end Go.Proofs.YtaamdiknefodgaaDoor.jumpTells
