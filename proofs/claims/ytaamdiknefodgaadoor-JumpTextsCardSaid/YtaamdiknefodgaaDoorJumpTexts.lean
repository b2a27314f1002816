/- JumpTexts: its runs, a class each. JumpTexts: its answer at any two jumps: true. -/
import Derived.Test.YtaamdiknefodgaaDoorJump7
import Derived.Test.YtaamdiknefodgaaDoorJump6
/-! JumpTexts: its runs, a class each. -/
namespace Go.Proofs.YtaamdiknefodgaaDoor.jumpTexts
open Go.RowKit Go.Proofs.YtaamdiknefodgaaDoor.Am
set_option maxRecDepth 100000
set_option linter.unusedVariables false
set_option linter.unusedSectionVars false
def tb : Tabs := ⟨[(0, 9), (1, 22)], [], []⟩
noncomputable def chk (L : Lf) (b1 b2 : Bool) : List Oracle := [alive06O, rowG 30 [.g (c1J.map L.nS)] (m8 b1), rowG 30 [.g (o2J.map L.nS)] (m8 b2)]
noncomputable def runB (K : Know) (L : Lf) (lib : List Oracle) : R := @runsL K (tyOf Tryd.prog) (fnOf Tryd.prog) (orcs lib) tb (fun _ _ _ _ => none) 30 10 7 [.g (c1J.map L.nS), .g (o2J.map L.nS)] ⟨[], 0⟩ 0
noncomputable def LB0 : Lf := (Lf.startB gs2 [] []).lo 9 13
noncomputable def LB1 : Lf := ((Lf.startB gs2 [] []).hi 9 12).lo 22 13
noncomputable def LB2 : Lf := ((Lf.startB gs2 [] []).hi 9 12).hi 22 12
theorem bad0 : tells true (runB (LB0.know []) LB0 [alive06O]) = true := by kernel_rfl
theorem bad1 : tells true (runB (LB1.know []) LB1 [alive06O]) = true := by kernel_rfl
theorem bad2 : (tells true (runB (LB2.know []) LB2 (chk LB2 false true)) && tells true (runB (LB2.know []) LB2 (chk LB2 false false)) && tells true (runB (LB2.know []) LB2 (chk LB2 true false))) = true := by kernel_rfl
/-! both valid: what the strings are -/
noncomputable def LG0 : Lf := ((Lf.startB gs2 [(0, 1000), (0, 1000), (0, 1000)] []).hi 9 12).hi 22 12
/-- the class: 0 a kind below a call's, 1 above, 2 a call -/
noncomputable def LG (c : Nat) : Lf := bif Nat.beq c 0 then LG0.hi 0 3 else bif Nat.beq c 1 then LG0.lo 0 5 else { onlyB LG0 0 4 with lt := [(28, 26)] }
def fcG (c : Nat) (e : Bool) : Facts := ⟨[([256 + 26], [256 + 27], e)], [], [], bif Nat.beq c 2 then [([256 + 26], .c 0, some (.x 28), [256 + 28])] else [], [], []⟩
noncomputable def rowsG (L : Lf) (c : Nat) (e : Bool) : List Oracle :=
  chk L true true ++ ([rowG 21 [.g (c1J.map L.nS)] (mS2 (.xs [256 + 26])), rowG 21 [.g (o2J.map L.nS)] (mS2 (.xs [256 + 27])), rowG 32 [.g (c1J.map L.nS), .g (o2J.map L.nS)] (V.s (.bool e))] ++
    (bif Nat.beq c 2 then [rowG 33 [.g (clL L 10 kPl)] (mS2 (.xs [256 + 28]))] else []))
noncomputable def goodG (c : Nat) (e : Bool) : Bool := tells true (runB ((LG c).knowF (strsB 26 3) (fcG c e)) (LG c) (rowsG (LG c) c e))
theorem good_runs : ([0, 1, 2].all fun c => goodG c true && goodG c false) = true := by kernel_rfl
end Go.Proofs.YtaamdiknefodgaaDoor.jumpTexts
/-! JumpTexts: its answer at any two jumps: true. -/
namespace Go.Proofs.YtaamdiknefodgaaDoor.jumpTexts
open Go.RowKit Go.Proofs.YtaamdiknefodgaaDoor.Am
set_option maxRecDepth 100000
set_option maxHeartbeats 1000000
set_option linter.unusedVariables false
set_option linter.unusedSectionVars false
section
variable {w : World} {v v' : Value} {pre pre' : List Value} {sv sv' : Value} {post post' : List Value} {els els' : List (List Value)} (hj : JumpIs w v pre sv post els) (hk : JumpIs w v' pre' sv' post' els')
include hj hk
theorem cells_eq {a b : List Value} {ks : List Kd} (ha : All2 Kd.ok ks a) (hb : All2 Kd.ok ks b) (hs : (ks.all fun k => match k with | .s => false | _ => true) = true) (h : ∀ i, i < ks.length → cellI a i = cellI b i) : a = b := by
  refine List.ext_getElem? fun i => ?_
  by_cases hi : i < ks.length
  · by_cases e : a[i]? = b[i]?
    · exact e
    · have hkf : ks[i]? = some ks[i] := List.getElem?_eq_getElem hi
      have hns : ks[i] ≠ .s := fun q => by
        have := List.all_eq_true.1 hs _ (List.getElem_mem hi)
        rw [q] at this
        cases this
      exact absurd (h i hi) (cell_ne hj hk ha hb hkf hns e)
  · have h1 := ha.len
    have h2 := hb.len
    rw [List.getElem?_eq_none (by omega), List.getElem?_eq_none (by omega)]
omit hk in
theorem pre_i64 {i : Nat} (hi : i < 9) (hk : kPre[i]? = some (.i .i64)) : I64 (cellI pre i) := by
  obtain ⟨x, hx, n, hn, h0, h1⟩ := okPre hj i hi hk
  subst hn
  unfold cellI
  rw [hx]
  exact ⟨h0, h1⟩
theorem op_ok {el : List Value} (hk : All2 Kd.ok opK el) (h : (okOpE 0).val el = true) : (opdAt el 0).Ok := by
  have h1 : I64 (cellI el 1) := by
    obtain ⟨x, hx, n, hn, h0, h1⟩ := All2.nth hk (n := 1) (x := .i .i64) rfl
    subst hn
    unfold cellI
    rw [hx]
    exact ⟨h0, h1⟩
  have h4 : 0 ≤ cellI el 4 := by
    obtain ⟨x, hx, n, hn, h0, h1⟩ := All2.nth hk (n := 4) (x := .i .u8) rfl
    subst hn
    unfold cellI
    rw [hx]
    exact h0
  exact op_val h h1 h4
theorem tells_of (h : okJ pre els post = true) : TellsJ pre els post := by
  have i6 := pre_i64 hj (i := 6) (by decide) rfl
  have i7 := pre_i64 hj (i := 7) (by decide) rfl
  have i8 := pre_i64 hj (i := 8) (by decide) rfl
  rcases isJ hj h with ⟨k, _, _, _, l, _⟩ | ⟨k, a, _, _, _, l, _⟩ | ⟨k, _, l, _⟩ | ⟨k, _, _, _, _, l, d, o⟩
  · exact ⟨by omega, i6, i7, i8, fun q => by omega, fun q => by omega, fun el he => by rw [l] at he; cases he⟩
  · exact ⟨by omega, i6, i7, i8, fun _ => op_ok hj hk ((hj.pre.drop 1).take 5) a, fun q => by omega, fun el he => by rw [l] at he; cases he⟩
  · exact ⟨by omega, i6, i7, i8, fun q => by omega, fun q => by omega, fun el he => by rw [l] at he; cases he⟩
  · refine ⟨by omega, i6, i7, i8, fun q => by omega, fun _ => pl_val d (post_f hj), fun el he => ?_⟩
    obtain ⟨i, hi⟩ := List.getElem?_of_mem he
    exact op_ok hj hk (hj.ops.kd i el hi) (List.all_eq_true.1 o el he)
omit hk in
theorem len9 (h : okJ pre els post = true) : els.length < 9 := by
  rcases isJ hj h with ⟨_, _, _, _, l, _⟩ | ⟨_, _, _, _, _, l, _⟩ | ⟨_, _, l, _⟩ | ⟨_, _, _, _, _, l, _, _⟩
  · rw [l]; decide
  · rw [l]; decide
  · rw [l]; decide
  · exact l
theorem op_cells {a b : List Value} (ha : All2 Kd.ok opK a) (hb : All2 Kd.ok opK b) (e : opdAt a 0 = opdAt b 0) : a = b := by
  obtain ⟨a0, a1, a2, a3, a4, rfl⟩ := opK_form ha
  obtain ⟨b0, b1, b2, b3, b4, rfl⟩ := opK_form hb
  have e : (⟨a0, a1, a2, decide ((if a3 then (1 : Int) else 0) = 1), a4⟩ : Opd) = ⟨b0, b1, b2, decide ((if b3 then (1 : Int) else 0) = 1), b4⟩ := e
  simp only [Opd.mk.injEq] at e
  obtain ⟨rfl, rfl, rfl, e3, rfl⟩ := e
  have : a3 = b3 := by cases a3 <;> cases b3 <;> first | rfl | exact absurd e3 (by decide)
  rw [this]
/-- the same text: the same jump -/
theorem all_eq (h : okJ pre els post = true) (h' : okJ pre' els' post' = true) (e : jumpT pre els post = jumpT pre' els' post') : pre = pre' ∧ post = post' ∧ els = els' := by
  obtain ⟨k0, k7, k2, k4⟩ := jump_one (tells_of hj hk h) (tells_of hk hj h') e
  have preE : (∀ i, i < 9 → cellI pre i = cellI pre' i) → pre = pre' := fun q => cells_eq hj hk hj.pre hk.pre rfl q
  have postE : (∀ i, i < 3 → cellI post i = cellI post' i) → post = post' := fun q => cells_eq hj hk hj.post hk.post rfl q
  rcases isJ hj h with ⟨k, a, _, e8, l, d⟩ | ⟨k, a, f, _, _, l, d⟩ | ⟨k, a, l, d⟩ | ⟨k, a, f, _, e8, l, d, o⟩ <;>
    rcases isJ hk h' with ⟨k', a', _, e8', l', d'⟩ | ⟨k', a', f', _, _, l', d'⟩ | ⟨k', a', l', d'⟩ | ⟨k', a', f', _, e8', l', d', o'⟩ <;> (try (exfalso; omega))
  · refine ⟨preE fun i hi => ?_, postE fun i hi => by rw [d i hi, d' i hi], by rw [l, l']⟩
    by_cases h0 : i = 0
    · subst h0; exact k0
    · by_cases h7 : i < 7
      · have q1 := a (i - 1) (by omega); have q2 := a' (i - 1) (by omega)
        rw [show 1 + (i - 1) = i by omega] at q1 q2
        rw [q1, q2]
      · by_cases h77 : i = 7
        · subst h77; exact k7 (.inl k)
        · obtain rfl : i = 8 := by omega
          rw [e8, e8']
  · obtain ⟨q8, qa⟩ := k2 k
    have hA := op_cells hj hk ((hj.pre.drop 1).take 5) ((hk.pre.drop 1).take 5) qa
    refine ⟨preE fun i hi => ?_, postE fun i hi => by rw [d i hi, d' i hi], by rw [l, l']⟩
    by_cases h0 : i = 0
    · subst h0; exact k0
    · by_cases h6 : i < 6
      · have q1 : cellI ((pre.drop 1).take 5) (i - 1) = cellI pre (1 + (i - 1)) := cellI_sub (by omega)
        have q2 : cellI ((pre'.drop 1).take 5) (i - 1) = cellI pre' (1 + (i - 1)) := cellI_sub (by omega)
        rw [show 1 + (i - 1) = i by omega] at q1 q2
        rw [← q1, ← q2, hA]
      · have : i = 6 ∨ i = 7 ∨ i = 8 := by omega
        rcases this with rfl | rfl | rfl
        · rw [f, f']
        · exact k7 (.inr (.inl k))
        · exact q8
  · refine ⟨preE fun i hi => ?_, postE fun i hi => by rw [d i hi, d' i hi], by rw [l, l']⟩
    by_cases h0 : i = 0
    · subst h0; exact k0
    · have q1 := a (i - 1) (by omega); have q2 := a' (i - 1) (by omega)
      rw [show 1 + (i - 1) = i by omega] at q1 q2
      rw [q1, q2]
  · obtain ⟨q6, ⟨p0, p1, p2⟩, qe⟩ := k4 k
    have b1 := post_b hj; have b2 := post_b hk
    refine ⟨preE fun i hi => ?_, postE fun i hi => ?_, ?_⟩
    · by_cases h0 : i = 0
      · subst h0; exact k0
      · by_cases h6 : i < 6
        · have q1 := a (i - 1) (by omega); have q2 := a' (i - 1) (by omega)
          rw [show 1 + (i - 1) = i by omega] at q1 q2
          rw [q1, q2]
        · have : i = 6 ∨ i = 7 ∨ i = 8 := by omega
          rcases this with rfl | rfl | rfl
          · exact q6
          · exact k7 (.inr (.inr k))
          · rw [e8, e8']
    · have : i = 0 ∨ i = 1 ∨ i = 2 := by omega
      rcases this with rfl | rfl | rfl
      · exact p0
      · rcases b1 with q1 | q1 <;> rcases b2 with q2 | q2 <;> rw [q1, q2] at p1 ⊢ <;> exact absurd p1 (by decide)
      · exact p2
    · have hl : els.length = els'.length := by have := congrArg List.length qe; simpa using this
      refine List.ext_getElem? fun i => ?_
      by_cases hi : i < els.length
      · have ha : els[i]? = some els[i] := List.getElem?_eq_getElem hi
        have hb : els'[i]? = some (els'[i]'(by omega)) := List.getElem?_eq_getElem _
        have q := congrArg (fun m => m[i]?) qe
        simp only [List.getElem?_map, ha, hb, Option.map_some, Option.some.injEq] at q
        rw [ha, hb, op_cells hj hk (hj.ops.kd i _ ha) (hk.ops.kd i _ hb) q]
      · rw [List.getElem?_eq_none (by omega), List.getElem?_eq_none (by omega)]
/-! the walk -/
theorem tabs_ok (b : Base) (hl : b.lst = (base2 hj hk).lst) (h9 : b.rho 9 = els.length) (h22 : b.rho 22 = els'.length) : @TabsOk b tb := by
  refine @TabsOk.mk b _ (fun l j h => ?_) (fun l i cs h => by cases h) fun i c j h => by cases h
  have h : (bif Nat.beq 0 l then some 9 else bif Nat.beq 1 l then some 22 else none) = some j := h
  rw [hl]
  cases hb : Nat.beq 0 l <;> rw [hb] at h <;> simp only [cond_true, cond_false] at h
  · cases hb1 : Nat.beq 1 l <;> rw [hb1] at h <;> cases h
    obtain rfl := Nat.eq_of_beq_eq_true hb1
    obtain ⟨A, c, e⟩ := hk.ops.sl
    exact ⟨A, els'.length, c, e, h22⟩
  · cases h
    obtain rfl := Nat.eq_of_beq_eq_true hb
    obtain ⟨A, c, e⟩ := hj.ops.sl
    exact ⟨A, els.length, c, e, h9⟩
theorem rv_oneR (L : Lf) : ((c1J.map L.nS).all S.oneR) = true ∧ ((o2J.map L.nS).all S.oneR) = true := by
  have up : ∀ {l : List S}, l.all S.one = true → l.all S.oneR = true := fun {l} h => List.all_eq_true.2 fun x hx => by
    have := List.all_eq_true.1 h x hx
    cases x <;> first | exact this | rfl
  have h1 := up (ones_T L kPre 0 rfl)
  have h2 := up (ones_T L kPost 10 rfl)
  have h3 := up (ones_T L kPre 13 rfl)
  have h4 := up (ones_T L kPost 23 rfl)
  constructor
  · unfold c1J
    rw [List.map_append, List.map_cons, List.all_append, List.all_cons, h1, h2]
    rfl
  · unfold o2J
    rw [List.map_append, List.map_cons, List.all_append, List.all_cons, h3, h4]
    rfl
theorem oneG {l : List S} (h : l.all S.oneR = true) : (([.g l] : List A).all A.oneR) = true := by
  show (l.all S.oneR && true) = true
  rw [h]; rfl
theorem run_law {b : Base} (hnb : b.nb = w.heap.size) (hg : b.g = fun k => w.heap[k]?) {L : Lf} (hL : L.Holds b.rho b.sig) {K : Know} (hK : KnowOk K b.rho b.sig) (d1 : @Desc b c1J (pre ++ sv :: post)) (d2 : @Desc b o2J (pre' ++ sv' :: post')) (ht : @TabsOk b tb) {lib : List Oracle} (hlib : @Sound (b.withK K hK) Tryd.prog (orcs lib)) (hr : tells true (runB K L lib) = true) :
    Calls Tryd.prog 7 #[v, v'] w fun e w' => e = .returned (.bool true) ∧ Below w.heap.size w w' := by
  letI bL : Base := b.withK K hK
  have hv : All2 (@VA bL r0) [.g (c1J.map L.nS), .g (o2J.map L.nS)] [v, v'] := ⟨⟨_, hj.v, @Lf.nSs_ok b L r0 hL _ _ (@Desc.vs b _ _ d1 r0)⟩, ⟨_, hk.v, @Lf.nSs_ok b L r0 hL _ _ (@Desc.vs b _ _ d2 r0)⟩, trivial⟩
  exact @calls_bool bL _ w (by show b.nb ≤ _; rw [hnb]; exact Nat.le_refl _) (fun k _ => by show _ = b.g k; rw [hg]) _ (@runsL_ok bL _ _ (@tyOf_ok bL Tryd.prog) _ fnOkN _ hlib mixedN _ (TabsOk.withK ht hK) _ (fun f F cd _ _ => Loops.ok_all (fun c => @LoopOk.none bL _ c) cd) 30 10) _ _ _ hv _ hr
theorem sound_chk (kt : TabOk w) {b : Base} (hnb : b.nb = w.heap.size) (hg : b.g = fun k => w.heap[k]?) {L : Lf} (hL : L.Holds b.rho b.sig) (d1 : @Desc b c1J (pre ++ sv :: post)) (d2 : @Desc b o2J (pre' ++ sv' :: post')) {K : Know} (hK : KnowOk K b.rho b.sig) {b1 b2 : Bool} (h1 : okJ pre els post = b1) (h2 : okJ pre' els' post' = b2) : ∀ O ∈ chk L b1 b2, @Sound (b.withK K hK) Tryd.prog O := by
  letI bL : Base := b.withK K hK
  intro O hO
  simp only [chk, List.mem_cons, List.not_mem_nil, or_false] at hO
  have frz : ∀ w' : World, (∀ k, k < bL.nb → w'.heap[k]? = bL.g k) → ∀ k, k < w.heap.size → w'.heap[k]? = w.heap[k]? := fun w' hw k hk => by
    have := hw k (by show k < b.nb; rw [hnb]; exact hk)
    rw [this]
    show b.g k = _
    rw [hg]
  obtain ⟨o1, o2⟩ := rv_oneR hj hk L
  rcases hO with rfl | rfl | rfl
  · exact sound_alive06 kt bL hnb hg
  · exact @sound_rowG bL _ _ ⟨_, Tryd.func30, by kernel_rfl, by kernel_rfl⟩ _ _ (oneG hj hk o1) [v] ⟨⟨_, hj.v, @Lf.nSs_ok b L r0 hL _ _ (@Desc.vs b _ _ d1 r0)⟩, trivial⟩ (v8 b1) (fun _ => rfl) fun w' hw => by
      rw [← h1]
      exact jP_tests w' v pre sv post els (hj.frz (frz w' hw))
  · exact @sound_rowG bL _ _ ⟨_, Tryd.func30, by kernel_rfl, by kernel_rfl⟩ _ _ (oneG hj hk o2) [v'] ⟨⟨_, hk.v, @Lf.nSs_ok b L r0 hL _ _ (@Desc.vs b _ _ d2 r0)⟩, trivial⟩ (v8 b2) (fun _ => rfl) fun w' hw => by
      rw [← h2]
      exact jP_tests w' v' pre' sv' post' els' (hk.frz (frz w' hw))
/-! both valid -/
def strsG (_ : JumpIs w v pre sv post els) (_ : JumpIs w v' pre' sv' post' els') : List (List UInt8) := [jumpT pre els post, jumpT pre' els' post', plTx post]
@[reducible] noncomputable def baseG : Base :=
  { Know.nought with nb := w.heap.size, g := fun k => w.heap[k]?, rho := rhoOf (behind (flat2 hj hk) (strsG hj hk) []), sig := sigOf (behind (flat2 hj hk) (strsG hj hk) []), ok := KnowOk.nought _ _, lst := (base2 hj hk).lst }
theorem rhoG_a {i : Nat} (h : i < 13) : (baseG hj hk).rho i = cellI (flatJ pre els post) i := by
  show rhoOf _ _ = _
  rw [behind_cell (by rw [flat2_len]; omega)]
  exact cellI_lt (by rw [len_flat hj]; exact h)
theorem rhoG_b {i : Nat} (h : i < 13) : (baseG hj hk).rho (13 + i) = cellI (flatJ pre' els' post') i := by
  show rhoOf _ _ = _
  rw [behind_cell (by rw [flat2_len]; omega)]
  unfold flat2
  rw [cellI_ge (len_flat hj), List.append_nil]
theorem descG_1 : @Desc (baseG hj hk) c1J (pre ++ sv :: post) := by
  refine All2.app (desc_T _ rfl hj.pre fun i hi => ?_) ⟨fun r => ?_, desc_T _ rfl hj.post fun i hi => ?_⟩
  · have := len_pre hj
    rw [Nat.zero_add, rhoG_a hj hk (by omega), fl_pre hj (by omega)]
  · obtain ⟨A, c, e⟩ := hj.ops.sl
    exact ⟨A, els.length, c, e, e⟩
  · have := len_post hj
    rw [rhoG_a hj hk (by omega), fl_post hj]
theorem descG_2 : @Desc (baseG hj hk) o2J (pre' ++ sv' :: post') := by
  refine All2.app (desc_T _ rfl hk.pre fun i hi => ?_) ⟨fun r => ?_, desc_T _ rfl hk.post fun i hi => ?_⟩
  · have := len_pre hk
    rw [rhoG_b hj hk (by omega), fl_pre hk (by omega)]
  · obtain ⟨A, c, e⟩ := hk.ops.sl
    exact ⟨A, els'.length, c, e, e⟩
  · have := len_post hk
    rw [show 23 + i = 13 + (10 + i) by omega, rhoG_b hj hk (by omega), fl_post hk]
theorem walk_good (kt : TabOk w) (h : okJ pre els post = true) (h' : okJ pre' els' post' = true) : Calls Tryd.prog 7 #[v, v'] w fun e w' => e = .returned (.bool true) ∧ Below w.heap.size w w' := by
  have n1 := len9 hj h; have n2 := len9 hk h'
  have s26 : (baseG hj hk).sig 26 = jumpT pre els post := behind_str (n := 26) (flat2_len hj hk) (j := 0) rfl
  have s27 : (baseG hj hk).sig 27 = jumpT pre' els' post' := behind_str (n := 26) (flat2_len hj hk) (j := 1) rfl
  have s28 : (baseG hj hk).sig 28 = plTx post := behind_str (n := 26) (flat2_len hj hk) (j := 2) rfl
  have l26 : (baseG hj hk).rho 26 = (jumpT pre els post).length := behind_len (n := 26) (flat2_len hj hk) (j := 0) rfl
  have l28 : (baseG hj hk).rho 28 = (plTx post).length := behind_len (n := 26) (flat2_len hj hk) (j := 2) rfl
  have lens : Lens (strsB 26 3) (baseG hj hk).rho (baseG hj hk).sig := lens_behind (gps2 hj hk) rfl (flat2_len hj hk) rfl
  have r9 : (baseG hj hk).rho 9 = els.length := (rhoG_a hj hk (by decide)).trans (cell_len hj)
  have r22 : (baseG hj hk).rho 22 = els'.length := (rhoG_b hj hk (i := 9) (by decide)).trans (cell_len hk)
  have r0' : (baseG hj hk).rho 0 = cellI pre 0 := (rhoG_a hj hk (by decide)).trans (fl_pre hj (by decide))
  have hL0 : LG0.Holds (baseG hj hk).rho (baseG hj hk).sig := by
    have m1 := jumpT_len (pre := pre) (post := post) n1
    have m2 := jumpT_len (pre := pre') (post := post') n2
    have m3 : (plTx post).length ≤ 25 := placeT_most _ _ _
    have hS : All2 (fun p (l : List UInt8) => p.1 ≤ (l.length : Int) ∧ (l.length : Int) ≤ p.2) [((0 : Int), (1000 : Int)), (0, 1000), (0, 1000)] (strsG hj hk) := by
      refine ⟨⟨?_, ?_⟩, ⟨?_, ?_⟩, ⟨?_, ?_⟩, trivial⟩ <;> (simp only []; omega)
    exact (((Lf.startB_some (gps2 hj hk) hS (ivI := []) (ints := []) (i0 := []) (i1 := []) rfl trivial).hi (i := 9) (c := 12) (by rw [show rhoOf (behind (flat2 hj hk) (strsG hj hk) []) 9 = els.length from r9]; omega)).hi (i := 22) (c := 12) (by rw [show rhoOf (behind (flat2 hj hk) (strsG hj hk) []) 22 = els'.length from r22]; omega))
  -- the class
  have hpl : cellI pre 0 = 4 → jumpT pre els post = plTx post ++ (fB ++ (decT (cellI pre 6) ++ (openB ++ (joinK commaB (els.map opTx) ++ (closeB ++ decT (cellI pre 7)))))) := fun k => by
    unfold jumpT
    rw [k]
    rfl
  obtain ⟨c, hc, hL, hcall⟩ : ∃ c : Nat, c ∈ [0, 1, 2] ∧ (LG c).Holds (baseG hj hk).rho (baseG hj hk).sig ∧ (c = 2 → cellI pre 0 = 4) := by
    by_cases h4 : cellI pre 0 = 4
    · refine ⟨2, by simp, ?_, fun _ => h4⟩
      have h2 := Lf.Holds.onlyB hj hL0 (r0'.trans h4)
      refine ⟨h2.iv, h2.ne, fun i j hij => ?_, h2.to, h2.st, h2.sn, h2.cf⟩
      have : (i, j) ∈ [((28 : Nat), (26 : Nat))] := hij
      simp only [List.mem_singleton, Prod.mk.injEq] at this
      obtain ⟨rfl, rfl⟩ := this
      rw [l26, l28, hpl h4, List.length_append, List.length_append]
      have : fB.length = 5 := rfl
      omega
    · by_cases h3 : cellI pre 0 ≤ 3
      · exact ⟨0, by simp, hL0.hi (i := 0) (c := 3) (by rw [r0']; exact h3), fun q => by cases q⟩
      · exact ⟨1, by simp, hL0.lo (i := 0) (c := 5) (by rw [r0']; omega), fun q => by cases q⟩
  obtain ⟨e, he⟩ : ∃ e : Bool, (e = true ↔ jumpT pre els post = jumpT pre' els' post') := ⟨decide (jumpT pre els post = jumpT pre' els' post'), decide_eq_true_iff⟩
  have hF : FactsOk (fcG c e) (baseG hj hk).rho (baseG hj hk).sig := by
    refine ⟨fun a b r m => ?_, fun _ _ _ m => (by cases m), fun _ _ _ m => (by cases m), fun l a b m hm => ?_, fun _ _ _ m => (by cases m), fun _ _ _ m => (by cases m)⟩
    · have m : (a, b, r) ∈ [([256 + 26], [256 + 27], e)] := m
      simp only [List.mem_singleton, Prod.mk.injEq] at m
      obtain ⟨rfl, rfl, rfl⟩ := m
      letI : Base := baseG hj hk
      rw [strX_one, strX_one, s26, s27, Bool.eq_iff_iff, decide_eq_true_eq]
      exact he.symm
    · have hm : (l, a, b, m) ∈ (bif Nat.beq c 2 then [([256 + 26], N.c 0, some (N.x 28), [256 + 28])] else []) := hm
      cases h2 : Nat.beq c 2 with
      | false => rw [h2] at hm; cases hm
      | true =>
        rw [h2] at hm
        simp only [cond_true, List.mem_singleton, Prod.mk.injEq] at hm
        obtain ⟨rfl, rfl, rfl, rfl⟩ := hm
        have k4 := hcall (Nat.eq_of_beq_eq_true h2)
        letI : Base := baseG hj hk
        rw [strX_one, strX_one, s26, s28]
        refine ⟨0, (plTx post).length, rfl, l28, Nat.zero_le _, ?_, ?_⟩
        · rw [hpl k4, List.length_append]; omega
        · rw [hpl k4, List.take_left, List.drop_zero]
  have hK := Lf.okF hL lens hF
  have hrun : goodG c e = true := by
    have := List.all_eq_true.1 good_runs c hc
    simp only [Bool.and_eq_true] at this
    cases e
    · exact this.2
    · exact this.1
  refine run_law hj hk (b := baseG hj hk) rfl rfl hL hK (descG_1 hj hk) (descG_2 hj hk) (tabs_ok hj hk _ rfl r9 r22) ?_ hrun
  letI bL : Base := (baseG hj hk).withK _ hK
  have frz : ∀ w' : World, (∀ k, k < bL.nb → w'.heap[k]? = bL.g k) → (∀ k, k < w.heap.size → w'.heap[k]? = w.heap[k]?) ∧ TabOk w' := fun w' hw => ⟨fun k hk => hw k hk, kt.all fun k hk => hw k (by have := kt.size; show k < w.heap.size; omega)⟩
  obtain ⟨o1, o2⟩ := rv_oneR hj hk (LG c)
  have a1 : All2 (@VA bL r0) [.g (c1J.map (LG c).nS)] [v] := ⟨⟨_, hj.v, @Lf.nSs_ok (baseG hj hk) (LG c) r0 hL _ _ (@Desc.vs (baseG hj hk) _ _ (descG_1 hj hk) r0)⟩, trivial⟩
  have a2 : All2 (@VA bL r0) [.g (o2J.map (LG c).nS)] [v'] := ⟨⟨_, hk.v, @Lf.nSs_ok (baseG hj hk) (LG c) r0 hL _ _ (@Desc.vs (baseG hj hk) _ _ (descG_2 hj hk) r0)⟩, trivial⟩
  have vv2 : ∀ (s : Nat) (l : List UInt8), bL.sig s = l → ∀ r, @VV bL r (mS2 (.xs [256 + s])) (vS2 l) := fun s l h r => by
    refine ⟨[_, _], rfl, ?_, rfl, trivial⟩
    show Value.string _ = Value.string ⟨(strX bL.sig [256 + s]).toArray⟩
    rw [@strX_one, h]
  refine @sound_orcs bL _ _ fun O hO => ?_
  unfold rowsG at hO
  rcases List.mem_append.1 hO with hO | hO
  · exact sound_chk hj hk kt (b := baseG hj hk) rfl rfl hL (descG_1 hj hk) (descG_2 hj hk) hK h h' O hO
  rcases List.mem_append.1 hO with hO | hO
  · simp only [List.mem_cons, List.not_mem_nil, or_false] at hO
    rcases hO with rfl | rfl | rfl
    · exact @sound_rowG bL _ _ ⟨_, Tryd.func21, by kernel_rfl, by kernel_rfl⟩ _ _ (oneG hj hk o1) _ a1 _ (vv2 26 _ s26) fun w' hw => jTextA w' v pre sv post els (frz w' hw).2 (hj.frz (frz w' hw).1) h
    · exact @sound_rowG bL _ _ ⟨_, Tryd.func21, by kernel_rfl, by kernel_rfl⟩ _ _ (oneG hj hk o2) _ a2 _ (vv2 27 _ s27) fun w' hw => jTextA w' v' pre' sv' post' els' (frz w' hw).2 (hk.frz (frz w' hw).1) h'
    · refine @sound_rowG bL _ _ ⟨_, Tryd.func32, by kernel_rfl, by kernel_rfl⟩ _ _ ?_ [v, v'] ⟨a1.1, a2.1, trivial⟩ (.bool e) (fun _ => rfl) fun w' hw => ?_
      · show ((c1J.map (LG c).nS).all S.oneR && ((o2J.map (LG c).nS).all S.oneR && true)) = true
        rw [o1, o2]
        rfl
      · have hj' := hj.frz (frz w' hw).1
        have hk' := hk.frz (frz w' hw).1
        cases e with
        | true =>
          obtain ⟨e1, e2, e3⟩ := all_eq hj hk h h' (he.1 rfl)
          exact same_args hj' hk' e1 e2 (.inl ⟨rfl, e3, by omega⟩)
        | false =>
          have hn : ¬ (pre = pre' ∧ post = post' ∧ els = els') := fun ⟨e1, e2, e3⟩ => by
            have : false = true := he.2 (by rw [e1, e2, e3])
            cases this
          by_cases e1 : pre = pre'
          · by_cases e2 : post = post'
            · exact same_args hj' hk' e1 e2 (.inr ⟨rfl, fun e3 => hn ⟨e1, e2, e3⟩, n1⟩)
            · exact same_flds hj' hk' (.inr e2)
          · exact same_flds hj' hk' (.inl e1)
  · cases h2 : Nat.beq c 2 with
    | false => rw [h2] at hO; cases hO
    | true =>
      rw [h2] at hO
      obtain rfl := List.mem_singleton.1 hO
      have k4 := hcall (Nat.eq_of_beq_eq_true h2)
      have hd : (okPlE 0).val post = true := by
        rcases isJ hj h with ⟨k, _⟩ | ⟨k, _⟩ | ⟨k, _⟩ | ⟨_, _, _, _, _, _, d, _⟩
        · omega
        · omega
        · omega
        · exact d
      have cl : All2 (@VS bL r0) (clL (LG c) 10 kPl) post := @Lf.nSs_ok (baseG hj hk) (LG c) r0 hL _ _ (@Desc.vs (baseG hj hk) _ _ (desc_T (baseG hj hk) (o := 10) rfl hj.post fun i hi => by
        have := len_post hj
        rw [rhoG_a hj hk (by omega), fl_post hj]) r0)
      have oneR : ∀ (l : List S), l.all S.one = true → (([.g l] : List A).all A.oneR) = true := fun l h => by
        show (l.all S.oneR && true) = true
        rw [Bool.and_true]
        refine List.all_eq_true.2 fun x hx => ?_
        have := List.all_eq_true.1 h x hx
        cases x <;> first | exact this | rfl
      exact @sound_rowG bL _ _ ⟨_, Tryd.func33, by kernel_rfl, by kernel_rfl⟩ _ _ (oneR _ (ones_T _ kPl 10 rfl)) [.agg post.toArray] ⟨⟨_, rfl, cl⟩, trivial⟩ _ (vv2 28 _ s28) fun w' hw => tplA_texts _ hj.post hd w' (frz w' hw).2
theorem walk (kt : TabOk w) : Calls Tryd.prog 7 #[v, v'] w fun e w' => e = .returned (.bool true) ∧ Below w.heap.size w w' := by
  have s2 := start2 hj hk
  have r9 : (base2 hj hk).rho 9 = els.length := (rho2_a hj hk (by decide)).trans (cell_len hj)
  have r22 : (base2 hj hk).rho 22 = els'.length := (rho2_b hj hk (i := 9) (by decide)).trans (cell_len hk)
  have ht := tabs_ok hj hk (base2 hj hk) rfl r9 r22
  have alive : ∀ {K : Know} (hK : KnowOk K (base2 hj hk).rho (base2 hj hk).sig), @Sound ((base2 hj hk).withK K hK) Tryd.prog (orcs [alive06O]) := fun hK => @sound_orcs ((base2 hj hk).withK _ hK) _ _ fun O hO => by
    obtain rfl := List.mem_singleton.1 hO
    exact sound_alive06 kt _ rfl rfl
  by_cases g1 : 12 < els.length
  · have hL : LB0.Holds (base2 hj hk).rho (base2 hj hk).sig := s2.lo (i := 9) (c := 13) (by rw [r9]; omega)
    exact run_law hj hk rfl rfl hL (Lf.ok hL (lens2 hj hk)) (desc_c1 hj hk) (desc_o2 hj hk) ht (alive _) bad0
  by_cases g2 : 12 < els'.length
  · have hL : LB1.Holds (base2 hj hk).rho (base2 hj hk).sig := (s2.hi (i := 9) (c := 12) (by rw [r9]; omega)).lo (i := 22) (c := 13) (by rw [r22]; omega)
    exact run_law hj hk rfl rfl hL (Lf.ok hL (lens2 hj hk)) (desc_c1 hj hk) (desc_o2 hj hk) ht (alive _) bad1
  have hL : LB2.Holds (base2 hj hk).rho (base2 hj hk).sig := (s2.hi (i := 9) (c := 12) (by rw [r9]; omega)).hi (i := 22) (c := 12) (by rw [r22]; omega)
  have hb := bad2
  simp only [Bool.and_eq_true] at hb
  have fin : ∀ {b1 b2 : Bool}, okJ pre els post = b1 → okJ pre' els' post' = b2 → tells true (runB (LB2.know []) LB2 (chk LB2 b1 b2)) = true → Calls Tryd.prog 7 #[v, v'] w fun e w' => e = .returned (.bool true) ∧ Below w.heap.size w w' := fun {b1 b2} h1 h2 hr =>
    run_law hj hk rfl rfl hL (Lf.ok hL (lens2 hj hk)) (desc_c1 hj hk) (desc_o2 hj hk) ht (@sound_orcs ((base2 hj hk).withK _ _) _ _ (sound_chk hj hk kt rfl rfl hL (desc_c1 hj hk) (desc_o2 hj hk) _ h1 h2)) hr
  cases h1 : okJ pre els post with
  | false =>
    cases h2 : okJ pre' els' post' with
    | false => exact fin h1 h2 hb.1.2
    | true => exact fin h1 h2 hb.1.1
  | true =>
    cases h2 : okJ pre' els' post' with
    | false => exact fin h1 h2 hb.2
    | true => exact walk_good hj hk kt h1 h2
end
end Go.Proofs.YtaamdiknefodgaaDoor.jumpTexts
