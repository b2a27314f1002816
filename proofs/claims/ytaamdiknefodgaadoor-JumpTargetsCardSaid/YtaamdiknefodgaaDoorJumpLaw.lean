/- A law over one jump: its answer at any jump, out of its cases. -/
import Derived.Test.YtaamdiknefodgaaDoorJumpIs
import Derived.Test.YtaamdiknefodgaaDoorLb
namespace Go.Proofs.YtaamdiknefodgaaDoor.Am
open Go.RowKit
set_option maxRecDepth 100000

def gsJ : List Gp := [(true, kPre ++ .i .i64 :: kPost), (false, [.i .i64])]
/-- the number behind the list's place is its length; the last one says whether all operands are valid -/
noncomputable def startJ : Lf := (((Lf.start gsJ).lo 9 0).lo 13 0).hi 13 1
def cellsJ : List S := cellsT 0 kPre ++ .rv 0 :: cellsT 10 kPost
def tbJ : Tabs := ⟨[(0, 9)], [], []⟩
noncomputable def loopsGood : FuncId → Loops := rowsL [(22, rowL 17 ⟨0, 0, 0⟩ (thIn 9 0) (hdC 1) (.exit 1) okC), (64, rowL 16 ⟨0, 0, 0⟩ (thIn 9 0) (hdV 1) (.exit 1) okV)]
noncomputable def loopsBad : FuncId → Loops := rowsL [(22, rowL 17 ⟨0, 0, 0⟩ (thIn 9 0) (hdC 1) .ret badC), (64, rowL 16 ⟨0, 0, 0⟩ (thIn 9 0) (hdV 1) .ret badV)]
noncomputable def loopsNone : FuncId → Loops := fun _ _ _ _ => none
noncomputable def loopsJ (L : Lf) : FuncId → Loops := Option.rec loopsNone (fun p => bif decide (p = (1, 1)) then loopsGood else bif decide (p = (0, 0)) then loopsBad else loopsNone) (nth L.iv 13)
noncomputable def runJ (F : FuncId) (more : Oracle) (L : Lf) : R := @runsL (L.know []) (tyOf Tryd.prog) (fnOf Tryd.prog) more tbJ (loopsJ L) 100 25 F (([.g cellsJ] : List A).map L.nA) ⟨[], 0⟩ 0

theorem okC_row {bo : Base} {x : X} {s1 : St} (h : @LoopOk bo Tryd.prog (rowL 17 ⟨0, 0, 0⟩ (thIn 9 0) (hdC 1) x s1) codeC) (F : Func) (c : Code) (hF : Tryd.prog.funcs[22]? = some F) (hc : F.body = some c) : Loops.ok (@LoopOk bo Tryd.prog (rowL 17 ⟨0, 0, 0⟩ (thIn 9 0) (hdC 1) x s1)) c := by
  obtain rfl : Tryd.f22 = F := Option.some.inj (Tryd.func22.symm.trans hF)
  have ht : (loopsIn ((Tryd.f22.body).getD .skip)).map Code.tag = [17] := by kernel_rfl
  rw [hc] at ht
  have ht : (loopsIn c).map Code.tag = [17] := ht
  exact Loops.ok_row hc (i := 0) (by rw [ht]; decide) (by have := congrArg List.length ht; simp at this; omega) (by kernel_rfl) h
theorem okV_row {bo : Base} {x : X} {s1 : St} (h : @LoopOk bo Tryd.prog (rowL 16 ⟨0, 0, 0⟩ (thIn 9 0) (hdV 1) x s1) codeV) (F : Func) (c : Code) (hF : Tryd.prog.funcs[64]? = some F) (hc : F.body = some c) : Loops.ok (@LoopOk bo Tryd.prog (rowL 16 ⟨0, 0, 0⟩ (thIn 9 0) (hdV 1) x s1)) c := by
  obtain rfl : Tryd.f64 = F := Option.some.inj (Tryd.func64.symm.trans hF)
  have ht : (loopsIn ((Tryd.f64.body).getD .skip)).map Code.tag = [16] := by kernel_rfl
  rw [hc] at ht
  have ht : (loopsIn c).map Code.tag = [16] := ht
  exact Loops.ok_row hc (i := 0) (by rw [ht]; decide) (by have := congrArg List.length ht; simp at this; omega) (by kernel_rfl) h
theorem first_bad (cs : Nat → Int) : ∀ n, (∀ i, i < n → cs i = 0) ∨ ∃ N, N < n ∧ (∀ i, i < N → cs i = 0) ∧ cs N ≠ 0
  | 0 => .inl fun _ h => absurd h (Nat.not_lt_zero _)
  | n + 1 => by
    rcases first_bad cs n with h | ⟨N, h1, h2⟩
    · by_cases hc : cs n = 0
      · exact .inl fun i hi => by
          rcases Nat.lt_or_ge i n with h' | h'
          · exact h i h'
          · obtain rfl : i = n := by omega
            exact hc
      · exact .inr ⟨n, by omega, h, hc⟩
    · exact .inr ⟨N, by omega, h2⟩
theorem calV : Callable Tryd.prog 62 := ⟨_, Tryd.func62, by kernel_rfl, by kernel_rfl⟩
theorem calR : Callable Tryd.prog 93 := ⟨_, Tryd.func93, by kernel_rfl, by kernel_rfl⟩
theorem loops_good {w : World} {sv : Value} {els : List (List Value)} (ho : Ops w sv els) {cs : Nat → Int} (hs : ∀ i el, els[i]? = some el → Says 62 el (cs i)) (hs' : ∀ i el, els[i]? = some el → Says 93 el (cs i))
    {bo : Base} (hnb : bo.nb = w.heap.size) (hg : bo.g = fun b => w.heap[b]?) (hl : bo.rho 9 = els.length) (hv : (bo.lst 0).v = sv) (h0 : ∀ i, i < els.length → cs i = 0) :
    ∀ f F c, Tryd.prog.funcs[f]? = some F → F.body = some c → Loops.ok (@LoopOk bo Tryd.prog (loopsGood f)) c := by
  refine rowsL_ok _ fun p hp => ?_
  simp only [List.mem_cons, List.mem_nil_iff, or_false] at hp
  rcases hp with rfl | rfl
  · exact okC_row (loop06 (x := .exit 1) (s1 := okC) calV ho hs h0 hnb hg hl hv rfl stepC_run endC_fit (fun h => by cases h) rfl (.inl ⟨rfl, lastC_run⟩) 17)
  · exact okV_row (loop06 (x := .exit 1) (s1 := okV) calR ho hs' h0 hnb hg hl hv rfl stepV_run endV_fit (fun h => by cases h) rfl (.inl ⟨rfl, lastV_run⟩) 16)
theorem loops_bad {w : World} {sv : Value} {els : List (List Value)} (ho : Ops w sv els) {cs : Nat → Int} (hs : ∀ i el, els[i]? = some el → Says 62 el (cs i)) (hs' : ∀ i el, els[i]? = some el → Says 93 el (cs i))
    {bo : Base} (hnb : bo.nb = w.heap.size) (hg : bo.g = fun b => w.heap[b]?) (hl : bo.rho 9 = els.length) (hv : (bo.lst 0).v = sv) {N : Nat} (hN : N < els.length) (h0 : ∀ i, i < N → cs i = 0) (h8 : cs N = 8) :
    ∀ f F c, Tryd.prog.funcs[f]? = some F → F.body = some c → Loops.ok (@LoopOk bo Tryd.prog (loopsBad f)) c := by
  refine rowsL_ok _ fun p hp => ?_
  simp only [List.mem_cons, List.mem_nil_iff, or_false] at hp
  rcases hp with rfl | rfl
  · exact okC_row (loop06 (x := .ret) (s1 := badC) calV ho hs h0 hnb hg hl hv rfl stepC_run endC_fit (fun h => by cases h) rfl (.inr ⟨hN, h8, badC_run⟩) 17)
  · exact okV_row (loop06 (x := .ret) (s1 := badV) calR ho hs' h0 hnb hg hl hv rfl stepV_run endV_fit (fun h => by cases h) rfl (.inr ⟨hN, h8, badV_run⟩) 16)

theorem law_jump {F : FuncId} {more : Lf → Oracle} {sp : Sp} (hrun : ((sp.leaves startJ).all fun L => tells true (runJ F (more L) L)) = true) {w : World} (hmore : ∀ (b : Base) (L : Lf), b.nb = w.heap.size → b.g = (fun k => w.heap[k]?) → L.Holds b.rho b.sig → @Sound b Tryd.prog (more L))
    {v : Value} {pre : List Value} {sv : Value} {post : List Value} {els : List (List Value)} (hj : JumpIs w v pre sv post els) : Calls Tryd.prog F #[v] w fun e w' => e = .returned (.bool true) ∧ Below w.heap.size w w' := by
  have hch : ∀ i : Nat, ∃ n : Int, ∀ el : List Value, els[i]? = some el → (n = 0 ∨ n = 8) ∧ Says 62 el n ∧ Says 93 el n := fun i => by
    cases he : els[i]? with
    | none => exact ⟨0, fun el h => by cases h⟩
    | some el =>
      obtain ⟨n, h⟩ := chk_all (hj.ops.kd i el he)
      exact ⟨n, fun el' h' => by cases h'; exact h⟩
  obtain ⟨cs, hcs⟩ := Classical.axiomOfChoice hch
  have hs : ∀ i el, els[i]? = some el → Says 62 el (cs i) := fun i el h => (hcs i el h).2.1
  have hs' : ∀ i el, els[i]? = some el → Says 93 el (cs i) := fun i el h => (hcs i el h).2.2
  have hq : ∃ q : Int, (q = 1 ∧ ∀ i, i < els.length → cs i = 0) ∨ (q = 0 ∧ ∃ N, N < els.length ∧ (∀ i, i < N → cs i = 0) ∧ cs N = 8) := by
    rcases first_bad cs els.length with h | ⟨N, h1, h2, h3⟩
    · exact ⟨1, .inl ⟨rfl, h⟩⟩
    · have h8 : cs N = 8 := by
        rcases (hcs N _ (List.getElem?_eq_getElem h1)).1 with h | h
        · exact absurd h h3
        · exact h
      exact ⟨0, .inr ⟨rfl, N, h1, h2, h8⟩⟩
  obtain ⟨q, hq⟩ := hq
  have hq01 : 0 ≤ q ∧ q ≤ 1 := by rcases hq with ⟨rfl, _⟩ | ⟨rfl, _⟩ <;> omega
  have hlenP : pre.length = 9 := by have := hj.pre.len; simp [kPre] at this; omega
  let vals : List Value := (pre ++ Value.int .i64 els.length :: post) ++ [.int .i64 q]
  have hmost := hj.ops.most
  have hgp : Gps gsJ [.agg (pre ++ Value.int .i64 els.length :: post).toArray, .int .i64 q] vals := by
    refine ⟨pre ++ Value.int .i64 els.length :: post, [.int .i64 q], rfl, ⟨?_, .inl ⟨rfl, rfl⟩⟩, [.int .i64 q], [], rfl, ⟨⟨⟨q, rfl, ?_, ?_⟩, trivial⟩, .inr ⟨rfl, rfl⟩⟩, rfl⟩
    · exact hj.pre.app ⟨⟨_, rfl, by show (-9223372036854775808 : Int) ≤ _; omega, hmost⟩, hj.post⟩
    · show (-9223372036854775808 : Int) ≤ q; omega
    · show q ≤ 9223372036854775807; omega
  have hr9 : rhoOf vals 9 = els.length := by
    have := rhoOf_at pre (post ++ [.int .i64 q]) (.int .i64 els.length)
    rw [hlenP] at this
    simpa [vals, codeI] using this
  have hr13 : rhoOf vals 13 = q := by
    have hl13 : (pre ++ Value.int .i64 els.length :: post).length = 13 := by
      have := hj.post.len
      simp [kPost] at this
      simp; omega
    have := rhoOf_at (pre ++ Value.int .i64 els.length :: post) [] (.int .i64 q)
    rw [hl13] at this
    simpa [vals, codeI] using this
  let b : Base := { Know.nought with nb := w.heap.size, g := fun k => w.heap[k]?, rho := rhoOf vals, sig := sigOf vals, ok := KnowOk.nought _ _, lst := fun _ => ⟨sv, els⟩ }
  have h0 : startJ.Holds (rhoOf vals) (sigOf vals) := (((Lf.start_ok hgp).lo (i := 9) (c := 0) (by omega)).lo (i := 13) (c := 0) (by omega)).hi (i := 13) (c := 1) (by omega)
  have hl : Lens [] (rhoOf vals) (sigOf vals) := lens_ok hgp
  have ha : All2 (@VA b r0) [.g cellsJ] [v] := by
    letI : Base := b
    refine ⟨⟨pre ++ sv :: post, hj.v, ?_⟩, trivial⟩
    refine All2.app ?_ ⟨?_, ?_⟩
    · exact cellsT_ok (pre := []) (us := pre) (post := Value.int .i64 els.length :: post ++ [.int .i64 q]) rfl rfl (by simp [vals]) hj.pre
    · obtain ⟨A, c, e⟩ := hj.ops.sl
      exact ⟨A, els.length, c, e, e⟩
    · have := cellsT_ok (r := r0) (cs := vals) (pre := pre ++ [Value.int .i64 els.length]) (us := post) (post := [.int .i64 q]) rfl rfl (by simp [vals]) hj.post
      rw [List.length_append, hlenP] at this
      exact this
  refine law_leaves b (Nat.le_refl _) (fun _ _ => rfl) (ss := []) h0 hl (fun L f => runJ f (more L) L |> fun _ => @runsL (L.know []) (tyOf Tryd.prog) (fnOf Tryd.prog) (more L) tbJ (loopsJ L) 100 25 f) (fun L h => ?_) ha hrun
  let bL : Base := b.withK (L.know []) (Lf.ok h hl)
  have htb : @TabsOk bL tbJ := by
    letI : Base := bL
    refine ⟨fun l j hj' => ?_, fun l i cs hj' => (by cases hj'), fun i c j hj' => (by cases hj')⟩
    have hj' : (bif Nat.beq 0 l then some 9 else none) = some j := hj'
    cases hb : Nat.beq 0 l <;> rw [hb] at hj' <;> cases hj'
    obtain ⟨A, c, e⟩ := hj.ops.sl
    exact ⟨A, els.length, c, e, hr9⟩
  have hloops : ∀ f F c, Tryd.prog.funcs[f]? = some F → F.body = some c → Loops.ok (@LoopOk bL Tryd.prog (loopsJ L f)) c := by
    intro f F c hF hc
    unfold loopsJ
    cases hp : nth L.iv 13 with
    | none => exact Loops.ok_all (fun c => @LoopOk.none bL _ c) c
    | some p =>
      have hiv : p.1 ≤ rhoOf vals 13 ∧ rhoOf vals 13 ≤ p.2 := h.iv 13 p hp
      show Loops.ok (@LoopOk bL Tryd.prog ((bif decide (p = (1, 1)) then loopsGood else bif decide (p = (0, 0)) then loopsBad else loopsNone) f)) c
      cases h1 : decide (p = (1, 1)) with
      | true =>
        simp only [decide_eq_true_eq] at h1
        subst h1
        rcases hq with ⟨rfl, hq⟩ | ⟨rfl, hq⟩
        · exact loops_good hj.ops hs hs' (bo := bL) rfl rfl hr9 rfl hq f F c hF hc
        · simp only at hiv; omega
      | false =>
        cases h2 : decide (p = (0, 0)) with
        | true =>
          simp only [decide_eq_true_eq] at h2
          subst h2
          rcases hq with ⟨rfl, hq⟩ | ⟨rfl, N, hN, k0, k8⟩
          · simp only at hiv; omega
          · exact loops_bad hj.ops hs hs' (bo := bL) rfl rfl hr9 rfl hN k0 k8 f F c hF hc
        | false => exact Loops.ok_all (fun c => @LoopOk.none bL _ c) c
  exact @runsL_ok bL _ _ (@tyOf_ok bL Tryd.prog) _ fnOk _ (hmore bL L rfl rfl h) mixed _ htb _ hloops 100 25
end Go.Proofs.YtaamdiknefodgaaDoor.Am
