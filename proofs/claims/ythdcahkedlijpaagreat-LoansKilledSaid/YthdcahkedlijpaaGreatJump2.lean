/- Jumps: which are valid; Check and the reference's Check and Valid answer by that test. Loops over a jump's operands that lay truth values: which locals they tell. jump.list: the numbers of the truth values that are true, in order. Rows of calls of one jump; lists of locals that truth values tell. -/
import Derived.Test.YthdcahkedlijpaaGreatJump1
import Derived.Test.YthdcahkedlijpaaGreatTests5
import Derived.Test.YthdcahkedlijpaaGreatAmC
import Derived.Test.YthdcahkedlijpaaGreatReg
namespace Go.Proofs.YthdcahkedlijpaaGreat.Am
open Go.RowKit
set_option maxRecDepth 100000
set_option linter.unusedVariables false
set_option linter.unusedSectionVars false
abbrev kJ : List Kd := kPre ++ .i .i64 :: kPost
def inRE (i : Nat) (c : Int) : E := .ands [.not (.lt i 0), .lt i c]
def okJB : E :=
  .or (.ands [.zero [(0, 1)], .zero (zs 1 6), inRE 7 24, .zero (zs 8 5)])
  (.or (.ands [.zero [(0, 2)], .zero [(14, 1)], .zero [(6, 0)], inRE 7 24, inRE 8 24, .zero (zs 9 4)])
  (.or (.ands [.or (.zero [(0, 3)]) (.zero [(0, 5)]), .zero (zs 1 12)])
  (.ands [.zero [(0, 4)], .zero (zs 1 5), inRE 6 8, inRE 7 24, .zero [(8, 0)], .lt 9 9, .zero [(15, 1)], .zero [(13, 1)]])))
def flatJ (pre : List Value) (els : List (List Value)) (post : List Value) : List Value := pre ++ Value.int .i64 els.length :: post
def bitsJ (pre : List Value) (els : List (List Value)) (post : List Value) : List Int :=
  [b2i (els.all fun el => (okOpE 0).val el), b2i ((okOpE 1).val (flatJ pre els post)), b2i ((okPlE 10).val (flatJ pre els post))]
def okJ (pre : List Value) (els : List (List Value)) (post : List Value) : Bool := okJB.val (flatJ pre els post ++ (bitsJ pre els post).map (Value.int .i64))
def TestsJ (F : FuncId) (val : Bool → Value) : Prop :=
  ∀ (w : World) (v : Value) (pre : List Value) (sv : Value) (post : List Value) (els : List (List Value)), JumpIs w v pre sv post els → Calls Tryz.prog F #[v] w fun e w' => e = .returned (val (okJ pre els post)) ∧ Below w.heap.size w w'
noncomputable def jB (L : Lf) : List Oracle := letI := L.know []
  [bitO 94 (clL L 10 kPl) 15 m8, bitO 99 (clL L 10 kPl) 15 m8, bitO 96 (clL L 1 kOp) 14 m8, bitO 101 (clL L 1 kOp) 14 m8]
noncomputable def jRun (F : FuncId) (L : Lf) : R := @runsL (L.know []) (tyOf Tryz.prog) (fnOf Tryz.prog) (orcs (jB L)) tbJ (loopsJ L) 30 15 F (([.g cellsJ] : List A).map L.nA) ⟨[], 0⟩ 0
noncomputable def jAt (mk : Bool → V) (F : FuncId) (L : Lf) : Bool := Option.rec false (fun b => sayV (mk b) (jRun F L)) (@E.abs (L.know []) ((cellsT 0 kJ ++ [S.xi .i64 13, S.xi .i64 14, S.xi .i64 15]).map L.nS) okJB)
noncomputable def L0J : Lf := (Lf.startB [(true, kJ)] [] [(0, 1), (0, 1), (0, 1)]).lo 9 0
theorem b01 (b : Bool) : (0 : Int) ≤ b2i b ∧ b2i b ≤ 1 := by cases b <;> decide
section
variable {w : World} {v : Value} {pre : List Value} {sv : Value} {post : List Value} {els : List (List Value)} (hj : JumpIs w v pre sv post els)
include hj
theorem len_pre : pre.length = 9 := by have := hj.pre.len; simp [kPre] at this; omega
theorem len_post : post.length = 3 := by have := hj.post.len; simp [kPost] at this; omega
theorem ok_flat : All2 Kd.ok kJ (flatJ pre els post) :=
  hj.pre.app ⟨⟨_, rfl, by show (-9223372036854775808 : Int) ≤ _; omega, hj.ops.most⟩, hj.post⟩
theorem len_flat : (flatJ pre els post).length = 13 := by have := (ok_flat hj).len; simp [kJ, kPre, kPost] at this; omega
theorem gps_flat : Gps [(true, kJ)] [.agg (flatJ pre els post).toArray] (flatJ pre els post) := ⟨flatJ pre els post, [], (List.append_nil _).symm, ⟨ok_flat hj, .inl ⟨rfl, rfl⟩⟩, rfl⟩
theorem cell_len : cellI (flatJ pre els post) 9 = els.length := by
  unfold cellI flatJ
  rw [List.getElem?_append_right (by have := len_pre hj; omega), len_pre hj]
  rfl
theorem sound_jB {L : Lf} [b0 : Base] (hK : b0.toKnow = L.know []) {full : List Value} {ints : List Value} (hf : full = flatJ pre els post ++ ints) (h1 : Base.rho = rhoOf full) (h2 : Base.sig = sigOf full) (hL : L.Holds Base.rho Base.sig)
    (r14 : Base.rho 14 = b2i ((okOpE 1).val (flatJ pre els post))) (r15 : Base.rho 15 = b2i ((okPlE 10).val (flatJ pre els post))) : Sound Tryz.prog (orcs (jB L)) := by
  have hk := ok_flat hj
  have hlen := len_flat hj
  subst hf
  have hp : All2 Kd.ok kPl (((flatJ pre els post).drop 10).take 3) := (hk.drop 10).take 3
  have ho : All2 Kd.ok kOp (((flatJ pre els post).drop 1).take 5) := (hk.drop 1).take 5
  have cp : All2 (VS r0) (clL L 10 kPl) (((flatJ pre els post).drop 10).take 3) := clL_ok hL h1 h2 (part_eq (flatJ pre els post) _ 10 3) (by simp [hlen]) hp
  have co : All2 (VS r0) (clL L 1 kOp) (((flatJ pre els post).drop 1).take 5) := clL_ok hL h1 h2 (part_eq (flatJ pre els post) _ 1 5) (by simp [hlen]) ho
  have e14 : (okOpE 0).val (((flatJ pre els post).drop 1).take 5) = (okOpE 1).val (flatJ pre els post) := (mv_val (okOpE 0) (by decide)).trans rfl
  rw [← e14] at r14
  rw [← pl_at] at r15
  have key : ∀ O ∈ @List.cons Oracle (@bitO b0.toKnow 94 (clL L 10 kPl) 15 m8) [@bitO b0.toKnow 99 (clL L 10 kPl) 15 m8, @bitO b0.toKnow 96 (clL L 1 kOp) 14 m8, @bitO b0.toKnow 101 (clL L 1 kOp) 14 m8], Sound Tryz.prog O := by
    intro O hO
    simp only [List.mem_cons, List.not_mem_nil, or_false] at hO
    rcases hO with rfl | rfl | rfl | rfl
    · exact sound_bit ⟨_, Tryz.func94, by kernel_rfl, by kernel_rfl⟩ (ones_T L kPl 10 rfl) cp r15 (fun _ => rfl) fun w _ => plA_tests _ hp w trivial
    · exact sound_bit ⟨_, Tryz.func99, by kernel_rfl, by kernel_rfl⟩ (ones_T L kPl 10 rfl) cp r15 (fun _ => rfl) fun w _ => plB_tests _ hp w trivial
    · exact sound_bit ⟨_, Tryz.func96, by kernel_rfl, by kernel_rfl⟩ (ones_T L kOp 1 rfl) co r14 (fun _ => rfl) fun w _ => opA_tests _ ho w trivial
    · exact sound_bit ⟨_, Tryz.func101, by kernel_rfl, by kernel_rfl⟩ (ones_T L kOp 1 rfl) co r14 (fun _ => rfl) fun w _ => opB_tests _ ho w trivial
  rw [hK] at key
  exact sound_orcs key
theorem loops_13 {bo : Base} (hnb : bo.nb = w.heap.size) (hg : bo.g = fun b => w.heap[b]?) (hl : bo.rho 9 = els.length) (hv : (bo.lst 0).v = sv) (h13 : bo.rho 13 = b2i (els.all fun el => (okOpE 0).val el)) {L : Lf} (hL : L.Holds bo.rho bo.sig) :
    ∀ f F c, Tryz.prog.funcs[f]? = some F → F.body = some c → Loops.ok (@LoopOk bo Tryz.prog (loopsJ L f)) c := by
  let cs : Nat → Int := fun i => match els[i]? with | some el => bif (okOpE 0).val el then 0 else 8 | none => 0
  have hcs : ∀ i el, els[i]? = some el → v8 ((okOpE 0).val el) = .int .i64 (cs i) := fun i el h => by
    simp only [cs, h]
    cases (okOpE 0).val el <;> rfl
  have hs : ∀ i el, els[i]? = some el → Says 96 el (cs i) := fun i el h w => by rw [← hcs i el h]; exact opA_tests el (hj.ops.kd i el h) w trivial
  have hs' : ∀ i el, els[i]? = some el → Says 101 el (cs i) := fun i el h w => by rw [← hcs i el h]; exact opB_tests el (hj.ops.kd i el h) w trivial
  have hall : ∀ i, i < els.length → ((okOpE 0).val ((els[i]?).getD []) = true ↔ cs i = 0) := fun i hi => by
    simp only [cs, List.getElem?_eq_getElem hi, Option.getD_some]
    cases (okOpE 0).val els[i] <;> simp
  intro f F c hF hc
  unfold loopsJ
  cases hp : nth L.iv 13 with
  | none => exact Loops.ok_all (fun c => @LoopOk.none bo _ c) c
  | some p =>
    have hiv : p.1 ≤ bo.rho 13 ∧ bo.rho 13 ≤ p.2 := hL.iv 13 p hp
    show Loops.ok (@LoopOk bo Tryz.prog ((bif decide (p = (1, 1)) then loopsGood else bif decide (p = (0, 0)) then loopsBad else loopsNone) f)) c
    cases h1 : decide (p = (1, 1)) with
    | true =>
      simp only [decide_eq_true_eq] at h1
      subst h1
      have hb : (els.all fun el => (okOpE 0).val el) = true := by
        cases hb : (els.all fun el => (okOpE 0).val el)
        · rw [h13, hb] at hiv; simp [b2i] at hiv
        · rfl
      refine loops_good hj.ops hs hs' hnb hg hl hv (fun i hi => (hall i hi).1 ?_) f F c hF hc
      rw [List.getElem?_eq_getElem hi]
      exact List.all_eq_true.1 hb _ (List.getElem_mem _)
    | false =>
      cases h2 : decide (p = (0, 0)) with
      | true =>
        simp only [decide_eq_true_eq] at h2
        subst h2
        have hb : (els.all fun el => (okOpE 0).val el) = false := by
          cases hb : (els.all fun el => (okOpE 0).val el)
          · rfl
          · rw [h13, hb] at hiv; simp [b2i] at hiv
        rcases first_bad cs els.length with h | ⟨N, k1, k2, k3⟩
        · refine absurd (List.all_eq_true.2 fun el hel => ?_) (by rw [hb]; decide)
          obtain ⟨i, hi, e⟩ := List.getElem_of_mem hel
          have := (hall i hi).2 (h i hi)
          rw [List.getElem?_eq_getElem hi, e] at this
          exact this
        · have k8 : cs N = 8 := by
            simp only [cs, List.getElem?_eq_getElem k1] at k3 ⊢
            cases hh : (okOpE 0).val els[N] <;> rw [hh] at k3 <;> simp at k3 ⊢
          exact loops_bad hj.ops hs hs' hnb hg hl hv k1 k2 k8 f F c hF hc
      | false => exact Loops.ok_all (fun c => @LoopOk.none bo _ c) c
@[reducible] noncomputable def baseJ (_ : JumpIs w v pre sv post els) (ints : List Int) : Base :=
  { Know.nought with nb := w.heap.size, g := fun k => w.heap[k]?, rho := rhoOf (behind (flatJ pre els post) [] ints), sig := sigOf (behind (flatJ pre els post) [] ints), ok := KnowOk.nought _ _, lst := fun _ => ⟨sv, els⟩ }
theorem cellsJ_ok (ints : List Int) : All2 (@VA (baseJ hj ints) r0) [.g cellsJ] [v] := by
  letI : Base := baseJ hj ints
  have hlenP := len_pre hj
  refine ⟨⟨pre ++ sv :: post, hj.v, ?_⟩, trivial⟩
  refine All2.app ?_ ⟨?_, ?_⟩
  · exact cellsT_ok (pre := []) (us := pre) (post := Value.int .i64 els.length :: post ++ ints.map (Value.int .i64)) rfl rfl (by simp [behind, flatJ]) hj.pre
  · obtain ⟨A, c, e⟩ := hj.ops.sl
    exact ⟨A, els.length, c, e, e⟩
  · have := cellsT_ok (r := r0) (cs := behind (flatJ pre els post) [] ints) (pre := pre ++ [Value.int .i64 els.length]) (us := post) (post := ints.map (Value.int .i64)) rfl rfl (by simp [behind, flatJ]) hj.post
    rw [List.length_append, hlenP] at this
    exact this
theorem rho9 (ints : List Int) : (baseJ hj ints).rho 9 = els.length := by
  show rhoOf _ 9 = _
  rw [behind_cell (by rw [len_flat hj]; decide)]
  exact cell_len hj
theorem tabsJ_ok (ints : List Int) : @TabsOk (baseJ hj ints) tbJ := by
  letI : Base := baseJ hj ints
  refine ⟨fun l j hj' => ?_, fun l i cs hj' => (by cases hj'), fun i c j hj' => (by cases hj')⟩
  have hj' : (bif Nat.beq 0 l then some 9 else none) = some j := hj'
  cases hb : Nat.beq 0 l <;> rw [hb] at hj' <;> cases hj'
  obtain ⟨A, c, e⟩ := hj.ops.sl
  exact ⟨A, els.length, c, e, rho9 hj ints⟩
theorem startJ_ok {ivI : List (Int × Int)} {i0 i1 : List Int} (hI : All2 (fun p (m : Int) => p.1 ≤ m ∧ m ≤ p.2) ivI i0) : ((Lf.startB [(true, kJ)] [] ivI).lo 9 0).Holds (baseJ hj (i0 ++ i1)).rho (baseJ hj (i0 ++ i1)).sig :=
  (Lf.startB_some (gps_flat hj) (ivS := []) (strs := []) trivial rfl hI).lo (i := 9) (c := 0) (by
    have := rho9 hj (i0 ++ i1)
    show (0 : Int) ≤ (baseJ hj (i0 ++ i1)).rho 9
    rw [this]
    omega)
theorem lensJ (ints : List Int) : Lens [] (baseJ hj ints).rho (baseJ hj ints).sig := lens_behind (n := 13) (a := 0) (gps_flat hj) rfl (len_flat hj) rfl
theorem rhoJ (ints : List Int) {j : Nat} {x : Int} (h : ints[j]? = some x) : (baseJ hj ints).rho (13 + j) = x := behind_int (a := 0) (strs := []) (len_flat hj) rfl h
end
theorem jump_tests {F : FuncId} {mk : Bool → V} {val : Bool → Value} (hmk : ∀ (b0 : Base) r b u, @VV b0 r (mk b) u → u = val b) {sp : Sp} (hrun : ((sp.leaves L0J).all (jAt mk F)) = true) : TestsJ F val := by
  intro w v pre sv post els hj
  obtain ⟨L, hm, hL⟩ := sp.cover (startJ_ok hj (ivI := [(0, 1), (0, 1), (0, 1)]) (i0 := bitsJ pre els post) (i1 := []) ⟨b01 _, b01 _, b01 _, trivial⟩)
  have hp := List.all_eq_true.1 hrun L hm
  let b : Base := baseJ hj (bitsJ pre els post ++ [])
  letI bL : Base := b.withK (L.know []) (Lf.ok hL (lensJ hj _))
  have hc : All2 (VS r0) ((cellsT 0 kJ ++ [S.xi .i64 13, S.xi .i64 14, S.xi .i64 15]).map L.nS) (flatJ pre els post ++ (bitsJ pre els post).map (Value.int .i64)) := by
    refine @Lf.nSs_ok bL L r0 hL _ _ (All2.app (@cellsT_ok bL r0 (behind (flatJ pre els post) [] (bitsJ pre els post ++ [])) rfl rfl kJ (flatJ pre els post) [] ((bitsJ pre els post ++ []).map (Value.int .i64)) rfl (ok_flat hj)) ?_)
    refine ⟨?_, ?_, ?_, trivial⟩
    · exact congrArg (Value.int .i64) (rhoJ hj (bitsJ pre els post ++ []) (j := 0) rfl).symm
    · exact congrArg (Value.int .i64) (rhoJ hj (bitsJ pre els post ++ []) (j := 1) rfl).symm
    · exact congrArg (Value.int .i64) (rhoJ hj (bitsJ pre els post ++ []) (j := 2) rfl).symm
  unfold jAt at hp
  cases hb : @E.abs (L.know []) ((cellsT 0 kJ ++ [S.xi .i64 13, S.xi .i64 14, S.xi .i64 15]).map L.nS) okJB with
  | none => rw [hb] at hp; cases hp
  | some q =>
    rw [hb] at hp
    obtain ⟨h', hr⟩ := sayV_is hp
    have hbv : q = okJ pre els post := (@E.abs_ok bL _ _ _ hc _ _ hb).symm
    have hS : @Sound bL Tryz.prog (@runsL (L.know []) (tyOf Tryz.prog) (fnOf Tryz.prog) (orcs (jB L)) tbJ (loopsJ L) 30 15) :=
      @runsL_ok bL _ _ (@tyOf_ok bL Tryz.prog) _ fnOkN _ (sound_jB hj (L := L) rfl (full := behind (flatJ pre els post) [] (bitsJ pre els post ++ [])) rfl rfl rfl hL (rhoJ hj _ (j := 1) rfl) (rhoJ hj _ (j := 2) rfl)) mixedN _ (TabsOk.withK (tabsJ_ok hj _) _) _
        (loops_13 hj (bo := bL) rfl rfl (rho9 hj _) rfl (rhoJ hj _ (j := 0) rfl) hL) 30 15
    refine (@calls_flat bL _ w (Nat.le_refl _) (fun _ _ => rfl) _ hS _ _ _ (@Lf.nAs_ok bL L r0 hL _ _ (cellsJ_ok hj _)) _ _ hr).mono fun x w' ⟨u, r', e1, e2, e3⟩ => ⟨?_, e3⟩
    rw [e1, hmk _ _ _ _ e2, hbv]
end Go.Proofs.YthdcahkedlijpaaGreat.Am
namespace Go.Proofs.YthdcahkedlijpaaGreat.Am
open Go.RowKit
set_option maxRecDepth 100000
set_option linter.unusedVariables false
set_option linter.unusedSectionVars false
def toldL (sel : Int → Bool) (els : List (List Value)) : List Int := els.flatMap fun el => bif sel (cellI el 0) then [cellI el 2] else []
def bitsT (T : List Int) : List Int := (List.range 16).map fun j => b2i (decide (((j : Nat) : Int) ∈ T))
theorem bitsT_at {T : List Int} {j : Nat} (h : j < 16) : (bitsT T)[j]? = some (b2i (decide ((j : Int) ∈ T))) := by
  unfold bitsT
  rw [List.getElem?_map, List.getElem?_range h]
  rfl
def intsB (sel : Int → Bool) (els : List (List Value)) (k : Nat) : List Int :=
  (k : Int) :: ((k + 1 : Nat) : Int) :: cellI ((els[k]?).getD []) 0 :: cellI ((els[k]?).getD []) 1 :: cellI ((els[k]?).getD []) 2 :: cellI ((els[k]?).getD []) 3 :: cellI ((els[k]?).getD []) 4 :: bitsT (toldL sel (els.take k))
def opB : List S := [.xi .u8 15, .xi .i64 16, .xi .i64 17, .xe [(18, 1)], .xi .u8 19]
def tbB : Tabs := ⟨[(0, 9)], [(0, .x 13, opB)], [(13, 1, 14)]⟩
noncomputable def onlyB (L : Lf) (i : Nat) (c : Int) : Lf := (L.hi i c).lo i c
noncomputable def LB (c : Int) : Lf := { onlyB ((Lf.startB [(true, kJ)] [] [(-9223372036854775808, 9223372036854775807), (-9223372036854775808, 9223372036854775807), (0, 255), (-9223372036854775808, 9223372036854775807), (0, 15)]).lo 9 0) 15 c with lt := [(13, 9)] }
noncomputable def LE0 : Lf := (Lf.startB [(true, kJ)] [] []).lo 9 0
noncomputable def ctxB (T : Tabs) (L : Lf) : Ctx := ⟨tyOf Tryz.prog, @runs (L.know []) (tyOf Tryz.prog) (fnOf Tryz.prog) noneO 10 5, T, fun _ _ _ => none⟩
def bitS (m : Nat) : List S := (List.range 16).map fun j => S.xe [(m + j, 1)]
def falses : List S := List.replicate 16 (.bool false)
def thB (b : Bool) : Th := (.xi .i64 13, .xi .i64 14) :: (List.range 16).map fun j => (.xe [(20 + j, 1)], bif b then .xe [(17, (j : Int)), (20 + j, 1)] else .xe [(20 + j, 1)])
def thI : Th := (.xi .i64 13, .int .i64 0) :: (List.range 16).map fun j => (.xe [(20 + j, 1)], .bool false)
def thO (m : Nat) : Th := (List.range 16).map fun j => (.xe [(m + j, 1)], .xe [(20 + j, 1)])
def thN : Th := [(.xi .i64 9, .xi .i64 13)]
noncomputable def stepB (code : Code) (hd : Nat → St) (sel : Int → Bool) (c : Int) : Bool := tellsR ⟨13, 0, 1⟩ (thB (sel c)) .normal (hd 13) (@exec ((LB c).know []) (ctxB tbB (LB c)) 0 10 code (hd 13))
noncomputable def lastB (code : Code) (hd : Nat → St) (m : Nat) (x : X) (s1 : St) : Bool := tellsR ⟨13, 0, 1⟩ (thO m) x s1 (@exec (LE0.know []) (ctxB tbJ LE0) 0 10 code (hd 9))
noncomputable def preB (hd : Nat → St) : Bool := fitSt ⟨36, 0, 1⟩ thN (hd 9) (hd 13)
theorem op_facts {el : List Value} (hk : All2 Kd.ok opK el) (h : (okOpE 0).val el = true) : (cellI el 0 = 1 ∨ cellI el 0 = 2 ∨ cellI el 0 = 3) ∧ (0 ≤ cellI el 2 ∧ cellI el 2 ≤ 15) := by
  obtain ⟨a, b, c, d, e, rfl⟩ := opK_form hk
  have hf : (okOpE 0).val [.int .u8 a, .int .i64 b, .int .i64 c, .bool d, .int .u8 e] = ((decide (a = 1) && (decide (c = 0) && (decide ((if d then (1 : Int) else 0) = 0) && (decide (e = 0) && true)))) || ((decide (a = 2) || decide (a = 3)) && (decide (b = 0) && ((!decide (c < 0)) && (decide (c < 16) && decide (e < 3)))))) := by
    cases d <;> simp [okOpE, okPlE, E.ands, E.val, cellI, codeI, zs, List.range, List.range.loop]
  rw [hf] at h
  show (a = 1 ∨ a = 2 ∨ a = 3) ∧ (0 ≤ c ∧ c ≤ 15)
  simp only [Bool.or_eq_true, Bool.and_eq_true, decide_eq_true_eq, Bool.not_eq_true', decide_eq_false_iff_not] at h
  omega
theorem toldL_succ {sel : Int → Bool} {els : List (List Value)} {k : Nat} {el : List Value} (he : els[k]? = some el) : toldL sel (els.take (k + 1)) = toldL sel (els.take k) ++ (bif sel (cellI el 0) then [cellI el 2] else []) := by
  have hk : k < els.length := (List.getElem?_eq_some_iff.1 he).1
  rw [List.take_succ_eq_append_getElem hk]
  have : els[k] = el := by rw [List.getElem?_eq_getElem hk] at he; exact Option.some.inj he
  rw [this]
  simp [toldL, List.flatMap_append]
section
variable {w : World} {v : Value} {pre : List Value} {sv : Value} {post : List Value} {els : List (List Value)} (hj : JumpIs w v pre sv post els) (sel : Int → Bool)
@[reducible] noncomputable def baseB (k : Nat) : Base := baseJ hj (intsB sel els k)
theorem rhoB_k (k : Nat) : (baseB hj sel k).rho 13 = k := rhoJ hj _ (j := 0) rfl
theorem rhoB_1 (k : Nat) : (baseB hj sel k).rho 14 = ((k + 1 : Nat) : Int) := rhoJ hj _ (j := 1) rfl
theorem rhoB_el {k : Nat} {el : List Value} (he : els[k]? = some el) : (baseB hj sel k).rho 15 = cellI el 0 ∧ (baseB hj sel k).rho 16 = cellI el 1 ∧ (baseB hj sel k).rho 17 = cellI el 2 ∧ (baseB hj sel k).rho 18 = cellI el 3 ∧ (baseB hj sel k).rho 19 = cellI el 4 := by
  have e : (els[k]?).getD [] = el := by rw [he]; rfl
  refine ⟨?_, ?_, ?_, ?_, ?_⟩
  · rw [← e]; exact rhoJ hj _ (j := 2) rfl
  · rw [← e]; exact rhoJ hj _ (j := 3) rfl
  · rw [← e]; exact rhoJ hj _ (j := 4) rfl
  · rw [← e]; exact rhoJ hj _ (j := 5) rfl
  · rw [← e]; exact rhoJ hj _ (j := 6) rfl
theorem rhoB_bit (k : Nat) {j : Nat} (h : j < 16) : (baseB hj sel k).rho (20 + j) = b2i (decide ((j : Int) ∈ toldL sel (els.take k))) := by
  have : (intsB sel els k)[7 + j]? = some (b2i (decide ((j : Int) ∈ toldL sel (els.take k)))) := by
    rw [show 7 + j = j + 1 + 1 + 1 + 1 + 1 + 1 + 1 by omega]
    simp only [intsB, List.getElem?_cons_succ]
    exact bitsT_at h
  rw [show 20 + j = 13 + (7 + j) by omega]
  exact rhoJ hj _ this
theorem rhoJ_lt (ints : List Int) {i : Nat} (h : i < 13) : (baseJ hj ints).rho i = cellI (flatJ pre els post) i := behind_cell (by rw [len_flat hj]; exact h)
theorem agreeJ (i1 i2 : List Int) : Agree (baseJ hj i1) (baseJ hj i2) ⟨13, 0, 1⟩ := ⟨rfl, rfl, fun i hi => by rw [rhoJ_lt hj i1 hi, rhoJ_lt hj i2 hi], fun i h => absurd h (Nat.not_lt_zero i), fun _ _ => rfl⟩
theorem tabsB_el {k : Nat} {el : List Value} (he : els[k]? = some el) : @TabsOk (baseB hj sel k) tbB := by
  letI : Base := baseB hj sel k
  have hk := hj.ops.kd k el he
  have hlt : k < els.length := (List.getElem?_eq_some_iff.1 he).1
  refine ⟨fun l j h => ?_, fun l i cs h => ?_, fun i c j h => ?_⟩
  · have h : (bif Nat.beq 0 l then some 9 else none) = some j := h
    cases hb : Nat.beq 0 l <;> rw [hb] at h <;> cases h
    obtain ⟨A, c, e⟩ := hj.ops.sl
    exact ⟨A, els.length, c, e, rho9 hj _⟩
  · have h : (bif Nat.beq 0 l && N.eqv (.x 13) i then some opB else none) = some cs := h
    cases hb : (Nat.beq 0 l && N.eqv (.x 13) i) <;> rw [hb] at h <;> cases h
    simp only [Bool.and_eq_true] at hb
    obtain rfl := N.eqv_ok hb.2
    obtain ⟨b, off, c, e, hc⟩ := hj.ops.at_ k el he
    have hn : NV (.x 13) = (k : Int) := rhoB_k hj sel k
    refine ⟨b, off, els.length, c, el, e, by rw [hn]; omega, by rw [hn]; omega, ⟨by rw [hn]; exact he, fun f u hf w1 hw => ?_⟩, ?_⟩
    · have hcell := hc f u hf
      rw [hn]
      have hblk : w1.heap[b]? = w.heap[b]? := hw b (World.block_lt_of_cell? w ⟨b, off + k * 5 + f, none⟩ hcell)
      rw [← hcell]
      exact World.cell?_of_block hblk
    · obtain ⟨a, b, c, d, e, rfl⟩ := opK_form hk
      obtain ⟨r0, r1, r2, r3, r4⟩ := rhoB_el hj sel he
      refine ⟨fun r => ?_, fun r => ?_, fun r => ?_, fun r => ?_, fun r => ?_, trivial⟩
      · show _ = Value.int .u8 ((baseB hj sel k).rho 15); rw [r0]; rfl
      · show _ = Value.int .i64 ((baseB hj sel k).rho 16); rw [r1]; rfl
      · show _ = Value.int .i64 ((baseB hj sel k).rho 17); rw [r2]; rfl
      · show _ = Value.bool ([((18 : Nat), (1 : Int))].any fun p => decide ((baseB hj sel k).rho p.1 = p.2))
        simp only [List.any_cons, List.any_nil, Bool.or_false]
        rw [r3]
        cases d <;> rfl
      · show _ = Value.int .u8 ((baseB hj sel k).rho 19); rw [r4]; rfl
  · have h : (bif Nat.beq 13 i && decide ((1 : Int) = c) then some 14 else none) = some j := h
    cases hb : (Nat.beq 13 i && decide ((1 : Int) = c)) <;> rw [hb] at h <;> cases h
    simp only [Bool.and_eq_true, decide_eq_true_eq] at hb
    obtain rfl := Nat.eq_of_beq_eq_true hb.1
    obtain rfl := hb.2
    have hm := hj.ops.most
    have e0 : Base.rho 13 = (k : Int) := rhoB_k hj sel k
    have e1 : Base.rho 14 = ((k + 1 : Nat) : Int) := rhoB_1 hj sel k
    refine ⟨?_, ?_, ?_⟩
    · rw [e0, e1]; omega
    · rw [e1]; show (-9223372036854775808 : Int) ≤ ((k + 1 : Nat) : Int); omega
    · rw [e1]; show ((k + 1 : Nat) : Int) ≤ 9223372036854775807; omega
theorem holdsB {k : Nat} {el : List Value} (he : els[k]? = some el) (hv : (okOpE 0).val el = true) : (LB (cellI el 0)).Holds (baseB hj sel k).rho (baseB hj sel k).sig := by
  have hlt : k < els.length := (List.getElem?_eq_some_iff.1 he).1
  have hm := hj.ops.most
  have hk := hj.ops.kd k el he
  obtain ⟨r0, r1, r2, r3, r4⟩ := rhoB_el hj sel he
  have hf := op_facts hk hv
  have hel : (els[k]?).getD [] = el := by rw [he]; rfl
  have hI : All2 (fun p (m : Int) => p.1 ≤ m ∧ m ≤ p.2) [((-9223372036854775808 : Int), (9223372036854775807 : Int)), (-9223372036854775808, 9223372036854775807), (0, 255), (-9223372036854775808, 9223372036854775807), (0, 15)]
      ((k : Int) :: ((k + 1 : Nat) : Int) :: cellI ((els[k]?).getD []) 0 :: cellI ((els[k]?).getD []) 1 :: cellI ((els[k]?).getD []) 2 :: []) := by
    rw [hel]
    obtain ⟨a, b, c, d, e, rfl⟩ := opK_form hk
    obtain ⟨_, ⟨_, _, hb⟩, _⟩ := (⟨hk.1, hk.2.1, trivial⟩ : _ ∧ _ ∧ True)
    have hb : b = _ ∧ _ := ⟨rfl, hb⟩
    have hb1 : (-9223372036854775808 : Int) ≤ b := by
      obtain ⟨n, e, h1, h2⟩ := hk.2.1
      cases e
      exact h1
    have hb2 : b ≤ (9223372036854775807 : Int) := by
      obtain ⟨n, e, h1, h2⟩ := hk.2.1
      cases e
      exact h2
    have h0 : a = 1 ∨ a = 2 ∨ a = 3 := hf.1
    have h2 : 0 ≤ c ∧ c ≤ 15 := hf.2
    refine ⟨⟨by omega, by omega⟩, ⟨by omega, by omega⟩, ⟨?_, ?_⟩, ⟨hb1, hb2⟩, h2, trivial⟩
    · show 0 ≤ a; omega
    · show a ≤ 255; omega
  have h1 := startJ_ok hj (i1 := cellI ((els[k]?).getD []) 3 :: cellI ((els[k]?).getD []) 4 :: bitsT (toldL sel (els.take k))) hI
  have h2 := (h1.hi (i := 15) (c := cellI el 0) (Int.le_of_eq r0)).lo (i := 15) (c := cellI el 0) (Int.le_of_eq r0.symm)
  refine ⟨h2.iv, h2.ne, fun i j hij => ?_, h2.to, h2.st, h2.sn, h2.cf⟩
  have : (i, j) ∈ [((13 : Nat), (9 : Nat))] := hij
  simp only [List.mem_singleton, Prod.mk.injEq] at this
  obtain ⟨rfl, rfl⟩ := this
  rw [rhoB_k hj sel k, show (baseB hj sel k).rho 9 = els.length from rho9 hj _]
  omega
theorem holdsE (ints : List Int) : LE0.Holds (baseJ hj ints).rho (baseJ hj ints).sig := startJ_ok hj (ivI := []) (i0 := []) (i1 := ints) trivial
theorem ctxB_ok {ints : List Int} {T : Tabs} (hT : @TabsOk (baseJ hj ints) T) {L : Lf} (h : L.Holds (baseJ hj ints).rho (baseJ hj ints).sig) : @CtxOk ((baseJ hj ints).withK (L.know []) (Lf.ok h (lensJ hj ints))) Tryz.prog (ctxB T L) :=
  let bL : Base := (baseJ hj ints).withK (L.know []) (Lf.ok h (lensJ hj ints))
  @CtxOk.mk bL _ (ctxB T L) (@runs_ok bL _ _ (@tyOf_ok bL Tryz.prog) _ fnOkN noneO (fun _ _ _ _ _ _ h => by cases h) mixedN 10 5) (TabsOk.withK hT _)
theorem turnsB {ints : List Int} {b2 : Base} {d : Bd} (ag : Agree (baseJ hj ints) b2 d) {c : Code} {hd s1 : St} (hnx : hd.h.next = s1.h.next) {x : X} {L : Lf} (hL : L.Holds (baseJ hj ints).rho (baseJ hj ints).sig) {T : Tabs} (hT : @TabsOk (baseJ hj ints) T) {th : Th} (hth : Th.ok (baseJ hj ints) b2 th)
    (hrun : tellsR d th x s1 (@exec (L.know []) (ctxB T L) 0 10 c hd) = true) : Turns Tryz.prog (baseJ hj ints) b2 c hd x s1 := by
  refine turns_runs mixedN ag hnx (sp := .leaf) hL (lensJ hj ints) (fun L => ctxB T L) (fun _ => th) (fun L' h' => ?_) (fun L' h' => ctxB_ok hj hT h') (fun L' h' => ?_) (fun L' _ _ => hth) (n := 10) ?_
  · exact @tyOf_ok ((baseJ hj ints).withK (L'.know []) (Lf.ok h' (lensJ hj ints))) Tryz.prog
  · exact Loops.ok_all (fun c => @LoopOk.none ((baseJ hj ints).withK (L'.know []) (Lf.ok h' (lensJ hj ints))) Tryz.prog c) c
  · show (tellsR d th x s1 (@exec (L.know []) (ctxB T L) 0 10 c hd) && true) = true
    rw [hrun]
    rfl
theorem xe_ok {b1 b2 : Base} {l m : List (Nat × Int)} (h : (m.any fun p => decide (b1.rho p.1 = p.2)) = l.any fun p => decide (b2.rho p.1 = p.2)) {r : Ren} {u : Value} (hu : @VS b1 r (.xe m) u) : @VS b2 r (.xe l) u := by
  have hu : u = .bool (m.any fun p => decide (b1.rho p.1 = p.2)) := hu
  show u = .bool (l.any fun p => decide (b2.rho p.1 = p.2))
  rw [hu, h]
theorem one_bit (b : Bool) : decide (b2i b = 1) = b := by cases b <;> decide
theorem thB_ok {k : Nat} {el : List Value} (he : els[k]? = some el) : Th.ok (baseB hj sel k) (baseB hj sel (k + 1)) (thB (sel (cellI el 0))) := by
  intro p hp r u hu
  unfold thB at hp
  rcases List.mem_cons.1 hp with rfl | hp
  · have hu : u = .int .i64 ((baseB hj sel k).rho 14) := hu
    show u = .int .i64 ((baseB hj sel (k + 1)).rho 13)
    rw [hu, rhoB_1, rhoB_k]
  · obtain ⟨j, hj', rfl⟩ := List.mem_map.1 hp
    have hj' := List.mem_range.1 hj'
    have hs := toldL_succ (sel := sel) he
    cases hb : sel (cellI el 0) with
    | false =>
      rw [hb] at hu hs
      simp only [cond_false, List.append_nil] at hs
      refine xe_ok (b1 := baseB hj sel k) (b2 := baseB hj sel (k + 1)) ?_ hu
      simp only [List.any_cons, List.any_nil, Bool.or_false]
      rw [rhoB_bit hj sel k hj', rhoB_bit hj sel (k + 1) hj', hs]
    | true =>
      rw [hb] at hu hs
      simp only [cond_true] at hs
      refine xe_ok (b1 := baseB hj sel k) (b2 := baseB hj sel (k + 1)) ?_ hu
      simp only [List.any_cons, List.any_nil, Bool.or_false]
      rw [rhoB_bit hj sel k hj', rhoB_bit hj sel (k + 1) hj', hs, one_bit, one_bit, (rhoB_el hj sel he).2.2.1, Bool.eq_iff_iff]
      simp only [Bool.or_eq_true, decide_eq_true_eq, List.mem_append, List.mem_singleton]
      constructor
      · rintro (h | h)
        · exact .inr h.symm
        · exact .inl h
      · rintro (h | h)
        · exact .inr h
        · exact .inl h.symm
theorem thI_ok (ints : List Int) : Th.ok (baseJ hj ints) (baseB hj sel 0) thI := by
  intro p hp r u hu
  unfold thI at hp
  rcases List.mem_cons.1 hp with rfl | hp
  · show u = .int .i64 ((baseB hj sel 0).rho 13)
    rw [rhoB_k]
    exact hu
  · obtain ⟨j, hj', rfl⟩ := List.mem_map.1 hp
    have hj' := List.mem_range.1 hj'
    have hu : u = .bool false := hu
    show u = .bool (([((20 + j : Nat), (1 : Int))] : List (Nat × Int)).any fun p => decide ((baseB hj sel 0).rho p.1 = p.2))
    simp only [List.any_cons, List.any_nil, Bool.or_false]
    rw [rhoB_bit hj sel 0 hj', one_bit, hu]
    simp [toldL]
theorem thO_ok {ints : List Int} {m : Nat} (hm : ∀ j, j < 16 → (baseJ hj ints).rho (m + j) = b2i (decide ((j : Int) ∈ toldL sel els))) : Th.ok (baseB hj sel els.length) (baseJ hj ints) (thO m) := by
  intro p hp r u hu
  obtain ⟨j, hj', rfl⟩ := List.mem_map.1 hp
  have hj' := List.mem_range.1 hj'
  refine xe_ok (b1 := baseB hj sel els.length) (b2 := baseJ hj ints) ?_ hu
  simp only [List.any_cons, List.any_nil, Bool.or_false]
  rw [rhoB_bit hj sel _ hj', hm j hj', List.take_length]
theorem thN_ok : Th.ok (baseB hj sel els.length) (baseB hj sel els.length) thN := by
  intro p hp r u hu
  obtain rfl := List.mem_singleton.1 hp
  have hu : u = .int .i64 ((baseB hj sel els.length).rho 13) := hu
  show u = .int .i64 ((baseB hj sel els.length).rho 9)
  rw [hu, rhoB_k, show (baseB hj sel els.length).rho 9 = els.length from rho9 hj _]
theorem loopB (hv : (els.all fun el => (okOpE 0).val el) = true) {ints : List Int} {m : Nat} (hm : ∀ j, j < 16 → (baseJ hj ints).rho (m + j) = b2i (decide ((j : Int) ∈ toldL sel els))) {K : Know} (hK : KnowOk K (baseJ hj ints).rho (baseJ hj ints).sig)
    {c : Code} {hd : Nat → St} {x : X} (hx : x ≠ .normal) {s1 : St} (hn1 : (hd 13).h.next = (hd 9).h.next) (hn2 : (hd 13).h.next = s1.h.next)
    (s1r : stepB c hd sel 1 = true) (s2r : stepB c hd sel 2 = true) (s3r : stepB c hd sel 3 = true) (hpre : preB hd = true) (hlast : lastB c hd m x s1 = true) (tag : Nat) :
    @LoopOk ((baseJ hj ints).withK K hK) Tryz.prog (rowL tag ⟨13, 0, 1⟩ thI (hd 13) x s1) c := by
  have ag0 : Agree ((baseJ hj ints).withK K hK) (baseB hj sel 0) ⟨13, 0, 1⟩ := ⟨rfl, rfl, (agreeJ hj ints _).n, (agreeJ hj ints _).s, fun _ _ => rfl⟩
  have agN : Agree (baseB hj sel els.length) ((baseJ hj ints).withK K hK) ⟨13, 0, 1⟩ := ⟨rfl, rfl, (agreeJ hj _ ints).n, (agreeJ hj _ ints).s, fun _ _ => rfl⟩
  refine @rowL_ok _ ((baseJ hj ints).withK K hK) (fun k => baseB hj sel k) c _ _ _ _ x hx els.length ag0 (thI_ok hj sel ints) (fun k hk => ?_) ?_ tag
  · have he : els[k]? = some els[k] := List.getElem?_eq_getElem hk
    have hok := List.all_eq_true.1 hv _ (List.getElem_mem hk)
    have hf := (op_facts (hj.ops.kd k _ he) hok).1
    intro r B a w1 hr
    refine turnsB hj (agreeJ hj _ _) rfl (holdsB hj sel he hok) (tabsB_el hj sel he) (thB_ok hj sel he) ?_ hr
    rcases hf with e | e | e <;> rw [e] <;> assumption
  · intro r B a w1 hr
    exact Turns.pre (b1 := baseB hj sel els.length) ⟨rfl, rfl, fun _ _ => rfl, fun _ _ => rfl, fun _ _ => rfl⟩ (thN_ok hj sel) hpre hn1 (turnsB hj agN (hn1.symm.trans hn2) (holdsE hj _) (tabsJ_ok hj _) (thO_ok hj sel hm) hlast) hr
end
end Go.Proofs.YthdcahkedlijpaaGreat.Am
namespace Go.Proofs.YthdcahkedlijpaaGreat
open Go.RowKit Go.Proofs.YthdcahkedlijpaaGreat.Am
theorem arr16 (bs : List Bool) (hb : bs.length = 16) : (#[Value.bool (bs[0]'(by omega)), .bool (bs[1]'(by omega)), .bool (bs[2]'(by omega)), .bool (bs[3]'(by omega)), .bool (bs[4]'(by omega)), .bool (bs[5]'(by omega)), .bool (bs[6]'(by omega)), .bool (bs[7]'(by omega)), .bool (bs[8]'(by omega)), .bool (bs[9]'(by omega)), .bool (bs[10]'(by omega)), .bool (bs[11]'(by omega)), .bool (bs[12]'(by omega)), .bool (bs[13]'(by omega)), .bool (bs[14]'(by omega)), .bool (bs[15]'(by omega))] : Array Value) = (bs.map Value.bool).toArray := by
  match bs, hb with
  | [_, _, _, _, _, _, _, _, _, _, _, _, _, _, _, _], _ => rfl
theorem index16 (bs : List Bool) (hb : bs.length = 16) (i : Nat) (h : i < bs.length) (W : World) : (Instr.index 87 (.agg (bs.map Value.bool).toArray) (.int .i64 i)).run Tryz.prog W = .ok (.bool bs[i]) W := by
  letI : Base := Base.plain 0 W
  have hu : Tryz.prog.underlying 87 = _ := Tryz.underlying87
  have hT : tyOf Tryz.prog 4 = some ⟨.one, 1, 1, [.bool false], false⟩ := by kernel_rfl
  have hs := size_run (P := Tryz.prog) (w := W) (tyOf_ok _) hT
  have hx : All2 (VS r0) (bs.map S.bool) (bs.map Value.bool) := by
    clear h hb
    induction bs with
    | nil => trivial
    | cons b bs ih => exact ⟨rfl, ih⟩
  have he : ext (bs.map S.bool) i 1 = some [S.bool bs[i]] := by
    unfold ext
    have : (bs.map S.bool).drop i = S.bool bs[i] :: (bs.map S.bool).drop (i + 1) := by
      rw [List.drop_eq_getElem_cons (by simpa using h)]
      simp
    rw [this]
    generalize (bs.map S.bool).drop (i + 1) = r
    cases r <;> rfl
  obtain ⟨u, h1, h2, _⟩ := part_ok (P := Tryz.prog) (w := W) (tyOf_ok _) hT hx he (x := .s (.bool bs[i])) rfl
  have h2 : u = .bool bs[i] := h2
  subst h2
  simp [Instr.index, asIntOf, run_underlying hu, hs, hb ▸ h, h1]
set_option maxRecDepth 4000 in
set_option maxHeartbeats 400000 in
theorem jlist_any (bs : List Bool) (hb : bs.length = 16) (w : World) :
    Calls Tryz.prog 90 #[.agg (bs.map Value.bool).toArray] w fun e w' =>
      ∃ v, e = .returned v ∧ (incr 0 bs = [] → v = .slice none 0 0) ∧ w'.ownsRow (w.heap.size + 1) 3 1 v (incr 0 bs).length ((incr 0 bs).map (Value.int .i64)) ∧ Below w.heap.size w w' := by
  obtain ⟨i0, hi, hz0, hz1, hz2⟩ := info_parts introw
  go_enter Tryz.func90, Tryz.ntmps90
  go_wp2
  rw [arr16 bs hb]
  go_loopw [3, 7] (fun v m wr => ∃ (i : Nat), m = .int .i64 i ∧ i ≤ 16 ∧ (incr 0 (bs.take i) = [] → v = .slice none 0 0) ∧
      wr.ownsRow (w.heap.size + 1) 3 1 v (incr 0 (bs.take i)).length ((incr 0 (bs.take i)).map (Value.int .i64)) ∧ Below (w.heap.size + 1) (w.alloc (.cells (bs.map Value.bool).toArray 87)) wr) (fun _ m _ => 16 - (intOf m).toNat)
  case atStart => exact ⟨0, rfl, by omega, fun _ => rfl, World.ownsRow_nil _ _ _ _, Below.refl _ _⟩
  case round =>
    obtain ⟨i, rfl, hi16, hnil, hown, hbel⟩ := hrel
    have hsz : w.heap.size + 1 ≤ wr.heap.size := by have := hbel.size; simpa using this
    rcases Nat.lt_or_ge i 16 with hlt | hge
    · have hix := index16 bs hb i (by omega)
      have htake : bs.take (i + 1) = bs.take i ++ [bs[i]'(by omega)] := by rw [List.take_succ_eq_append_getElem (by omega)]
      have hl : (bs.take i).length = i := by rw [List.length_take]; omega
      have hle := incr_len (bs.take i) 0
      rw [hl] at hle
      generalize hbi : bs[i]'(by omega) = b at *
      have HT := Lib.hid htake
      have HL := Lib.hid hl
      have HE := Lib.hid hle
      have HN := Lib.hid hnil
      clear htake hl hbi hle hnil
      cases b
      · go_wp2
        go_roundw
        case rel =>
          refine ⟨i + 1, by simp, by omega, ?_, ?_, hbel⟩
          · rw [HT.out, incr_app]
            simpa using HN.out
          · rw [HT.out, incr_app]
            simpa using hown
        case measure => simp [intOf]; omega
      · have hlen : (incr 0 (bs.take i)).length + 1 ≤ 17 := by have := HE.out; omega
        go_wp2_with (at_builtin; refine wpList_append1 rfl _ _ 69 rfl (w.heap.size + 1) 3 (.int .i64 0) 8 Tryz.underlying69 introw rfl _ _ _ rfl hown (.int .i64 i) rfl rfl (by omega) (by omega) hbel hsz ?_; intro v1 w1 hown1 hbel1)
        go_roundw
        case rel =>
          refine ⟨i + 1, by simp, by omega, ?_, ?_, hbel1⟩
          · rw [HT.out, incr_app]
            simp
          · rw [HT.out, incr_app, HL.out]
            simpa using hown1
        case measure => simp [intOf]; omega
    · obtain rfl : i = 16 := by omega
      have htake : bs.take 16 = bs := List.take_of_length_le (by omega)
      rw [htake] at hown hnil
      have HN := Lib.hid hnil
      clear hnil
      have hbel' : Below w.heap.size w wr := ⟨hbel.os, hbel.tape, hbel.output, by omega, fun k hk => (hbel.block k (by omega)).trans (heap_alloc_old w _ hk)⟩
      go_wp2
      go_ret
      exact ⟨_, rfl, HN.out, hown, hbel'⟩
end Go.Proofs.YthdcahkedlijpaaGreat
namespace Go.Proofs.YthdcahkedlijpaaGreat.Am
open Go.RowKit
set_option maxRecDepth 100000
set_option linter.unusedVariables false
set_option linter.unusedSectionVars false
def boolsT (T : List Int) : List Bool := (List.range 16).map fun j => decide (((j : Nat) : Int) ∈ T)
def incT (T : List Int) : List Int := incr 0 (boolsT T)
theorem boolsT_len (T : List Int) : (boolsT T).length = 16 := by simp [boolsT]
theorem boolsT_at {T : List Int} {j : Nat} (h : j < 16) : (boolsT T)[j]? = some (decide ((j : Int) ∈ T)) := by
  unfold boolsT
  rw [List.getElem?_map, List.getElem?_range h]
  rfl
theorem incT_len (T : List Int) : (incT T).length ≤ 16 := by have := incr_len (boolsT T) 0; rw [boolsT_len] at this; exact this
theorem incT_mem {T : List Int} {x : Int} : x ∈ incT T ↔ x ∈ T ∧ 0 ≤ x ∧ x ≤ 15 := by
  unfold incT
  rw [incr_mem]
  constructor
  · rintro ⟨j, h, rfl⟩
    have hj : j < 16 := by have := (List.getElem?_eq_some_iff.1 h).1; rwa [boolsT_len] at this
    rw [boolsT_at hj] at h
    have h := of_decide_eq_true (Option.some.inj h)
    rw [Nat.zero_add]
    exact ⟨h, by omega, by omega⟩
  · rintro ⟨h, h0, h1⟩
    refine ⟨x.toNat, ?_, by omega⟩
    rw [boolsT_at (by omega), show ((x.toNat : Nat) : Int) = x by omega]
    simp [h]
def intsJ (l : List Int) : List Value := l.map (Value.int .i64)
def S.oneR (x : S) : Bool := match x with | .rv _ => true | x => x.one
def A.eqb (x y : A) : Bool := match x, y with | .s x, .s y => x.eqb y | .g l, .g m => sameL S.eqb l m | _, _ => false
theorem A.eqb_ok {x y : A} (h : x.eqb y = true) : x = y := by
  unfold A.eqb at h
  split at h
  · rw [S.eqb_ok h]
  · rw [sameB (fun _ _ => S.eqb_ok) h]
  · cases h
noncomputable def rowG (F : FuncId) (xs0 : List A) (v : V) : Oracle := pureO F fun args => bif sameL A.eqb xs0 args then some v else none
noncomputable def newR (res : List S) (h : Heap) : V × Heap := match res with
  | [] => (.a (.s .nils), h)
  | res => (.a (.s (.sl h.next 0 res.length 1 none)), h.alloc res)
noncomputable def rowN (F : FuncId) (cells res : List S) : Oracle := fun f args h _ => bif f == F then (match args with | [.g xs] => bif sameL S.eqv cells xs then some (newR res h) else none | _ => none) else none
section
variable [Base]
theorem VS.one_sameR {r r' : Ren} {x : S} (h : x.oneR = true) {v v' : Value} (k : VS r x v) (k' : VS r' x v') : v = v' := by
  by_cases hx : ∃ j, x = .rv j
  · obtain ⟨j, rfl⟩ := hx
    obtain ⟨A, n, c, e1, e2⟩ := k
    obtain ⟨A', n', c', e3, e4⟩ := k'
    rw [e2, e4, ← e1, e3]
  · have h1 : x.one = true := by
      cases x <;> first | exact h | exact absurd ⟨_, rfl⟩ hx
    exact VS.one_same h1 k k'
theorem ones_sameR {r r' : Ren} : ∀ {xs : List S}, xs.all S.oneR = true → ∀ {us vs : List Value}, All2 (VS r) xs us → All2 (VS r') xs vs → us = vs
  | [], _, [], [], _, _ => rfl
  | x :: xs, h, u :: us, v :: vs, hu, hv => by
    simp only [List.all_cons, Bool.and_eq_true] at h
    rw [VS.one_sameR h.1 hu.1 hv.1, ones_sameR h.2 hu.2 hv.2]
  | [], _, [], _ :: _, _, h => h.elim
  | [], _, _ :: _, _, h, _ => h.elim
  | _ :: _, _, [], _, h, _ => h.elim
  | _ :: _, _, _ :: _, [], _, h => h.elim
noncomputable def A.oneR (x : A) : Bool := x.cells.all S.oneR
theorem A.one_sameR {r r' : Ren} {x : A} (h : x.oneR = true) {v v' : Value} (k : VA r x v) (k' : VA r' x v') : v = v' := by
  cases x with
  | s x => exact VS.one_sameR (by have h : ([x].all S.oneR) = true := h; simpa using h) k k'
  | g l =>
    obtain ⟨us, rfl, h1⟩ := k
    obtain ⟨vs, rfl, h2⟩ := k'
    rw [ones_sameR h h1 h2]
theorem As.one_sameR {r r' : Ren} : ∀ {xs : List A}, xs.all A.oneR = true → ∀ {us vs : List Value}, All2 (VA r) xs us → All2 (VA r') xs vs → us = vs
  | [], _, [], [], _, _ => rfl
  | x :: xs, h, u :: us, v :: vs, hu, hv => by
    simp only [List.all_cons, Bool.and_eq_true] at h
    rw [A.one_sameR h.1 hu.1 hv.1, As.one_sameR h.2 hu.2 hv.2]
  | [], _, [], _ :: _, _, h => h.elim
  | [], _, _ :: _, _, h, _ => h.elim
  | _ :: _, _, [], _, h, _ => h.elim
  | _ :: _, _, _ :: _, [], _, h => h.elim
theorem sound_rowG {P : Program} {F : FuncId} (hc : Callable P F) {xs0 : List A} {v : V} (h1 : xs0.all A.oneR = true) {us : List Value} (hus : All2 (VA r0) xs0 us) {u : Value} (hu : ∀ r, VV r v u)
    (h : Holds0 fun w => Calls P F us.toArray w fun e w' => e = .returned u ∧ Below w.heap.size w w') : Sound P (rowG F xs0 v) := by
  refine sound_pure hc fun args v' hg r vs ha w hw => ?_
  cases hs : sameL A.eqb xs0 args <;> rw [hs] at hg <;> simp only [cond_true, cond_false] at hg
  · cases hg
  · cases hg
    have e := sameB (fun _ _ => A.eqb_ok) hs
    subst e
    obtain rfl := As.one_sameR h1 ha hus
    exact (h w hw).mono fun e w' ⟨e1, e2⟩ => ⟨u, e1, hu r, e2⟩
theorem sound_rowN {F : FuncId} (hF : Callable Tryz.prog F)
    (h : ∀ (bs : List Bool), bs.length = 16 → ∀ w : World, Calls Tryz.prog F #[.agg (bs.map Value.bool).toArray] w fun e w' => ∃ v, e = .returned v ∧ (incr 0 bs = [] → v = .slice none 0 0) ∧ w'.ownsRow (w.heap.size + 1) 3 1 v (incr 0 bs).length ((incr 0 bs).map (Value.int .i64)) ∧ Below w.heap.size w w')
    {cells res : List S} {T : List Int} (hc : ∀ r us, All2 (VS r) cells us → us = (boolsT T).map Value.bool) (hr : ∀ r, All2 (VS r) res (intsJ (incT T))) : Sound Tryz.prog (rowN F cells res) := by
  intro f args hp fl v h' e
  unfold rowN at e
  cases hf : (f == F) <;> rw [hf] at e <;> simp only [cond_true, cond_false] at e
  · cases e
  obtain rfl : f = F := by simpa using hf
  split at e
  · rename_i xs
    cases hs : sameL S.eqv cells xs <;> rw [hs] at e <;> simp only [cond_true, cond_false] at e
    · cases e
    have e0 := sameL_eq (fun _ _ => S.eqv_ok) hs
    subst e0
    refine ⟨hF, fun r B w vs hi ha => ?_⟩
    match vs, ha with
    | [u], ⟨⟨us, hu, hus⟩, _⟩ =>
      subst hu
      obtain rfl := hc r us hus
      refine (h (boolsT T) (boolsT_len T) w).mono fun e' w' ⟨v', e1, hnil, hown, hbel⟩ => ⟨v', e1, ?_⟩
      have hcs := hr r
      have hlen := hcs.len
      unfold intsJ at hlen
      rw [List.length_map] at hlen
      cases hres : res with
      | nil =>
        rw [hres] at e hlen
        cases e
        have : incr 0 (boolsT T) = [] := List.eq_nil_of_length_eq_zero hlen.symm
        rw [hnil this]
        exact Post.below hi hbel rfl
      | cons x xs =>
        rw [hres] at e hlen hcs
        cases e
        obtain ⟨h1, h2⟩ := hown
        have hl2 : (incr 0 (boolsT T)).length = xs.length + 1 := by have h3 : (incT T).length = (x :: xs).length := hlen.symm; rw [List.length_cons] at h3; exact h3
        rcases h2 with ⟨rfl, h0⟩ | ⟨g, cap, cur, rfl, hg, hcur, hn, hmx, hsz, htk⟩
        · omega
        · have hxl : (x :: xs).length = xs.length + 1 := rfl
          have := Post.row (fl := fl) hi hbel (cs := x :: xs) (us := (incr 0 (boolsT T)).map (Value.int .i64)) (z := 1) (n := (x :: xs).length) (by omega) hcur (by omega) (by omega) hmx hsz (by simpa using htk) hcs
          rw [hl2]
          exact this
  · cases e
end
theorem sound_jlist (b : Base) {cells res : List S} {T : List Int} (hc : ∀ r us, All2 (@VS b r) cells us → us = (boolsT T).map Value.bool) (hr : ∀ r, All2 (@VS b r) res (intsJ (incT T))) : @Sound b Tryz.prog (rowN 90 cells res) :=
  @sound_rowN b _ ⟨_, Tryz.func90, by kernel_rfl, by kernel_rfl⟩ jlist_any _ _ _ hc hr
end Go.Proofs.YthdcahkedlijpaaGreat.Am
