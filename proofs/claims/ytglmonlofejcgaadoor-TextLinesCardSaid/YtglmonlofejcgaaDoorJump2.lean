/- Jumps: which are valid; Check and the reference's Check and Valid answer by that test. Loops over a jump's operands that lay truth values: which locals they tell. jump.list: the numbers of the truth values that are true, in order. Rows of calls of one jump; lists of locals that truth values tell. -/
import Derived.Test.YtglmonlofejcgaaDoorJump1
import Derived.Test.YtglmonlofejcgaaDoorTests5
import Derived.Test.YtglmonlofejcgaaDoorAmC
import Derived.Test.YtglmonlofejcgaaDoorLoanK
namespace Go.Proofs.YtglmonlofejcgaaDoor.Am
open Go.RowKit
set_option maxRecDepth 100000
set_option linter.unusedVariables false
set_option linter.unusedSectionVars false
abbrev kJ : List Kd := kPre ++ .i .i64 :: kPost
def inRE (i : Nat) (c : Int) : E := .ands [.not (.lt i 0), .lt i c]
def okJB : E :=
 .or (.ands [.zero [(0, 1)], .zero (zs 1 6), inRE 7 24, .zero (zs 8 5)])
 (.or (.ands [.zero [(0, 2)], .zero [(14, 1)], .zero [(6, 0)], inRE 7 24, inRE 8 24, .zero (zs 9 4)])
 (.or (.ands [.or (.zero [(0, 3)]) (.zero [(0, 5)]), .zero (zs 1 12)])
 (.ands [.zero [(0, 4)], .zero (zs 1 5), inRE 6 8, inRE 7 24, .zero [(8, 0)], .lt 9 9, .zero [(15, 1)], .zero [(13, 1)]])))
def flatJ (pre : List Value) (els : List (List Value)) (post : List Value) : List Value := pre ++ Value.int .i64 els.length :: post
def bitsJ (pre : List Value) (els : List (List Value)) (post : List Value) : List Int :=
 [b2i (els.all fun el => (okOpE 0).val el), b2i ((okOpE 1).val (flatJ pre els post)), b2i ((okPlE 10).val (flatJ pre els post))]
def okJ (pre : List Value) (els : List (List Value)) (post : List Value) : Bool := okJB.val (flatJ pre els post ++ (bitsJ pre els post).map (Value.int .i64))
def TestsJ (F : FuncId) (val : Bool → Value) : Prop :=
 ∀ (w : World) (v : Value) (pre : List Value) (sv : Value) (post : List Value) (els : List (List Value)), JumpIs w v pre sv post els → Calls Tryd.prog F #[v] w fun e w' => e = .returned (val (okJ pre els post)) ∧ Below w.heap.size w w'
noncomputable def jB (L : Lf) : List Oracle := letI := L.know []
 [bitO 52 (clL L 10 kPl) 15 m8, bitO 94 (clL L 10 kPl) 15 m8, bitO 51 (clL L 1 kOp) 14 m8, bitO 96 (clL L 1 kOp) 14 m8]
noncomputable def jRun (F : FuncId) (L : Lf) : R := @runsL (L.know []) (tyOf Tryd.prog) (fnOf Tryd.prog) (orcs (jB L)) tbJ (loopsJ L) 30 15 F (([.g cellsJ] : List A).map L.nA) ⟨[], 0⟩ 0
noncomputable def jAt (mk : Bool → V) (F : FuncId) (L : Lf) : Bool := Option.rec false (fun b => sayV (mk b) (jRun F L)) (@E.abs (L.know []) ((cellsT 0 kJ ++ [S.xi .i64 13, S.xi .i64 14, S.xi .i64 15]).map L.nS) okJB)
noncomputable def L0J : Lf := (Lf.startB [(true, kJ)] [] [(0, 1), (0, 1), (0, 1)]).lo 9 0
theorem b01 (b : Bool) : (0 : Int) ≤ b2i b ∧ b2i b ≤ 1 := by cases b <;> decide
section
variable {w : World} {v : Value} {pre : List Value} {sv : Value} {post : List Value} {els : List (List Value)} (hj : JumpIs w v pre sv post els)
include hj
theorem len_pre : pre.length = 9 := by have := hj.pre.len; simp [kPre] at this; omega
theorem len_post : post.length = 3 := by have := hj.post.len; simp [kPost] at this; omega
theorem ok_flat : All2 Kd.ok kJ (flatJ pre els post) :=
 hj.pre.app ⟨⟨_, rfl, by show (-9223372036854775808 : Int) ≤ _; omega, hj.ops.most⟩, hj.post⟩
theorem len_flat : (flatJ pre els post).length = 13 := by have := (ok_flat hj).len; simp [kJ, kPre, kPost] at this; omega
theorem gps_flat : Gps [(true, kJ)] [.agg (flatJ pre els post).toArray] (flatJ pre els post) := ⟨flatJ pre els post, [], (List.append_nil _).symm, ⟨ok_flat hj, .inl ⟨rfl, rfl⟩⟩, rfl⟩
theorem cell_len : cellI (flatJ pre els post) 9 = els.length := by
 unfold cellI flatJ
 rw [List.getElem?_append_right (by have := len_pre hj; omega), len_pre hj]
 rfl
theorem sound_jB {L : Lf} [b0 : Base] (hK : b0.toKnow = L.know []) {full : List Value} {ints : List Value} (hf : full = flatJ pre els post ++ ints) (h1 : Base.rho = rhoOf full) (h2 : Base.sig = sigOf full) (hL : L.Holds Base.rho Base.sig)
  (r14 : Base.rho 14 = b2i ((okOpE 1).val (flatJ pre els post))) (r15 : Base.rho 15 = b2i ((okPlE 10).val (flatJ pre els post))) : Sound Tryd.prog (orcs (jB L)) := by
 have hk := ok_flat hj
 have hlen := len_flat hj
 subst hf
 have hp : All2 Kd.ok kPl (((flatJ pre els post).drop 10).take 3) := (hk.drop 10).take 3
 have ho : All2 Kd.ok kOp (((flatJ pre els post).drop 1).take 5) := (hk.drop 1).take 5
 have cp : All2 (VS r0) (clL L 10 kPl) (((flatJ pre els post).drop 10).take 3) := clL_ok hL h1 h2 (part_eq (flatJ pre els post) _ 10 3) (by simp [hlen]) hp
 have co : All2 (VS r0) (clL L 1 kOp) (((flatJ pre els post).drop 1).take 5) := clL_ok hL h1 h2 (part_eq (flatJ pre els post) _ 1 5) (by simp [hlen]) ho
 have e14 : (okOpE 0).val (((flatJ pre els post).drop 1).take 5) = (okOpE 1).val (flatJ pre els post) := (mv_val (okOpE 0) (by decide)).trans rfl
 rw [← e14] at r14
 rw [← pl_at] at r15
 have key : ∀ O ∈ @List.cons Oracle (@bitO b0.toKnow 52 (clL L 10 kPl) 15 m8) [@bitO b0.toKnow 94 (clL L 10 kPl) 15 m8, @bitO b0.toKnow 51 (clL L 1 kOp) 14 m8, @bitO b0.toKnow 96 (clL L 1 kOp) 14 m8], Sound Tryd.prog O := by
  intro O hO
  simp only [List.mem_cons, List.not_mem_nil, or_false] at hO
  rcases hO with rfl | rfl | rfl | rfl
  ·exact sound_bit ⟨_, Tryd.func52, by kernel_rfl, by kernel_rfl⟩ (ones_T L kPl 10 rfl) cp r15 (fun _ => rfl) fun w _ => plA_tests _ hp w trivial
  ·exact sound_bit ⟨_, Tryd.func94, by kernel_rfl, by kernel_rfl⟩ (ones_T L kPl 10 rfl) cp r15 (fun _ => rfl) fun w _ => plB_tests _ hp w trivial
  ·exact sound_bit ⟨_, Tryd.func51, by kernel_rfl, by kernel_rfl⟩ (ones_T L kOp 1 rfl) co r14 (fun _ => rfl) fun w _ => opA_tests _ ho w trivial
  ·exact sound_bit ⟨_, Tryd.func96, by kernel_rfl, by kernel_rfl⟩ (ones_T L kOp 1 rfl) co r14 (fun _ => rfl) fun w _ => opB_tests _ ho w trivial
 rw [hK] at key
 exact sound_orcs key
theorem loops_13 {bo : Base} (hnb : bo.nb = w.heap.size) (hg : bo.g = fun b => w.heap[b]?) (hl : bo.rho 9 = els.length) (hv : (bo.lst 0).v = sv) (h13 : bo.rho 13 = b2i (els.all fun el => (okOpE 0).val el)) {L : Lf} (hL : L.Holds bo.rho bo.sig) :
  ∀ f F c, Tryd.prog.funcs[f]? = some F → F.body = some c → Loops.ok (@LoopOk bo Tryd.prog (loopsJ L f)) c := by
 let cs : Nat → Int := fun i => match els[i]? with | some el => bif (okOpE 0).val el then 0 else 8 | none => 0
 have hcs : ∀ i el, els[i]? = some el → v8 ((okOpE 0).val el) = .int .i64 (cs i) := fun i el h => by
  simp only [cs, h]
  cases (okOpE 0).val el <;> rfl
 have hs : ∀ i el, els[i]? = some el → Says 51 el (cs i) := fun i el h w => by rw [← hcs i el h]; exact opA_tests el (hj.ops.kd i el h) w trivial
 have hs' : ∀ i el, els[i]? = some el → Says 96 el (cs i) := fun i el h w => by rw [← hcs i el h]; exact opB_tests el (hj.ops.kd i el h) w trivial
 have hall : ∀ i, i < els.length → ((okOpE 0).val ((els[i]?).getD []) = true ↔ cs i = 0) := fun i hi => by
  simp only [cs, List.getElem?_eq_getElem hi, Option.getD_some]
  cases (okOpE 0).val els[i] <;> simp
 intro f F c hF hc
 unfold loopsJ
 cases hp : nth L.iv 13 with
 | none => exact Loops.ok_all (fun c => @LoopOk.none bo _ c) c
 | some p =>
  have hiv : p.1 ≤ bo.rho 13 ∧ bo.rho 13 ≤ p.2 := hL.iv 13 p hp
  show Loops.ok (@LoopOk bo Tryd.prog ((bif decide (p = (1, 1)) then loopsGood else bif decide (p = (0, 0)) then loopsBad else loopsNone) f)) c
  cases h1 : decide (p = (1, 1)) with
  | true =>
   simp only [decide_eq_true_eq] at h1
   subst h1
   have hb : (els.all fun el => (okOpE 0).val el) = true := by
    cases hb : (els.all fun el => (okOpE 0).val el)
    ·rw [h13, hb] at hiv; simp [b2i] at hiv
    ·rfl
   refine loops_good hj.ops hs hs' hnb hg hl hv (fun i hi => (hall i hi).1 ?_) f F c hF hc
   rw [List.getElem?_eq_getElem hi]
   exact List.all_eq_true.1 hb _ (List.getElem_mem _)
  | false =>
   cases h2 : decide (p = (0, 0)) with
   | true =>
    simp only [decide_eq_true_eq] at h2
    subst h2
    have hb : (els.all fun el => (okOpE 0).val el) = false := by
     cases hb : (els.all fun el => (okOpE 0).val el)
     ·rfl
     ·rw [h13, hb] at hiv; simp [b2i] at hiv
    rcases first_bad cs els.length with h | ⟨N, k1, k2, k3⟩
    ·refine absurd (List.all_eq_true.2 fun el hel => ?_) (by rw [hb]; decide)
     obtain ⟨i, hi, e⟩ := List.getElem_of_mem hel
     have := (hall i hi).2 (h i hi)
     rw [List.getElem?_eq_getElem hi, e] at this
     exact this
    ·have k8 : cs N = 8 := by
      simp only [cs, List.getElem?_eq_getElem k1] at k3 ⊢
      cases hh : (okOpE 0).val els[N] <;> rw [hh] at k3 <;> simp at k3 ⊢
     exact loops_bad hj.ops hs hs' hnb hg hl hv k1 k2 k8 f F c hF hc
   | false => exact Loops.ok_all (fun c => @LoopOk.none bo _ c) c
@[reducible] noncomputable def baseJ (_ : JumpIs w v pre sv post els) (ints : List Int) : Base :=
 { Know.nought with nb := w.heap.size, g := fun k => w.heap[k]?, rho := rhoOf (behind (flatJ pre els post) [] ints), sig := sigOf (behind (flatJ pre els post) [] ints), ok := KnowOk.nought _ _, lst := fun _ => ⟨sv, els⟩ }
theorem cellsJ_ok (ints : List Int) : All2 (@VA (baseJ hj ints) r0) [.g cellsJ] [v] := by
 letI : Base := baseJ hj ints
 have hlenP := len_pre hj
 refine ⟨⟨pre ++ sv :: post, hj.v, ?_⟩, trivial⟩
 refine All2.app ?_ ⟨?_, ?_⟩
 ·exact cellsT_ok (pre := []) (us := pre) (post := Value.int .i64 els.length :: post ++ ints.map (Value.int .i64)) rfl rfl (by simp [behind, flatJ]) hj.pre
 ·obtain ⟨A, c, e⟩ := hj.ops.sl
  exact ⟨A, els.length, c, e, e⟩
 ·have := cellsT_ok (r := r0) (cs := behind (flatJ pre els post) [] ints) (pre := pre ++ [Value.int .i64 els.length]) (us := post) (post := ints.map (Value.int .i64)) rfl rfl (by simp [behind, flatJ]) hj.post
  rw [List.length_append, hlenP] at this
  exact this
theorem rho9 (ints : List Int) : (baseJ hj ints).rho 9 = els.length := by
 show rhoOf _ 9 = _
 rw [behind_cell (by rw [len_flat hj]; decide)]
 exact cell_len hj
theorem tabsJ_ok (ints : List Int) : @TabsOk (baseJ hj ints) tbJ := by
 letI : Base := baseJ hj ints
 refine ⟨fun l j hj' => ?_, fun l i cs hj' => (by cases hj'), fun i c j hj' => (by cases hj')⟩
 have hj' : (bif Nat.beq 0 l then some 9 else none) = some j := hj'
 cases hb : Nat.beq 0 l <;> rw [hb] at hj' <;> cases hj'
 obtain ⟨A, c, e⟩ := hj.ops.sl
 exact ⟨A, els.length, c, e, rho9 hj ints⟩
theorem startJ_ok {ivI : List (Int × Int)} {i0 i1 : List Int} (hI : All2 (fun p (m : Int) => p.1 ≤ m ∧ m ≤ p.2) ivI i0) : ((Lf.startB [(true, kJ)] [] ivI).lo 9 0).Holds (baseJ hj (i0 ++ i1)).rho (baseJ hj (i0 ++ i1)).sig :=
 (Lf.startB_some (gps_flat hj) (ivS := []) (strs := []) trivial rfl hI).lo (i := 9) (c := 0) (by
  have := rho9 hj (i0 ++ i1)
  show (0 : Int) ≤ (baseJ hj (i0 ++ i1)).rho 9
  rw [this]
  omega)
theorem lensJ (ints : List Int) : Lens [] (baseJ hj ints).rho (baseJ hj ints).sig := lens_behind (n := 13) (a := 0) (gps_flat hj) rfl (len_flat hj) rfl
theorem rhoJ (ints : List Int) {j : Nat} {x : Int} (h : ints[j]? = some x) : (baseJ hj ints).rho (13 + j) = x := behind_int (a := 0) (strs := []) (len_flat hj) rfl h
end
theorem jump_tests {F : FuncId} {mk : Bool → V} {val : Bool → Value} (hmk : ∀ (b0 : Base) r b u, @VV b0 r (mk b) u → u = val b) {sp : Sp} (hrun : ((sp.leaves L0J).all (jAt mk F)) = true) : TestsJ F val := by
 intro w v pre sv post els hj
 obtain ⟨L, hm, hL⟩ := sp.cover (startJ_ok hj (ivI := [(0, 1), (0, 1), (0, 1)]) (i0 := bitsJ pre els post) (i1 := []) ⟨b01 _, b01 _, b01 _, trivial⟩)
 have hp := List.all_eq_true.1 hrun L hm
 let b : Base := baseJ hj (bitsJ pre els post ++ [])
 letI bL : Base := b.withK (L.know []) (Lf.ok hL (lensJ hj _))
 have hc : All2 (VS r0) ((cellsT 0 kJ ++ [S.xi .i64 13, S.xi .i64 14, S.xi .i64 15]).map L.nS) (flatJ pre els post ++ (bitsJ pre els post).map (Value.int .i64)) := by
  refine @Lf.nSs_ok bL L r0 hL _ _ (All2.app (@cellsT_ok bL r0 (behind (flatJ pre els post) [] (bitsJ pre els post ++ [])) rfl rfl kJ (flatJ pre els post) [] ((bitsJ pre els post ++ []).map (Value.int .i64)) rfl (ok_flat hj)) ?_)
  refine ⟨?_, ?_, ?_, trivial⟩
  ·exact congrArg (Value.int .i64) (rhoJ hj (bitsJ pre els post ++ []) (j := 0) rfl).symm
  ·exact congrArg (Value.int .i64) (rhoJ hj (bitsJ pre els post ++ []) (j := 1) rfl).symm
  ·exact congrArg (Value.int .i64) (rhoJ hj (bitsJ pre els post ++ []) (j := 2) rfl).symm
 unfold jAt at hp
 cases hb : @E.abs (L.know []) ((cellsT 0 kJ ++ [S.xi .i64 13, S.xi .i64 14, S.xi .i64 15]).map L.nS) okJB with
 | none => rw [hb] at hp; cases hp
 | some q =>
  rw [hb] at hp
  obtain ⟨h', hr⟩ := sayV_is hp
  have hbv : q = okJ pre els post := (@E.abs_ok bL _ _ _ hc _ _ hb).symm
  have hS : @Sound bL Tryd.prog (@runsL (L.know []) (tyOf Tryd.prog) (fnOf Tryd.prog) (orcs (jB L)) tbJ (loopsJ L) 30 15) :=
   @runsL_ok bL _ _ (@tyOf_ok bL Tryd.prog) _ fnOkN _ (sound_jB hj (L := L) rfl (full := behind (flatJ pre els post) [] (bitsJ pre els post ++ [])) rfl rfl rfl hL (rhoJ hj _ (j := 1) rfl) (rhoJ hj _ (j := 2) rfl)) mixedN _ (TabsOk.withK (tabsJ_ok hj _) _) _
    (loops_13 hj (bo := bL) rfl rfl (rho9 hj _) rfl (rhoJ hj _ (j := 0) rfl) hL) 30 15
  refine (@calls_flat bL _ w (Nat.le_refl _) (fun _ _ => rfl) _ hS _ _ _ (@Lf.nAs_ok bL L r0 hL _ _ (cellsJ_ok hj _)) _ _ hr).mono fun x w' ⟨u, r', e1, e2, e3⟩ => ⟨?_, e3⟩
  rw [e1, hmk _ _ _ _ e2, hbv]
end Go.Proofs.YtglmonlofejcgaaDoor.Am
namespace Go.Proofs.YtglmonlofejcgaaDoor.Am
open Go.RowKit
set_option maxRecDepth 100000
set_option linter.unusedVariables false
set_option linter.unusedSectionVars false
def toldL (sel : Int → Bool) (els : List (List Value)) : List Int := els.flatMap fun el => bif sel (cellI el 0) then [cellI el 2] else []
def bitsT (T : List Int) : List Int := (List.range 16).map fun j => b2i (decide (((j : Nat) : Int) ∈ T))
def intsB (sel : Int → Bool) (els : List (List Value)) (k : Nat) : List Int :=
 (k : Int) :: ((k + 1 : Nat) : Int) :: cellI ((els[k]?).getD []) 0 :: cellI ((els[k]?).getD []) 1 :: cellI ((els[k]?).getD []) 2 :: cellI ((els[k]?).getD []) 3 :: cellI ((els[k]?).getD []) 4 :: bitsT (toldL sel (els.take k))
noncomputable def onlyB (L : Lf) (i : Nat) (c : Int) : Lf := (L.hi i c).lo i c
section
variable {w : World} {v : Value} {pre : List Value} {sv : Value} {post : List Value} {els : List (List Value)} (hj : JumpIs w v pre sv post els) (sel : Int → Bool)
@[reducible] noncomputable def baseB (k : Nat) : Base := baseJ hj (intsB sel els k)
end
end Go.Proofs.YtglmonlofejcgaaDoor.Am
namespace Go.Proofs.YtglmonlofejcgaaDoor
open Go.RowKit Go.Proofs.YtglmonlofejcgaaDoor.Am
end Go.Proofs.YtglmonlofejcgaaDoor
namespace Go.Proofs.YtglmonlofejcgaaDoor.Am
open Go.RowKit
set_option maxRecDepth 100000
set_option linter.unusedVariables false
set_option linter.unusedSectionVars false
def S.oneR (x : S) : Bool := match x with | .rv _ => true | x => x.one
def A.eqb (x y : A) : Bool := match x, y with | .s x, .s y => x.eqb y | .g l, .g m => sameL S.eqb l m | _, _ => false
theorem A.eqb_ok {x y : A} (h : x.eqb y = true) : x = y := by
 unfold A.eqb at h
 split at h
 ·rw [S.eqb_ok h]
 ·rw [sameB (fun _ _ => S.eqb_ok) h]
 ·cases h
noncomputable def rowG (F : FuncId) (xs0 : List A) (v : V) : Oracle := pureO F fun args => bif sameL A.eqb xs0 args then some v else none
section
variable [Base]
theorem VS.one_sameR {r r' : Ren} {x : S} (h : x.oneR = true) {v v' : Value} (k : VS r x v) (k' : VS r' x v') : v = v' := by
 by_cases hx : ∃ j, x = .rv j
 ·obtain ⟨j, rfl⟩ := hx
  obtain ⟨A, n, c, e1, e2⟩ := k
  obtain ⟨A', n', c', e3, e4⟩ := k'
  rw [e2, e4, ← e1, e3]
 ·have h1 : x.one = true := by
   cases x <;> first | exact h | exact absurd ⟨_, rfl⟩ hx
  exact VS.one_same h1 k k'
theorem ones_sameR {r r' : Ren} : ∀ {xs : List S}, xs.all S.oneR = true → ∀ {us vs : List Value}, All2 (VS r) xs us → All2 (VS r') xs vs → us = vs
 | [], _, [], [], _, _ => rfl
 | x :: xs, h, u :: us, v :: vs, hu, hv => by
  simp only [List.all_cons, Bool.and_eq_true] at h
  rw [VS.one_sameR h.1 hu.1 hv.1, ones_sameR h.2 hu.2 hv.2]
 | [], _, [], _ :: _, _, h => h.elim
 | [], _, _ :: _, _, h, _ => h.elim
 | _ :: _, _, [], _, h, _ => h.elim
 | _ :: _, _, _ :: _, [], _, h => h.elim
noncomputable def A.oneR (x : A) : Bool := x.cells.all S.oneR
theorem A.one_sameR {r r' : Ren} {x : A} (h : x.oneR = true) {v v' : Value} (k : VA r x v) (k' : VA r' x v') : v = v' := by
 cases x with
 | s x => exact VS.one_sameR (by have h : ([x].all S.oneR) = true := h; simpa using h) k k'
 | g l =>
  obtain ⟨us, rfl, h1⟩ := k
  obtain ⟨vs, rfl, h2⟩ := k'
  rw [ones_sameR h h1 h2]
theorem As.one_sameR {r r' : Ren} : ∀ {xs : List A}, xs.all A.oneR = true → ∀ {us vs : List Value}, All2 (VA r) xs us → All2 (VA r') xs vs → us = vs
 | [], _, [], [], _, _ => rfl
 | x :: xs, h, u :: us, v :: vs, hu, hv => by
  simp only [List.all_cons, Bool.and_eq_true] at h
  rw [A.one_sameR h.1 hu.1 hv.1, As.one_sameR h.2 hu.2 hv.2]
 | [], _, [], _ :: _, _, h => h.elim
 | [], _, _ :: _, _, h, _ => h.elim
 | _ :: _, _, [], _, h, _ => h.elim
 | _ :: _, _, _ :: _, [], _, h => h.elim
theorem sound_rowG {P : Program} {F : FuncId} (hc : Callable P F) {xs0 : List A} {v : V} (h1 : xs0.all A.oneR = true) {us : List Value} (hus : All2 (VA r0) xs0 us) {u : Value} (hu : ∀ r, VV r v u)
  (h : Holds0 fun w => Calls P F us.toArray w fun e w' => e = .returned u ∧ Below w.heap.size w w') : Sound P (rowG F xs0 v) := by
 refine sound_pure hc fun args v' hg r vs ha w hw => ?_
 cases hs : sameL A.eqb xs0 args <;> rw [hs] at hg <;> simp only [cond_true, cond_false] at hg
 ·cases hg
 ·cases hg
  have e := sameB (fun _ _ => A.eqb_ok) hs
  subst e
  obtain rfl := As.one_sameR h1 ha hus
  exact (h w hw).mono fun e w' ⟨e1, e2⟩ => ⟨u, e1, hu r, e2⟩
end
end Go.Proofs.YtglmonlofejcgaaDoor.Am
