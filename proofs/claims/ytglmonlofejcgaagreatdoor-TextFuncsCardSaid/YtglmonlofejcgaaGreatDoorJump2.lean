/- Jumps: which are valid; Check and the reference's Check and Valid answer by that test. Loops over a jump's operands that lay truth values: which locals they tell. jump.list: the numbers of the truth values that are true, in order. Rows of calls of one jump; lists of locals that truth values tell. -/
import Derived.Test.YtglmonlofejcgaaGreatDoorJump1
import Derived.Test.YtglmonlofejcgaaGreatDoorTests5
import Derived.Test.YtglmonlofejcgaaGreatDoorAmC
import Derived.Test.YtglmonlofejcgaaGreatDoorTexts4U
set_option linter.unusedVariables false
set_option linter.unusedSectionVars false
set_option maxRecDepth 100000
namespace Go.Proofs.YtglmonlofejcgaaGreatDoor.Am
open Go.RowKit
abbrev kJ : List Kd := oM ++ .i .i64 :: kT
def F6 (i : Nat) (c : Int) : E := .ands [.not (.lt i 0), .lt i c]
def a3b : E :=
 .or (.ands [.zero [(0, 1)], .zero (zs 1 6), F6 7 24, .zero (zs 8 5)])
 (.or (.ands [.zero [(0, 2)], .zero [(14, 1)], .zero [(6, 0)], F6 7 24, F6 8 24, .zero (zs 9 4)])
 (.or (.ands [.or (.zero [(0, 3)]) (.zero [(0, 5)]), .zero (zs 1 12)])
 (.ands [.zero [(0, 4)], .zero (zs 1 5), F6 6 8, F6 7 24, .zero [(8, 0)], .lt 9 9, .zero [(15, 1)], .zero [(13, 1)]])))
def aW (pre : List Value) (els : List (List Value)) (post : List Value) : List Value := pre ++ Value.int .i64 els.length :: post
def lX (pre : List Value) (els : List (List Value)) (post : List Value) : List Int :=
 [b2i (els.all fun el => (bn 0).val el), b2i ((bn 1).val (aW pre els post)), b2i ((fU 10).val (aW pre els post))]
def okJ (pre : List Value) (els : List (List Value)) (post : List Value) : Bool := a3b.val (aW pre els post ++ (lX pre els post).map (Value.int .i64))
def RJ (F : FuncId) (val : Bool -> Value) : Prop :=
 ∀ (w : World) (v : Value) (pre : List Value) (sv : Value) (post : List Value) (els : List (List Value)), eU w v pre sv post els -> Calls Tryz.prog F #[v] w fun e w' => e = .returned (val (okJ pre els post)) /\ Below w.heap.size w w'
noncomputable def jB (L : Lf) : List aS := letI := L.know []
 [rG 95 (clL L 10 kPl) 15 m8, rG 127 (clL L 10 kPl) 15 m8, rG 97 (clL L 1 kOp) 14 m8, rG 129 (clL L 1 kOp) 14 m8]
noncomputable def alY (F : FuncId) (L : Lf) : R := @qE (L.know []) (lM Tryz.prog) (lZ Tryz.prog) (I7 (jB L)) tbJ (TM L) 30 15 F (([.g uh] : List A).map L.nA) ⟨[], 0⟩ 0
noncomputable def jAt (mk : Bool -> V) (F : FuncId) (L : Lf) : Bool := Option.rec false (fun b => vg (mk b) (alY F L)) (@E.abs (L.know []) ((bZ 0 kJ ++ [S.xi .i64 13, S.xi .i64 14, S.xi .i64 15]).map L.nS) a3b)
noncomputable def L0J : Lf := (Lf.lV [(true, kJ)] [] [(0, 1), (0, 1), (0, 1)]).lo 9 0
theorem b01 (b : Bool) : (0 : Int) <= b2i b /\ b2i b <= 1 := by cases b <;> decide
section
variable {w : World} {v : Value} {pre : List Value} {sv : Value} {post : List Value} {els : List (List Value)} (hj : eU w v pre sv post els)
include hj
theorem iD : pre.length = 9 := by have := hj.pre.len; simp [oM] at this; omega
theorem Us : post.length = 3 := by have := hj.post.len; simp [kT] at this; omega
theorem qP : ak Kd.ok kJ (aW pre els post) :=
 hj.pre.app ⟨⟨_, rfl, by show (-9223372036854775808 : Int) <= _; omega, hj.ops.most⟩, hj.post⟩
theorem iI : (aW pre els post).length = 13 := by have := (qP hj).len; simp [kJ, oM, kT] at this; omega
theorem Eo : Gps [(true, kJ)] [.agg (aW pre els post).toArray] (aW pre els post) := ⟨aW pre els post, [], (List.append_nil _).symm, ⟨qP hj, .inl ⟨rfl, rfl⟩⟩, rfl⟩
theorem iU : ah (aW pre els post) 9 = els.length := by
 unfold ah aW
 rw [List.getElem?_append_right (by have := iD hj; omega), iD hj]
 rfl
theorem aam {L : Lf} [b0 : Base] (hK : b0.toKnow = L.know []) {full : List Value} {ints : List Value} (hf : full = aW pre els post ++ ints) (h1 : Base.rho = dh full) (h2 : Base.sig = fD full) (hL : L.Holds Base.rho Base.sig)
  (r14 : Base.rho 14 = b2i ((bn 1).val (aW pre els post))) (r15 : Base.rho 15 = b2i ((fU 10).val (aW pre els post))) : Sound Tryz.prog (I7 (jB L)) := by
 have hk := qP hj
 have hlen := iI hj
 subst hf
 have hp : ak Kd.ok kPl (((aW pre els post).drop 10).take 3) := (hk.drop 10).take 3
 have ho : ak Kd.ok kOp (((aW pre els post).drop 1).take 5) := (hk.drop 1).take 5
 have cp : ak (VS r0) (clL L 10 kPl) (((aW pre els post).drop 10).take 3) := BP hL h1 h2 (E5 (aW pre els post) _ 10 3) (by simp [hlen]) hp
 have co : ak (VS r0) (clL L 1 kOp) (((aW pre els post).drop 1).take 5) := BP hL h1 h2 (E5 (aW pre els post) _ 1 5) (by simp [hlen]) ho
 have e14 : (bn 0).val (((aW pre els post).drop 1).take 5) = (bn 1).val (aW pre els post) := (uK (bn 0) (by decide)).trans rfl
 rw [<- e14] at r14
 rw [<- a7O] at r15
 have key : ∀ O ∈ @List.cons aS (@rG b0.toKnow 95 (clL L 10 kPl) 15 m8) [@rG b0.toKnow 127 (clL L 10 kPl) 15 m8, @rG b0.toKnow 97 (clL L 1 kOp) 14 m8, @rG b0.toKnow 129 (clL L 1 kOp) 14 m8], Sound Tryz.prog O := by
  intro O hO
  simp only [List.mem_cons, List.not_mem_nil, or_false] at hO
  rcases hO with rfl | rfl | rfl | rfl
  ·exact jJ ⟨_, Tryz.func95, by kernel_rfl, by kernel_rfl⟩ (jS L kPl 10 rfl) cp r15 (fun _ => rfl) fun w _ => rW _ hp w trivial
  ·exact jJ ⟨_, Tryz.func127, by kernel_rfl, by kernel_rfl⟩ (jS L kPl 10 rfl) cp r15 (fun _ => rfl) fun w _ => yH _ hp w trivial
  ·exact jJ ⟨_, Tryz.func97, by kernel_rfl, by kernel_rfl⟩ (jS L kOp 1 rfl) co r14 (fun _ => rfl) fun w _ => sO _ ho w trivial
  ·exact jJ ⟨_, Tryz.func129, by kernel_rfl, by kernel_rfl⟩ (jS L kOp 1 rfl) co r14 (fun _ => rfl) fun w _ => tu _ ho w trivial
 rw [hK] at key
 exact jA key
theorem adz {bo : Base} (hnb : bo.nb = w.heap.size) (hg : bo.g = fun b => w.heap[b]?) (hl : bo.rho 9 = els.length) (hv : (bo.lst 0).v = sv) (h13 : bo.rho 13 = b2i (els.all fun el => (bn 0).val el)) {L : Lf} (hL : L.Holds bo.rho bo.sig) :
  ∀ f F c, Tryz.prog.funcs[f]? = some F -> F.body = some c -> Loops.ok (@aO bo Tryz.prog (TM L f)) c := by
 let cs : Nat -> Int := fun i => match els[i]? with | some el => bif (bn 0).val el then 0 else 8 | none => 0
 have hcs : ∀ i el, els[i]? = some el -> v8 ((bn 0).val el) = .int .i64 (cs i) := fun i el h => by
  simp only [cs, h]
  cases (bn 0).val el <;> rfl
 have hs : ∀ i el, els[i]? = some el -> Says 97 el (cs i) := fun i el h w => by rw [<- hcs i el h]; exact sO el (hj.ops.kd i el h) w trivial
 have hs' : ∀ i el, els[i]? = some el -> Says 129 el (cs i) := fun i el h w => by rw [<- hcs i el h]; exact tu el (hj.ops.kd i el h) w trivial
 have hall : ∀ i, i < els.length -> ((bn 0).val ((els[i]?).getD []) = true ↔ cs i = 0) := fun i hi => by
  simp only [cs, List.getElem?_eq_getElem hi, Option.getD_some]
  cases (bn 0).val els[i] <;> simp
 intro f F c hF hc
 unfold TM
 cases hp : nth L.iv 13 with
 | none => exact Loops.pW (fun c => @aO.none bo _ c) c
 | some p =>
  have hiv : p.1 <= bo.rho 13 /\ bo.rho 13 <= p.2 := hL.iv 13 p hp
  show Loops.ok (@aO bo Tryz.prog ((bif decide (p = (1, 1)) then EX else bif decide (p = (0, 0)) then ND else Fj) f)) c
  cases h1 : decide (p = (1, 1)) with
  | true =>
   simp only [decide_eq_true_eq] at h1
   subst h1
   have hb : (els.all fun el => (bn 0).val el) = true := by
    cases hb : (els.all fun el => (bn 0).val el)
    ·rw [h13, hb] at hiv; simp [b2i] at hiv
    ·rfl
   refine Yt hj.ops hs hs' hnb hg hl hv (fun i hi => (hall i hi).1 ?_) f F c hF hc
   rw [List.getElem?_eq_getElem hi]
   exact List.all_eq_true.1 hb _ (List.getElem_mem _)
  | false =>
   cases h2 : decide (p = (0, 0)) with
   | true =>
    simp only [decide_eq_true_eq] at h2
    subst h2
    have hb : (els.all fun el => (bn 0).val el) = false := by
     cases hb : (els.all fun el => (bn 0).val el)
     ·rfl
     ·rw [h13, hb] at hiv; simp [b2i] at hiv
    rcases OW cs els.length with h | ⟨N, k1, k2, k3⟩
    ·refine absurd (List.all_eq_true.2 fun el hel => ?_) (by rw [hb]; decide)
     obtain ⟨i, hi, e⟩ := List.getElem_of_mem hel
     have := (hall i hi).2 (h i hi)
     rw [List.getElem?_eq_getElem hi, e] at this
     exact this
    ·have k8 : cs N = 8 := by
      simp only [cs, List.getElem?_eq_getElem k1] at k3 |-
      cases hh : (bn 0).val els[N] <;> rw [hh] at k3 <;> simp at k3 |-
     exact a5D hj.ops hs hs' hnb hg hl hv k1 k2 k8 f F c hF hc
   | false => exact Loops.pW (fun c => @aO.none bo _ c) c
@[reducible] noncomputable def rY (_ : eU w v pre sv post els) (ints : List Int) : Base :=
 { Know.nought with nb := w.heap.size, g := fun k => w.heap[k]?, rho := dh (behind (aW pre els post) [] ints), sig := fD (behind (aW pre els post) [] ints), ok := aG.nought _ _, lst := fun _ => ⟨sv, els⟩ }
theorem a4m (ints : List Int) : ak (@VA (rY hj ints) r0) [.g uh] [v] := by
 letI : Base := rY hj ints
 have hlenP := iD hj
 refine ⟨⟨pre ++ sv :: post, hj.v, ?_⟩, trivial⟩
 refine ak.app ?_ ⟨?_, ?_⟩
 ·exact jX (pre := []) (us := pre) (post := Value.int .i64 els.length :: post ++ ints.map (Value.int .i64)) rfl rfl (by simp [behind, aW]) hj.pre
 ·obtain ⟨A, c, e⟩ := hj.ops.sl
  exact ⟨A, els.length, c, e, e⟩
 ·have := jX (r := r0) (cs := behind (aW pre els post) [] ints) (pre := pre ++ [Value.int .i64 els.length]) (us := post) (post := ints.map (Value.int .i64)) rfl rfl (by simp [behind, aW]) hj.post
  rw [List.length_append, hlenP] at this
  exact this
theorem ajY (ints : List Int) : (rY hj ints).rho 9 = els.length := by
 show dh _ 9 = _
 rw [lC (by rw [iI hj]; decide)]
 exact iU hj
theorem aeg (ints : List Int) : @aZ (rY hj ints) tbJ := by
 letI : Base := rY hj ints
 refine ⟨fun l j hj' => ?_, fun l i cs hj' => (by cases hj'), fun i c j hj' => (by cases hj')⟩
 have hj' : (bif Nat.beq 0 l then some 9 else none) = some j := hj'
 cases hb : Nat.beq 0 l <;> rw [hb] at hj' <;> cases hj'
 obtain ⟨A, c, e⟩ := hj.ops.sl
 exact ⟨A, els.length, c, e, ajY hj ints⟩
theorem a4g {ivI : List (Int × Int)} {i0 i1 : List Int} (hI : ak (fun p (m : Int) => p.1 <= m /\ m <= p.2) ivI i0) : ((Lf.lV [(true, kJ)] [] ivI).lo 9 0).Holds (rY hj (i0 ++ i1)).rho (rY hj (i0 ++ i1)).sig :=
 (Lf.xG (Eo hj) (ivS := []) (strs := []) trivial rfl hI).lo (i := 9) (c := 0) (by
  have := ajY hj (i0 ++ i1)
  show (0 : Int) <= (rY hj (i0 ++ i1)).rho 9
  rw [this]
  omega)
theorem akN (ints : List Int) : Lens [] (rY hj ints).rho (rY hj ints).sig := qO (n := 13) (a := 0) (Eo hj) rfl (iI hj) rfl
theorem a4X (ints : List Int) {j : Nat} {x : Int} (h : ints[j]? = some x) : (rY hj ints).rho (13 + j) = x := gV (a := 0) (strs := []) (iI hj) rfl h
end
theorem N9 {F : FuncId} {mk : Bool -> V} {val : Bool -> Value} (hmk : ∀ (b0 : Base) r b u, @VV b0 r (mk b) u -> u = val b) {sp : Sp} (hrun : ((sp.leaves L0J).all (jAt mk F)) = true) : RJ F val := by
 intro w v pre sv post els hj
 obtain ⟨L, hm, hL⟩ := sp.cover (a4g hj (ivI := [(0, 1), (0, 1), (0, 1)]) (i0 := lX pre els post) (i1 := []) ⟨b01 _, b01 _, b01 _, trivial⟩)
 have hp := List.all_eq_true.1 hrun L hm
 let b : Base := rY hj (lX pre els post ++ [])
 letI bL : Base := b.aH (L.know []) (Lf.ok hL (akN hj _))
 have hc : ak (VS r0) ((bZ 0 kJ ++ [S.xi .i64 13, S.xi .i64 14, S.xi .i64 15]).map L.nS) (aW pre els post ++ (lX pre els post).map (Value.int .i64)) := by
  refine @Lf.Ky bL L r0 hL _ _ (ak.app (@jX bL r0 (behind (aW pre els post) [] (lX pre els post ++ [])) rfl rfl kJ (aW pre els post) [] ((lX pre els post ++ []).map (Value.int .i64)) rfl (qP hj)) ?_)
  refine ⟨?_, ?_, ?_, trivial⟩
  ·exact congrArg (Value.int .i64) (a4X hj (lX pre els post ++ []) (j := 0) rfl).symm
  ·exact congrArg (Value.int .i64) (a4X hj (lX pre els post ++ []) (j := 1) rfl).symm
  ·exact congrArg (Value.int .i64) (a4X hj (lX pre els post ++ []) (j := 2) rfl).symm
 unfold jAt at hp
 cases hb : @E.abs (L.know []) ((bZ 0 kJ ++ [S.xi .i64 13, S.xi .i64 14, S.xi .i64 15]).map L.nS) a3b with
 | none => rw [hb] at hp; cases hp
 | some q =>
  rw [hb] at hp
  obtain ⟨h', hr⟩ := yO hp
  have hbv : q = okJ pre els post := (@E.qC bL _ _ _ hc _ _ hb).symm
  have hS : @Sound bL Tryz.prog (@qE (L.know []) (lM Tryz.prog) (lZ Tryz.prog) (I7 (jB L)) tbJ (TM L) 30 15) :=
   @qo bL _ _ (@qQ bL Tryz.prog) _ Pm _ (aam hj (L := L) rfl (full := behind (aW pre els post) [] (lX pre els post ++ [])) rfl rfl rfl hL (a4X hj _ (j := 1) rfl) (a4X hj _ (j := 2) rfl)) Bc _ (aZ.aH (aeg hj _) _) _
    (adz hj (bo := bL) rfl rfl (ajY hj _) rfl (a4X hj _ (j := 0) rfl) hL) 30 15
  refine (@gY bL _ w (Nat.le_refl _) (fun _ _ => rfl) _ hS _ _ _ (@Lf.yj bL L r0 hL _ _ (a4m hj _)) _ _ hr).mono fun x w' ⟨u, r', e1, e2, e3⟩ => ⟨?_, e3⟩
  rw [e1, hmk _ _ _ _ e2, hbv]
end Go.Proofs.YtglmonlofejcgaaGreatDoor.Am
namespace Go.Proofs.YtglmonlofejcgaaGreatDoor.Am
open Go.RowKit
def akX (sel : Int -> Bool) (els : List (List Value)) : List Int := els.flatMap fun el => bif sel (ah el 0) then [ah el 2] else []
def alo (T : List Int) : List Int := (List.range 16).map fun j => b2i (decide (((j : Nat) : Int) ∈ T))
def alv (sel : Int -> Bool) (els : List (List Value)) (k : Nat) : List Int :=
 (k : Int) :: ((k + 1 : Nat) : Int) :: ah ((els[k]?).getD []) 0 :: ah ((els[k]?).getD []) 1 :: ah ((els[k]?).getD []) 2 :: ah ((els[k]?).getD []) 3 :: ah ((els[k]?).getD []) 4 :: alo (akX sel (els.take k))
noncomputable def pX (L : Lf) (i : Nat) (c : Int) : Lf := (L.hi i c).lo i c
section
variable {w : World} {v : Value} {pre : List Value} {sv : Value} {post : List Value} {els : List (List Value)} (hj : eU w v pre sv post els) (sel : Int -> Bool)
@[reducible] noncomputable def amE (k : Nat) : Base := rY hj (alv sel els k)
end
end Go.Proofs.YtglmonlofejcgaaGreatDoor.Am
namespace Go.Proofs.YtglmonlofejcgaaGreatDoor
open Go.RowKit Am
end Go.Proofs.YtglmonlofejcgaaGreatDoor
namespace Go.Proofs.YtglmonlofejcgaaGreatDoor.Am
open Go.RowKit
def S.qJ (x : S) : Bool := match x with | .rv _ => true | x => x.one
def A.eqb (x y : A) : Bool := match x, y with | .s x, .s y => x.eqb y | .g l, .g m => iw S.eqb l m | _, _ => false
theorem A.rH {x y : A} (h : x.eqb y = true) : x = y := by
 unfold A.eqb at h
 split at h
 ·rw [S.rH h]
 ·rw [a1d (fun _ _ => S.rH) h]
 ·cases h
noncomputable def ku (F : FuncId) (xs0 : List A) (v : V) : aS := qj F fun args => bif iw A.eqb xs0 args then some v else none
section
variable [Base]
theorem VS.mM {r r' : Ren} {x : S} (h : x.qJ = true) {v v' : Value} (k : VS r x v) (k' : VS r' x v') : v = v' := by
 by_cases hx : ∃ j, x = .rv j
 ·obtain ⟨j, rfl⟩ := hx
  obtain ⟨A, n, c, e1, e2⟩ := k
  obtain ⟨A', n', c', e3, e4⟩ := k'
  rw [e2, e4, <- e1, e3]
 ·have h1 : x.one = true := by
   cases x <;> first | exact h | exact absurd ⟨_, rfl⟩ hx
  exact VS.Xi h1 k k'
theorem Lu {r r' : Ren} : ∀ {xs : List S}, xs.all S.qJ = true -> ∀ {us vs : List Value}, ak (VS r) xs us -> ak (VS r') xs vs -> us = vs
 | [], _, [], [], _, _ => rfl
 | x :: xs, h, u :: us, v :: vs, hu, hv => by
  simp only [List.all_cons, Bool.and_eq_true] at h
  rw [VS.mM h.1 hu.1 hv.1, Lu h.2 hu.2 hv.2]
 | [], _, [], _ :: _, _, h => h.elim
 | [], _, _ :: _, _, h, _ => h.elim
 | _ :: _, _, [], _, h, _ => h.elim
 | _ :: _, _, _ :: _, [], _, h => h.elim
noncomputable def A.qJ (x : A) : Bool := x.cells.all S.qJ
theorem A.mM {r r' : Ren} {x : A} (h : x.qJ = true) {v v' : Value} (k : VA r x v) (k' : VA r' x v') : v = v' := by
 cases x with
 | s x => exact VS.mM (by have h : ([x].all S.qJ) = true := h; simpa using h) k k'
 | g l =>
  obtain ⟨us, rfl, h1⟩ := k
  obtain ⟨vs, rfl, h2⟩ := k'
  rw [Lu h h1 h2]
theorem As.mM {r r' : Ren} : ∀ {xs : List A}, xs.all A.qJ = true -> ∀ {us vs : List Value}, ak (VA r) xs us -> ak (VA r') xs vs -> us = vs
 | [], _, [], [], _, _ => rfl
 | x :: xs, h, u :: us, v :: vs, hu, hv => by
  simp only [List.all_cons, Bool.and_eq_true] at h
  rw [A.mM h.1 hu.1 hv.1, As.mM h.2 hu.2 hv.2]
 | [], _, [], _ :: _, _, h => h.elim
 | [], _, _ :: _, _, h, _ => h.elim
 | _ :: _, _, [], _, h, _ => h.elim
 | _ :: _, _, _ :: _, [], _, h => h.elim
theorem dA {P : Program} {F : FuncId} (hc : dB P F) {xs0 : List A} {v : V} (h1 : xs0.all A.qJ = true) {us : List Value} (hus : ak (VA r0) xs0 us) {u : Value} (hu : ∀ r, VV r v u)
  (h : Ri fun w => Calls P F us.toArray w fun e w' => e = .returned u /\ Below w.heap.size w w') : Sound P (ku F xs0 v) := by
 refine iV hc fun args v' hg r vs ha w hw => ?_
 cases hs : iw A.eqb xs0 args <;> rw [hs] at hg <;> simp only [cond_true, cond_false] at hg
 ·cases hg
 ·cases hg
  have e := a1d (fun _ _ => A.rH) hs
  subst e
  obtain rfl := As.mM h1 ha hus
  exact (h w hw).mono fun e w' ⟨e1, e2⟩ => ⟨u, e1, hu r, e2⟩
end
end Go.Proofs.YtglmonlofejcgaaGreatDoor.Am
