/- The rule for a loop: rounds, the last round; a loop as a row; a law over lists. (No program in sight.) -/
import Derived.Test.YtaamdiknefodgaaDoorAmLoop
namespace Go.Proofs.YtaamdiknefodgaaDoor.Am
open Go.RowKit
set_option linter.unusedSectionVars false
set_option linter.unusedVariables false
noncomputable section

theorem Adv.trans' {fl : Nat} {m m' m'' : Heap} {r r' r'' : Ren} {w w' w'' : World} (d : ∀ l b, m.get l = some b → r.ok l) (d' : ∀ l b, m'.get l = some b → r'.ok l)
    (h : Adv fl m r w m' r' w') (k : Adv fl m' r' w' m'' r'' w'') : Adv fl m r w m'' r'' w'' where
  le := ⟨fun l hl => k.le.n l (h.le.n l hl), fun l hl => (k.le.blk l (h.le.n l hl)).trans (h.le.blk l hl), fun l hl => (k.le.off l (h.le.n l hl)).trans (h.le.off l hl), fun l hl => (k.le.cap l (h.le.n l hl)).trans (h.le.cap l hl)⟩
  nn := Nat.le_trans h.nn k.nn
  okn l hl := by
    rcases k.okn l hl with g | g
    · exact h.okn l g
    · exact .inr (Nat.le_trans h.nn g)
  os := k.os.trans h.os
  tape := k.tape.trans h.tape
  output := k.output.trans h.output
  size := Nat.le_trans h.size k.size
  frame b hb hno := by
    rw [k.frame b (Nat.lt_of_lt_of_le hb h.size) ?_, h.frame b hb hno]
    intro l c hc ho hfl he
    by_cases hl : l < m.next
    · obtain ⟨c', hc', ho'⟩ := h.old l c hl hc
      rw [h.le.blk l (d l c' hc')] at he
      exact hno l c' hc' (ho'.trans ho) hfl he
    · rcases (h.fresh l c (Nat.le_of_not_lt hl) hc).2 with hs | ⟨l0, b0, h0, o0, f0, e0⟩
      · omega
      · exact hno l0 b0 h0 o0 f0 (e0.symm.trans he)
  keep l hl hfl := by rw [k.keep l (Nat.lt_of_lt_of_le hl h.nn) hfl, h.keep l hl hfl]
  old l b' hl hb := by
    obtain ⟨c, hc, oc⟩ := k.old l b' (Nat.lt_of_lt_of_le hl h.nn) hb
    obtain ⟨e, hd, od⟩ := h.old l c hl hc
    exact ⟨e, hd, od.trans oc⟩
  fresh l b' hl hb := by
    by_cases hl' : l < m'.next
    · obtain ⟨c, hc, oc⟩ := k.old l b' hl' hb
      rw [k.le.blk l (d' l c hc), ← oc]
      exact h.fresh l c hl hc
    · obtain ⟨ho, hh⟩ := k.fresh l b' (Nat.le_of_not_lt hl') hb
      refine ⟨ho, ?_⟩
      rcases hh with hs | ⟨l0, b0, h0, o0, f0, e0⟩
      · exact .inl (Nat.le_trans h.size hs)
      · by_cases h00 : l0 < m.next
        · obtain ⟨c, hc, oc⟩ := h.old l0 b0 h00 h0
          exact .inr ⟨l0, c, hc, oc.trans o0, f0, by rw [e0, h.le.blk l0 (d l0 c hc)]⟩
        · rcases (h.fresh l0 b0 (Nat.le_of_not_lt h00) h0).2 with hs | ⟨l1, b1, h1, o1, f1, e1⟩
          · exact .inl (by rw [e0]; exact hs)
          · exact .inr ⟨l1, b1, h1, o1, f1, by rw [e0, e1]⟩

/-- what a round comes to: the state s1, under other numbers -/
def Goes (bo : Base) (B : Nat) (h : Heap) (r : Ren) (a : Act) (w : World) (x : X) (s1 : St) (e : Exit) (a' : Act) (w' : World) : Prop :=
  XR x e ∧ ∃ r', @Rel bo s1 r' B a' w' ∧ Adv 0 h r w s1.h r' w' ∧ a'.defers = a.defers
/-- from the head, under these numbers, a piece of code comes to s1 under those -/
def Turns (P : Program) (b1 b2 : Base) (c : Code) (hd : St) (x : X) (s1 : St) : Prop :=
  ∀ {r : Ren} {B : Nat} {a : Act} {w : World}, @Rel b1 hd r B a w → c.wp P (Goes b2 B hd.h r a w x s1) a w
theorem Parts.ok {bb : Base} {s : St} {r : Ren} {B : Nat} {a : Act} {w : World} (h : @Rel bb s r B a w) : Parts bb s r B a w := @Rel.parts bb s r B a w h
theorem loop_rounds {P : Program} {b : Nat → Base} {bo : Base} {c : Code} {hd s1 : St} {x : X} (hx : x ≠ .normal) {N : Nat} (step : ∀ k, k < N → Turns P (b k) (b (k + 1)) c hd .normal hd) (last : Turns P (b N) bo c hd x s1) :
    ∀ m k, k + m = N → ∀ {r : Ren} {B : Nat} {a : Act} {w : World}, @Rel (b k) hd r B a w → ∀ (f : Frame) (K : List Item) (cs : List Frame),
      ∃ e a' w', Goes bo B hd.h r a w x s1 e a' w' ∧ Arrives P (lone (f.at a (.code c :: .inLoop c :: K)) cs w) f K cs e a' w'
  | 0, k, hk, r, B, a, w, hr, f, K, cs => by
    obtain rfl : k = N := by omega
    obtain ⟨e, a1, w1, ho, harr⟩ := last hr f (.inLoop c :: K) cs
    refine ⟨e, a1, w1, ho, .pass (x := .inLoop c) rfl (fun _ _ => .inl ?_) harr⟩
    intro he
    subst he
    cases x <;> simp [Goes, XR] at ho
    exact hx rfl
  | m + 1, k, hk, r, B, a, w, hr, f, K, cs => by
    obtain ⟨e, a1, w1, ⟨h3, r1, h4, h5, h6⟩, harr⟩ := step k (by omega) hr f (.inLoop c :: K) cs
    cases e <;> simp only [XR] at h3
    obtain ⟨e2, a2, w2, ⟨k3, r2, k4, k5, k6⟩, harr2⟩ := loop_rounds hx step last m (k + 1) (by omega) h4 f K cs
    exact ⟨e2, a2, w2, ⟨k3, r2, k4, Adv.trans' (Parts.ok hr).dom (Parts.ok h4).dom h5 k5, k6.trans h6⟩, .of_steps (Steps.trans harr (.one step_inLoop)) harr2⟩

/-- a loop as a row: from a state that fits the head -/
def rowL (tag : Nat) (d : Bd) (th : Th) (hd : St) (x : X) (s1 : St) : Loops := fun t fl s =>
  bif Nat.beq t tag && Nat.beq fl 0 && Nat.beq s.h.next hd.h.next && fitSt d th hd s then some (x, s1) else none
theorem rowL_ok {P : Program} {bo : Base} {b : Nat → Base} {c : Code} {d : Bd} {th : Th} {hd s1 : St} {x : X} (hx : x ≠ .normal) {N : Nat} (ag : Agree bo (b 0) d) (ht : Th.ok bo (b 0) th)
    (step : ∀ k, k < N → Turns P (b k) (b (k + 1)) c hd .normal hd) (last : Turns P (b N) bo c hd x s1) (tag : Nat) : @LoopOk bo P (rowL tag d th hd x s1) c := by
  intro fl B s s' y r a w hr hl
  unfold rowL at hl
  cases hc : (Nat.beq c.tag tag && Nat.beq fl 0 && Nat.beq s.h.next hd.h.next && fitSt d th hd s) <;> rw [hc] at hl <;> simp only [cond_true, cond_false] at hl
  · cases hl
  cases hl
  simp only [Bool.and_eq_true] at hc
  obtain ⟨⟨⟨_, hf⟩, hnx⟩, hfit⟩ := hc
  obtain rfl := Nat.eq_of_beq_eq_true hf
  have hnx := Nat.eq_of_beq_eq_true hnx
  obtain ⟨k1, k2⟩ := fitSt_ok ag ht hfit hr
  have hadv := k2 (Parts.ok hr).n hnx (@Adv.refl bo 0 s.h r B w hr.i) (fun l _ h => absurd h (Nat.not_lt_zero l))
  intro f K cs
  obtain ⟨e, a', w', ⟨g1, r', g2, g3, g4⟩, harr⟩ := loop_rounds hx step last N 0 (by omega) k1 f K cs
  exact ⟨e, a', w', ⟨g1, r', g2, Adv.trans' (Parts.ok hr).dom (Parts.ok k1).dom hadv g3, g4⟩, .of_steps (.one step_loop) harr⟩

/-! other things are known -/
@[reducible] def Base.withK (b : Base) (K : Know) (ok : KnowOk K b.rho b.sig) : Base := { K with nb := b.nb, g := b.g, rho := b.rho, sig := b.sig, ok := ok, lst := b.lst }
theorem VV.withK {b : Base} {K : Know} (ok : KnowOk K b.rho b.sig) : @VV (b.withK K ok) = @VV b := rfl
theorem VS.withK {b : Base} {K : Know} (ok : KnowOk K b.rho b.sig) : @VS (b.withK K ok) = @VS b := rfl
theorem Rel.withK (b : Base) {K : Know} (ok : KnowOk K b.rho b.sig) {s : St} {r : Ren} {B : Nat} {a : Act} {w : World} (h : @Rel b s r B a w) : @Rel (b.withK K ok) s r B a w := by
  obtain ⟨f, n, bb, dom, own, ro, inj, nb, z⟩ := Parts.ok h
  exact @Rel.mk (b.withK K ok) _ _ _ _ _ f (@Inv.mk (b.withK K ok) _ _ _ _ n bb (@HR.mk (b.withK K ok) _ _ _ _ dom own ro inj nb z))
def X.same (x y : X) : Bool := match x, y with | .normal, .normal => true | .exit i, .exit j => Nat.beq i j | .ret, .ret => true | _, _ => false
theorem X.same_ok {x y : X} (h : x.same y = true) : x = y := by
  cases x <;> cases y <;> simp [X.same] at h
  · rfl
  · rw [h]
  · rfl
def tellsR (d : Bd) (th : Th) (x : X) (s1 : St) (r : XS) : Bool := Option.rec false (fun p => X.same p.1 x && fitSt d th s1 p.2) r
/-- a round, at each of its cases -/
theorem turns_runs {P : Program} (hm : P.follows .mixedOrders = true) {b1 b2 : Base} {d : Bd} (ag : Agree b1 b2 d) {c : Code} {hd s1 : St} (hnx : hd.h.next = s1.h.next) {x : X} {n : Nat} {ss : List Nat} {L0 : Lf} {sp : Sp}
    (h0 : L0.Holds b1.rho b1.sig) (hl : Lens ss b1.rho b1.sig) (C : Lf → Ctx) (th : Lf → Th)
    (hty : ∀ L (h : L.Holds b1.rho b1.sig), @TyOk (b1.withK (L.know ss) (Lf.ok h hl)) P (C L).ty) (hC : ∀ L (h : L.Holds b1.rho b1.sig), @CtxOk (b1.withK (L.know ss) (Lf.ok h hl)) P (C L))
    (hL : ∀ L (h : L.Holds b1.rho b1.sig), Loops.ok (@LoopOk (b1.withK (L.know ss) (Lf.ok h hl)) P (C L).loop) c) (hth : ∀ L, L ∈ sp.leaves L0 → L.Holds b1.rho b1.sig → Th.ok b1 b2 (th L))
    (hrun : ((sp.leaves L0).all fun L => tellsR d (th L) x s1 (@exec (L.know ss) (C L) 0 n c hd)) = true) : Turns P b1 b2 c hd x s1 := by
  intro r B a w hr
  obtain ⟨L, hmem, hLh⟩ := sp.cover h0
  have hrun := List.all_eq_true.1 hrun L hmem
  cases he : @exec (L.know ss) (C L) 0 n c hd with
  | none => rw [he] at hrun; cases hrun
  | some p =>
    obtain ⟨y, s⟩ := p
    rw [he] at hrun
    have hrun : (X.same y x && fitSt d (th L) s1 s) = true := hrun
    simp only [Bool.and_eq_true] at hrun
    obtain rfl := X.same_ok hrun.1
    refine wp_mono (@exec_ok (b1.withK (L.know ss) (Lf.ok hLh hl)) P (C L) 0 (hty L hLh) (hC L hLh) hm n c (hL L hLh) B hd s y r a w (Rel.withK b1 _ hr) he) fun e a' w' ⟨h1, r', h2, h3, h4⟩ => ?_
    have ag' : Agree (b1.withK (L.know ss) (Lf.ok hLh hl)) b2 d := ⟨ag.nb, ag.g, ag.n, ag.s, ag.l⟩
    obtain ⟨k1, k2⟩ := fitSt_ok ag' (hth L hmem hLh) hrun.2 h2
    exact ⟨h1, _, k1, k2 (Parts.ok hr).n hnx h3 (fun l _ h => absurd h (Nat.not_lt_zero l)), h4⟩

/-! which loops a piece of code has -/
def loopsIn (c : Code) : List Code :=
  Code.rec (motive := fun _ => List Code) [] (fun _ _ _ => []) (fun _ _ a b => a ++ b) (fun _ _ _ a b => a ++ b) (fun _ _ a => a) (fun c a => c :: a) (fun _ _ _ _ _ _ => []) (fun _ => []) (fun _ a => a) (fun _ => []) (fun _ => []) [] (fun _ => []) c
def loopAt (F : Func) (i : Nat) : Code := Option.rec .skip (fun c => (nth (loopsIn c) i).getD .skip) F.body
theorem Loops.ok_of {Q : Code → Prop} : ∀ c : Code, (∀ d ∈ loopsIn c, Q d) → Loops.ok Q c := by
  intro c
  induction c with
  | seq c d hc hd => exact fun h => ⟨hc fun e he => h e (List.mem_append.2 (.inl he)), hd fun e he => h e (List.mem_append.2 (.inr he))⟩
  | cond c t e ht he => exact fun h => ⟨ht fun e he => h e (List.mem_append.2 (.inl he)), he fun e he => h e (List.mem_append.2 (.inr he))⟩
  | block id c hc => exact hc
  | loop c hc => exact fun h => ⟨h c (List.mem_cons_self ..), hc fun e he => h e (List.mem_cons_of_mem _ he)⟩
  | scope c hc => exact hc
  | _ => exact fun _ => trivial
/-- loops of one function, the i-th one as a row -/
theorem Loops.ok_row {P : Program} {bo : Base} {F : Func} {c : Code} (hF : F.body = some c) {i tag : Nat} {d : Bd} {th : Th} {hd s1 : St} {x : X}
    (hu : ((loopsIn c).map Code.tag).Nodup) (hi : i < (loopsIn c).length) (htag : (loopAt F i).tag = tag) (h : @LoopOk bo P (rowL tag d th hd x s1) (loopAt F i)) : Loops.ok (@LoopOk bo P (rowL tag d th hd x s1)) c := by
  refine Loops.ok_of c fun e he => ?_
  have hat : loopAt F i = (loopsIn c)[i] := by
    unfold loopAt
    rw [hF]
    show (nth (loopsIn c) i).getD .skip = _
    rw [nth_eq, List.getElem?_eq_getElem hi]
    rfl
  rcases Decidable.em (e.tag = tag) with ht | ht
  · obtain ⟨j, hj, rfl⟩ := List.getElem_of_mem he
    have : j = i := by
      have h1 : ((loopsIn c).map Code.tag)[j]'(by simpa using hj) = ((loopsIn c).map Code.tag)[i]'(by simpa using hi) := by
        simp only [List.getElem_map]
        rw [ht, ← htag, hat]
      exact (List.getElem_inj hu).1 h1
    subst this
    rw [← hat]
    exact @h
  · intro fl B s s' y r a w _ hl
    unfold rowL at hl
    have : Nat.beq e.tag tag = false := by
      cases hb : Nat.beq e.tag tag
      · rfl
      · exact absurd (Nat.eq_of_beq_eq_true hb) ht
    rw [this] at hl
    cases hl
/-- rows of several functions -/
def rowsL (T : List (FuncId × Loops)) : FuncId → Loops := fun f t fl s => List.rec none (fun p _ ih => bif Nat.beq p.1 f then orXS (p.2 t fl s) ih else ih) T
theorem LoopOk.or {P : Program} {bo : Base} {L M : Loops} {c : Code} (h : @LoopOk bo P L c) (k : @LoopOk bo P M c) : @LoopOk bo P (fun t fl s => orXS (L t fl s) (M t fl s)) c := by
  intro fl B s s' x r a w hr hl
  have hl : orXS (L c.tag fl s) (M c.tag fl s) = some (x, s') := hl
  cases ho : L c.tag fl s with
  | none => rw [ho] at hl; exact k hr hl
  | some p => rw [ho] at hl; cases hl; exact h hr ho
theorem Loops.ok_mono {Q R : Code → Prop} (h : ∀ c, Q c → R c) (c : Code) : Loops.ok Q c → Loops.ok R c := by
  induction c with
  | seq c d hc hd => exact fun k => ⟨hc k.1, hd k.2⟩
  | cond c t e ht he => exact fun k => ⟨ht k.1, he k.2⟩
  | block id c hc => exact hc
  | loop c hc => exact fun k => ⟨h _ k.1, hc k.2⟩
  | scope c hc => exact hc
  | _ => exact fun _ => trivial
theorem Loops.ok_and {Q R : Code → Prop} (c : Code) : Loops.ok Q c → Loops.ok R c → Loops.ok (fun c => Q c ∧ R c) c := by
  induction c with
  | seq c d hc hd => exact fun h k => ⟨hc h.1 k.1, hd h.2 k.2⟩
  | cond c t e ht he => exact fun h k => ⟨ht h.1 k.1, he h.2 k.2⟩
  | block id c hc => exact hc
  | loop c hc => exact fun h k => ⟨⟨h.1, k.1⟩, hc h.2 k.2⟩
  | scope c hc => exact hc
  | _ => exact fun _ _ => trivial
theorem rowsL_ok {P : Program} {bo : Base} (T : List (FuncId × Loops)) (h : ∀ p ∈ T, ∀ F c, P.funcs[p.1]? = some F → F.body = some c → Loops.ok (@LoopOk bo P p.2) c) :
    ∀ f F c, P.funcs[f]? = some F → F.body = some c → Loops.ok (@LoopOk bo P (rowsL T f)) c := by
  intro f F c hF hc
  induction T with
  | nil =>
    have key : ∀ c, @LoopOk bo P (rowsL [] f) c := by
      intro c fl B s s' x r a w _ h
      cases h
    exact Loops.ok_all key c
  | cons p T ih =>
    have ih := ih fun q hq => h q (List.mem_cons_of_mem _ hq)
    cases hb : Nat.beq p.1 f with
    | false =>
      refine Loops.ok_mono (fun c hQ => ?_) c ih
      intro fl B s s' x r a w hr hl
      have hl : (bif Nat.beq p.1 f then orXS (p.2 c.tag fl s) (rowsL T f c.tag fl s) else rowsL T f c.tag fl s) = some (x, s') := hl
      rw [hb] at hl
      exact hQ hr hl
    | true =>
      have e := Nat.eq_of_beq_eq_true hb
      refine Loops.ok_mono (fun c hQ => ?_) c (Loops.ok_and c (h p (List.mem_cons_self ..) F c (by rw [e]; exact hF) hc) ih)
      intro fl B s s' x r a w hr hl
      have hl : (bif Nat.beq p.1 f then orXS (p.2 c.tag fl s) (rowsL T f c.tag fl s) else rowsL T f c.tag fl s) = some (x, s') := hl
      rw [hb] at hl
      exact LoopOk.or hQ.1 hQ.2 hr hl

/-- a law's answer, out of its cases: any numbers, strings, lists -/
theorem law_leaves {P : Program} {f : FuncId} {w : World} (b : Base) (hnb : b.nb ≤ w.heap.size) (hg : ∀ k, k < b.nb → w.heap[k]? = b.g k) {ss : List Nat} {L0 : Lf} {sp : Sp} (h0 : L0.Holds b.rho b.sig) (hl : Lens ss b.rho b.sig)
    (O : Lf → Oracle) (hO : ∀ L (h : L.Holds b.rho b.sig), @Sound (b.withK (L.know ss) (Lf.ok h hl)) P (O L)) {args : List A} {vs : List Value} (ha : All2 (@VA b r0) args vs)
    (hrun : ((sp.leaves L0).all fun L => tells true (O L f (args.map L.nA) ⟨[], 0⟩ 0)) = true) : Calls P f vs.toArray w fun e w' => e = .returned (.bool true) ∧ Below w.heap.size w w' := by
  obtain ⟨L, hm, hL⟩ := sp.cover h0
  exact @calls_bool (b.withK (L.know ss) (Lf.ok hL hl)) P w hnb hg (O L) (hO L hL) f _ vs (@Lf.nAs_ok (b.withK (L.know ss) (Lf.ok hL hl)) L r0 hL _ _ ha) true (all_get hrun hm)
end
end Go.Proofs.YtaamdiknefodgaaDoor.Am
