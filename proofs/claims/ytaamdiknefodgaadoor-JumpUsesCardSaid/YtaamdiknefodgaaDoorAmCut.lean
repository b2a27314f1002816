/- A function cut in pieces: between two pieces all memory is frozen, and what was made before is known by other names. (No program in sight.) -/
import Derived.Test.YtaamdiknefodgaaDoorAmGo
namespace Go.Proofs.YtaamdiknefodgaaDoor.Am
open Go.RowKit
set_option linter.unusedSectionVars false
set_option linter.unusedVariables false
noncomputable section

/-- the code from the piece with this number on -/
def restC (t : Nat) (c : Code) : Option Code :=
  Code.rec (motive := fun _ => Option Code) none (fun _ _ _ => none) (fun c d _ ib => bif Nat.beq (Code.tag c) t then some (.seq c d) else ib) (fun _ _ _ _ _ => none) (fun _ _ ib => ib) (fun _ _ => none) (fun _ _ _ _ _ _ => none) (fun _ => none) (fun _ _ => none) (fun _ => none) (fun _ => none) none (fun _ => none) c
/-- the state where that piece begins -/
def cutX [Know] (C : Ctx) (fl n t : Nat) (c : Code) : St → Option St :=
  Code.rec (motive := fun _ => St → Option St) (fun _ => none) (fun _ _ _ _ => none)
    (fun c _ _ ib s => bif Nat.beq (Code.tag c) t then some s else Option.rec none (fun p => X.rec (ib p.2) (fun _ => none) none p.1) (exec C fl n c s))
    (fun _ _ _ _ _ _ => none) (fun _ _ ib s => ib s) (fun _ _ _ => none) (fun _ _ _ _ _ _ _ => none) (fun _ _ => none) (fun _ _ _ => none) (fun _ _ => none) (fun _ _ => none) (fun _ => none) (fun _ _ => none) c
/-- a piece that ends with a return -/
def Ends (P : Program) (fn : Func) (R : Ending → World → Prop) (c : Code) (a : Act) (w : World) : Prop := c.wp P (fun e a' w' => e = .ret ∧ bodyPost P fn R .ret a' w') a w
theorem ends_calls {P : Program} {f : FuncId} {fn : Func} {c : Code} {args : Array Value} {w : World} {R : Ending → World → Prop} (hf : P.funcs[f]? = some fn) (hb : fn.body = some c)
    (h : Ends P fn R c { tmps := args ++ Array.replicate (fn.ntmps - args.size) Go.undef, defers := [] } w) : Calls P f args w R :=
  calls_of_wp hf hb (wp_mono h fun e a' w' ⟨h1, h2⟩ => by subst h1; exact h2)
section
variable [Base] {P : Program} {C : Ctx} {fl n t : Nat}
theorem ends_cut (hty : TyOk P C.ty) (hC : CtxOk P C) (hm : P.follows .mixedOrders = true) {fn : Func} {R : Ending → World → Prop} {c2 : Code} {s1 : St} (c : Code) : Loops.ok (LoopOk P C.loop) c → restC t c = some c2 →
    ∀ {B : Nat} {s : St} {r : Ren} {a : Act} {w : World}, Rel s r B a w → cutX C fl n t c s = some s1 →
    (∀ r1 a1 w1, Rel s1 r1 B a1 w1 → Adv fl s.h r w s1.h r1 w1 → a1.defers = a.defers → Ends P fn R c2 a1 w1) → Ends P fn R c a w := by
  induction c with
  | seq c d hc hd =>
    intro hl hr2 B s r a w hr hx k
    have hr2 : (bif Nat.beq (Code.tag c) t then some (.seq c d) else restC t d) = some c2 := hr2
    have hx : (bif Nat.beq (Code.tag c) t then some s else Option.rec none (fun p => X.rec (cutX C fl n t d p.2) (fun _ => none) none p.1) (exec C fl n c s)) = some s1 := hx
    cases hb : Nat.beq (Code.tag c) t <;> rw [hb] at hr2 hx <;> simp only [cond_true, cond_false] at hr2 hx
    · cases he : exec C fl n c s with
      | none => rw [he] at hx; cases hx
      | some p =>
        obtain ⟨x, s2⟩ := p
        rw [he] at hx
        cases x with
        | exit j => cases hx
        | ret => cases hx
        | normal =>
          have hx : cutX C fl n t d s2 = some s1 := hx
          refine wp_seq (wp_mono (exec_ok hty hC hm n c hl.1 hr he) fun e a1 w1 ⟨h3, r1, h4, h5, h6⟩ => ?_)
          cases e <;> simp only [XR] at h3
          exact hd hl.2 hr2 h4 hx fun r2 a2 w2 g1 g2 g3 => k r2 a2 w2 g1 (Adv.trans hr.i h4.i h5 g2) (g3.trans h6)
    · cases hr2
      cases hx
      exact k r a w hr (Adv.refl fl hr.i) rfl
  | block id c hc =>
    intro hl hr2 B s r a w hr hx k
    refine wp_block (wp_mono (hc hl hr2 hr hx k) fun e a1 w1 ⟨h1, h2⟩ => ?_)
    subst h1
    exact ⟨rfl, h2⟩
  | _ => intro _ h; cases h
theorem ends_last (hty : TyOk P C.ty) (hC : CtxOk P C) (hm : P.follows .mixedOrders = true) {fn : Func} {R : Ending → World → Prop} {c : Code} (hl : Loops.ok (LoopOk P C.loop) c) {B : Nat} {s s' : St} {r : Ren} {a : Act} {w : World} (hr : Rel s r B a w) (ha : a.defers = [])
    (hx : exec C fl n c s = some (.ret, s')) {rs : List A} (hrs : mapO (resOf C s') fn.results.toList = some rs)
    (k : ∀ r' w' vs, All2 (VA r') rs vs → Inv s'.h r' B w' → Adv fl s.h r w s'.h r' w' → R (.returned (joined vs)) w') : Ends P fn R c a w := by
  refine wp_mono (exec_ok hty hC hm n c hl hr hx) fun e a1 w1 ⟨h3, r1, h4, h5, h6⟩ => ?_
  cases e <;> simp only [XR] at h3
  obtain ⟨vs, g1, g2⟩ := results_ok (P := P) hty h4 hrs
  exact ⟨rfl, h6.trans ha, _, g1, k r1 w1 vs g2 h4.i h5⟩
end
/-- no memory that may be written: whatever was there stays -/
def noOwn (h : Heap) : Bool := h.m.all fun p => !p.2.own
theorem noOwn_get [Base] {h : Heap} (k : noOwn h = true) {l : Nat} {b : Blk} (hb : h.get l = some b) : b.own = false := by
  have := List.all_eq_true.1 k _ (hp_mem hb)
  simpa using this
theorem Adv.below [Base] {h h' : Heap} {r r' : Ren} {w w' : World} {fl : Nat} (k : noOwn h = true) (ad : Adv fl h r w h' r' w') : Below w.heap.size w w' :=
  ⟨ad.os, ad.tape, ad.output, ad.size, fun b hb => ad.frame b hb fun l c hl ho _ => by rw [noOwn_get k hl] at ho; cases ho⟩

/-! all memory is frozen; other names -/
def S.noPe (x : S) : Bool := match x with | .pe .. => false | _ => true
def frzS (d : Bd) (m : Nat) (th : Th) (y x : S) : Bool := y.refs.all (fun l => Nat.blt l m) && (y.isTop || (y.below d && y.noPe && y.eqb x) || th.any fun p => p.1.eqb y && p.2.eqb x)
def frzA (d : Bd) (m : Nat) (th : Th) (y x : A) : Bool := match y, x with | .s y, .s x => frzS d m th y x | .g l, .g k => sameL (frzS d m th) l k | _, _ => false
def frzV (d : Bd) (m : Nat) (th : Th) (y x : V) : Bool := match y, x with | .any, _ => true | .a y, .a x => frzA d m th y x | .t l, .t k => sameL (frzA d m th) l k | _, _ => false
def frzSt (d : Bd) (th : Th) (hd s : St) : Bool :=
  sameL (frzV d hd.h.next th) hd.fr s.fr && hd.h.m.all (fun p => Nat.blt p.1 hd.h.next && !p.2.own && Option.rec false (fun b => sameL (frzS d hd.h.next th) p.2.cells b.cells) (Hp.get s.h.m p.1))
/-- the same below these -/
structure Same (b1 b2 : Base) (d : Bd) : Prop where
  n : ∀ i, i < d.n → b1.rho i = b2.rho i
  s : ∀ i, i < d.s → b1.sig i = b2.sig i
  l : ∀ i, i < d.l → b1.lst i = b2.lst i
variable {b1 b2 : Base} {d : Bd}
theorem VS.same (ag : Same b1 b2 d) {r : Ren} {x : S} (hx : x.below d = true) (hp : x.noPe = true) {v : Value} (h : @VS b1 r x v) : @VS b2 r x v := by
  let b3 : Base := { b1.toKnow with nb := b2.nb, g := b2.g, rho := b1.rho, sig := b1.sig, ok := b1.ok, lst := b1.lst }
  have h3 : @VS b3 r x v := by
    cases x with
    | pe k i o => cases hp
    | sl l o n z c => cases c <;> exact h
    | _ => exact h
  exact VS.agree (b1 := b3) (b2 := b2) ⟨rfl, rfl, ag.n, ag.s, ag.l⟩ hx h3
section
variable {r : Ren} {th : Th} (ag : Same b1 b2 d) (ht : ∀ p ∈ th, ∀ v, @VS b1 r p.2 v → @VS b2 r p.1 v)
include ag ht
theorem frzS_ok {m : Nat} {y x : S} (h : frzS d m th y x = true) {v : Value} (hv : @VS b1 r x v) : @VS b2 (r.cut m) y v := by
  unfold frzS at h
  simp only [Bool.and_eq_true, Bool.or_eq_true] at h
  obtain ⟨h0, h⟩ := h
  refine @VS.cutR b2 _ _ _ _ h0 ?_
  rcases h with (h | ⟨⟨h1, h2⟩, h3⟩) | h
  · cases y <;> simp [S.isTop] at h
    exact @VS.one b1 _ _ _ hv
  · rw [S.eqb_ok h3] at h1 h2 ⊢
    exact VS.same ag h1 h2 hv
  · obtain ⟨p, hp, h⟩ := List.any_eq_true.1 h
    simp only [Bool.and_eq_true] at h
    have := ht p hp v (by rw [S.eqb_ok h.2]; exact hv)
    rwa [S.eqb_ok h.1] at this
theorem frzA_ok {m : Nat} {y x : A} (h : frzA d m th y x = true) {v : Value} (hv : @VA b1 r x v) : @VA b2 (r.cut m) y v := by
  unfold frzA at h
  split at h
  · exact frzS_ok ag ht h hv
  · obtain ⟨vs, e, hv⟩ := hv
    exact ⟨vs, e, sameL_all2 (R := @VS b1 r) (R' := @VS b2 (r.cut m)) (fun y x v h hv => frzS_ok ag ht h hv) h hv⟩
  · cases h
theorem frzV_ok {m : Nat} {y x : V} (h : frzV d m th y x = true) {v : Value} (hv : @VV b1 r x v) : @VV b2 (r.cut m) y v := by
  unfold frzV at h
  split at h
  · trivial
  · exact frzA_ok ag ht h hv
  · obtain ⟨vs, e, hv⟩ := hv
    exact ⟨vs, e, sameL_all2 (R := @VA b1 r) (R' := @VA b2 (r.cut m)) (fun y x v h hv => frzA_ok ag ht h hv) h hv⟩
  · cases h
theorem freeze {hd s : St} {B : Nat} {a : Act} {w : World} (hr : @Rel b1 s r B a w) (nb : b2.nb ≤ w.heap.size) (g : ∀ k, k < b2.nb → w.heap[k]? = b2.g k) (h : frzSt d th hd s = true) : @Rel b2 hd (r.cut hd.h.next) w.heap.size a w := by
  unfold frzSt at h
  simp only [Bool.and_eq_true] at h
  obtain ⟨hfr, hm⟩ := h
  have P := @Rel.parts b1 _ _ _ _ _ hr
  have hget : ∀ l b, hd.h.get l = some b → l < hd.h.next ∧ b.own = false ∧ ∃ c, s.h.get l = some c ∧ sameL (frzS d hd.h.next th) b.cells c.cells = true := fun l b hb => by
    have := List.all_eq_true.1 hm (l, b) (hp_mem hb)
    simp only [Bool.and_eq_true, Nat.blt_eq] at this
    obtain ⟨⟨h1, h2⟩, h3⟩ := this
    refine ⟨h1, by simpa using h2, ?_⟩
    cases hc : Hp.get s.h.m l with
    | none => rw [hc] at h3; cases h3
    | some c => rw [hc] at h3; exact ⟨c, hc, h3⟩
  have hHR : @HR b1 s.h.get r B w := @HR.mk b1 _ _ _ _ P.dom P.own P.ro P.inj P.nb P.z
  refine @Rel.mk b2 _ _ _ _ _ (sameL_all2 (R := @VV b1 r) (R' := @VV b2 (r.cut hd.h.next)) (fun y x v h hv => frzV_ok ag ht h hv) hfr P.f) (@Inv.mk b2 _ _ _ _ (fun l hl => hl.2) (Nat.le_refl _) (@HR.mk b2 _ _ _ _ (fun l b hb => ?_) (fun l b hb ho => ?_) (fun l b hb ho => ?_) (fun l b l' b' e1 o1 _ _ _ => ?_) nb g))
  · obtain ⟨h1, _, c, h2, _⟩ := hget l b hb
    exact ⟨P.dom l c h2, h1⟩
  · rw [(hget l b hb).2.1] at ho; cases ho
  · obtain ⟨h1, _, c, h2, h3⟩ := hget l b hb
    refine ⟨?_, fun i x hx => ?_⟩
    · cases hown : c.own with
      | true =>
        obtain ⟨_, _, C, T, fz, q3, _⟩ := P.own l c h2 hown
        exact (Array.getElem?_eq_some_iff.1 q3).1
      | false => exact Nat.lt_of_lt_of_le (P.ro l c h2 hown).1 P.b
    · obtain ⟨x', hx', hf⟩ := sameL_nth h3 i x hx
      obtain ⟨u, hu, hv⟩ := @HR.cell b1 _ _ _ _ hHR l c h2 i x' hx'
      exact ⟨u, hu, frzS_ok ag ht hf hv⟩
  · rw [(hget l b e1).2.1] at o1; cases o1
end
end
end Go.Proofs.YtaamdiknefodgaaDoor.Am
