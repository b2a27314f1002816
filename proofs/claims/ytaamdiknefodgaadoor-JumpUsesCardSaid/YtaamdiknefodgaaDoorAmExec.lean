/- The abstract machine is sound: what it says a function comes to, it comes to. (No program in sight.) -/
import Derived.Test.YtaamdiknefodgaaDoorAmDraw
import Derived.Scope
namespace Go.Proofs.YtaamdiknefodgaaDoor.Am
open Go.RowKit
set_option linter.unusedSectionVars false
variable [Base]
section
variable {P : Program} {C : Ctx} {fl : Nat}

/-- how the machine's exits are the model's -/
def XR : X → Exit → Prop
  | .normal, .normal => True
  | .exit i, .exit j => i = j
  | .ret, .ret => True
  | _, _ => False
/-- what a piece of code comes to -/
def Out (fl B : Nat) (s : St) (r : Ren) (a : Act) (w : World) (x : X) (s' : St) (e : Exit) (a' : Act) (w' : World) : Prop :=
  XR x e ∧ ∃ r', Rel s' r' B a' w' ∧ Adv fl s.h r w s'.h r' w' ∧ a'.defers = a.defers
theorem Out.trans {B : Nat} {s s1 s2 : St} {r r1 : Ren} {a a1 a2 : Act} {w w1 w2 : World} {x : X} {e : Exit} (h0 : Rel s r B a w) (h1 : Rel s1 r1 B a1 w1) (h : Adv fl s.h r w s1.h r1 w1) (hd : a1.defers = a.defers) (k : Out fl B s1 r1 a1 w1 x s2 e a2 w2) : Out fl B s r a w x s2 e a2 w2 := by
  obtain ⟨h2, r', h3, h4, h5⟩ := k
  exact ⟨h2, r', h3, Adv.trans h0.i h1.i h h4, h5.trans hd⟩
/-- the code comes to what the machine says -/
def Does (P : Program) (C : Ctx) (fl n : Nat) (c : Code) : Prop :=
  ∀ {B : Nat} {s s' : St} {x : X} {r : Ren} {a : Act} {w : World}, Rel s r B a w → exec C fl n c s = some (x, s') → c.wp P (Out fl B s r a w x s') a w

/-- a loop comes to what is said of it -/
def LoopOk (P : Program) (L : Loops) (c : Code) : Prop :=
  ∀ {fl B : Nat} {s s' : St} {x : X} {r : Ren} {a : Act} {w : World}, Rel s r B a w → L c.tag fl s = some (x, s') → (Code.loop c).wp P (Out fl B s r a w x s') a w
/-- .. each loop of a piece of code -/
def Loops.ok (Q : Code → Prop) (c : Code) : Prop :=
  Code.rec (motive := fun _ => Prop) True (fun _ _ _ => True) (fun _ _ a b => a ∧ b) (fun _ _ _ a b => a ∧ b) (fun _ _ a => a) (fun c a => Q c ∧ a) (fun _ _ _ _ _ _ => True) (fun _ => True) (fun _ a => a) (fun _ => True) (fun _ => True) True (fun _ => True) c
theorem Loops.ok_all {Q : Code → Prop} (h : ∀ c, Q c) (c : Code) : Loops.ok Q c := by
  induction c with
  | seq c d hc hd => exact ⟨hc, hd⟩
  | cond c t e ht he => exact ⟨ht, he⟩
  | block id c hc => exact hc
  | loop c hc => exact ⟨h c, hc⟩
  | scope c hc => exact hc
  | _ => trivial
theorem LoopOk.none (c : Code) : LoopOk P (fun _ _ _ => none) c := fun _ h => by cases h
theorem thenX_some {r : XS} {k : St → XS} {x : X} {s : St} (h : thenX r k = some (x, s)) : (∃ s', r = some (.normal, s') ∧ k s' = some (x, s)) ∨ (r = some (x, s) ∧ x ≠ .normal) := by
  cases r with
  | none => cases h
  | some p =>
    obtain ⟨y, s'⟩ := p
    cases y with
    | normal => exact .inl ⟨s', rfl, h⟩
    | exit j => cases h; exact .inr ⟨rfl, fun e => by cases e⟩
    | ret => cases h; exact .inr ⟨rfl, fun e => by cases e⟩
theorem does_seq {n : Nat} {c d : Code} (hc : Does P C fl n c) (hd : Does P C fl n d) : Does P C fl n (.seq c d) := by
  intro B s s' x r a w hr hx
  refine wp_seq ?_
  rcases thenX_some (show thenX (exec C fl n c s) (exec C fl n d) = some (x, s') from hx) with ⟨s1, h1, h2⟩ | ⟨h1, h2⟩
  · refine wp_mono (hc hr h1) fun e a1 w1 ⟨h3, r1, h4, h5, h6⟩ => ?_
    cases e <;> simp only [XR] at h3
    exact wp_mono (hd h4 h2) fun e a2 w2 h7 => Out.trans hr h4 h5 h6 h7
  · refine wp_mono (hc hr h1) fun e a1 w1 h3 => ?_
    cases e with
    | normal => cases x <;> simp [Out, XR] at h3; exact absurd rfl h2
    | _ => exact h3
theorem does_rounds {n : Nat} {c : Code} (hc : Does P C fl n c) : ∀ (k : Nat) {B : Nat} {s s' : St} {x : X} {r : Ren} {a : Act} {w : World}, Rel s r B a w → rounds (exec C fl n c) k s = some (x, s') →
    ∀ (b : Frame) (K : List Item) (cs : List Frame), ∃ e a' w', Out fl B s r a w x s' e a' w' ∧ Arrives P (lone (b.at a (.code c :: .inLoop c :: K)) cs w) b K cs e a' w'
  | 0, _, _, _, _, _, _, _, _, h => by cases h
  | k + 1, B, s, s', x, r, a, w, hr, h => by
    intro b K cs
    rcases thenX_some (show thenX (exec C fl n c s) (rounds (exec C fl n c) k) = some (x, s') from h) with ⟨s1, h1, h2⟩ | ⟨h1, h2⟩
    · obtain ⟨e, a1, w1, ⟨h3, r1, h4, h5, h6⟩, harr⟩ := hc hr h1 b (.inLoop c :: K) cs
      cases e <;> simp only [XR] at h3
      obtain ⟨e2, a2, w2, ho, harr2⟩ := does_rounds hc k h4 h2 b K cs
      exact ⟨e2, a2, w2, Out.trans hr h4 h5 h6 ho, .of_steps (Steps.trans harr (.one step_inLoop)) harr2⟩
    · obtain ⟨e, a1, w1, ho, harr⟩ := hc hr h1 b (.inLoop c :: K) cs
      refine ⟨e, a1, w1, ho, .pass (x := .inLoop c) rfl (fun _ _ => .inl ?_) harr⟩
      intro he
      subst he
      cases x <;> simp [Out, XR] at ho
      exact h2 rfl
theorem does_loop {n : Nat} {c : Code} (hc : Does P C fl n c) {B : Nat} {s s' : St} {x : X} {r : Ren} {a : Act} {w : World} (hr : Rel s r B a w) (hx : rounds (exec C fl n c) n s = some (x, s')) : (Code.loop c).wp P (Out fl B s r a w x s') a w := by
  intro b K cs
  obtain ⟨e, a', w', ho, harr⟩ := does_rounds hc n hr hx b K cs
  exact ⟨e, a', w', ho, .of_steps (.one step_loop) harr⟩
theorem exec_ok (hty : TyOk P C.ty) (hC : CtxOk P C) (hm : P.follows .mixedOrders = true) (n : Nat) (c : Code) : Loops.ok (LoopOk P C.loop) c → Does P C fl n c := by
  induction c with
  | skip => intro _ B s s' x r a w hr hx; cases hx; exact wp_skip ⟨trivial, r, hr, Adv.refl fl hr.i, rfl⟩
  | label l => intro _ B s s' x r a w hr hx; cases hx; exact wp_label ⟨trivial, r, hr, Adv.refl fl hr.i, rfl⟩
  | region id ops draw =>
    intro _ B s s' x r a w hr hx
    obtain ⟨s1, h1, h2⟩ := ob_some (show ob (region C fl ops.toList draw s) nrm = some (x, s') from hx)
    cases h2
    cases draw with
    | true => exact region_draw_ok hty hC hm hr h1 fun r' a' w' g1 g2 g3 => ⟨trivial, r', g1, g2, g3⟩
    | false => exact wp_region_list (listR_ok hty hC ops.toList hr h1 fun r' a' w' g1 g2 g3 => ⟨trivial, r', g1, g2, g3⟩)
  | seq c d hc hd => exact fun hl => does_seq (hc hl.1) (hd hl.2)
  | cond c t e ht he =>
    intro hl B s s' x r a w hr hx
    obtain ⟨y, hy, hx⟩ := ob_some (show condX (evS s.fr c) (exec C fl n t s) (exec C fl n e s) = some (x, s') from hx)
    obtain ⟨b, hb, hx⟩ := ob_some hx
    have hv := isBool_ok hb (evS_ok hr.f hy)
    cases b
    · exact wp_cond_false hv (he hl.2 hr hx)
    · exact wp_cond_true hv (ht hl.1 hr hx)
  | block id c hc =>
    intro hl B s s' x r a w hr hx
    have hx : blockX id (exec C fl n c s) = some (x, s') := hx
    refine wp_block ?_
    cases he : exec C fl n c s with
    | none => rw [he] at hx; cases hx
    | some p =>
      obtain ⟨y, s1⟩ := p
      rw [he] at hx
      refine wp_mono (hc hl hr he) fun e a1 w1 ⟨h3, r1, h4, h5, h6⟩ => ?_
      cases y with
      | normal => cases hx; cases e <;> simp only [XR] at h3; exact ⟨trivial, r1, h4, h5, h6⟩
      | ret => cases hx; cases e <;> simp only [XR] at h3; exact ⟨trivial, r1, h4, h5, h6⟩
      | exit j =>
        cases e <;> simp only [XR] at h3
        subst h3
        have hx : (bif j == id then nrm s1 else some (.exit j, s1)) = some (x, s') := hx
        cases hj : (j == id) <;> rw [hj] at hx <;> cases hx
        · have : j ≠ id := by simpa using hj
          simp only [Exit.inBlock, if_neg this]
          exact ⟨rfl, r1, h4, h5, h6⟩
        · have : j = id := by simpa using hj
          simp only [Exit.inBlock, if_pos this]
          exact ⟨trivial, r1, h4, h5, h6⟩
  | loop c hc =>
    intro hl B s s' x r a w hr hx
    have hx : orXS (C.loop c.tag fl s) (rounds (exec C fl n c) n s) = some (x, s') := hx
    cases ho : C.loop c.tag fl s with
    | none => rw [ho] at hx; exact does_loop (hc hl.2) hr hx
    | some p => rw [ho] at hx; cases hx; exact hl.1 hr ho
  | rangeFunc f ps as b h1 h2 => intro _ B s s' x r a w hr hx; cases hx
  | exit id => intro _ B s s' x r a w hr hx; cases hx; exact wp_exit ⟨rfl, r, hr, Adv.refl fl hr.i, rfl⟩
  | scope c hc =>
    intro hl B s s' x r a w hr hx
    refine wp_scope_straight (wp_mono (hc hl hr hx) fun e a1 w1 h => ?_)
    cases e <;> first | exact h | (obtain ⟨h, _⟩ := h; cases x <;> simp [XR] at h)
  | goto l => intro _ B s s' x r a w hr hx; cases hx
  | ret => intro _ B s s' x r a w hr hx; cases hx; exact wp_ret ⟨trivial, r, hr, Adv.refl fl hr.i, rfl⟩
  | refuse y => intro _ B s s' x r a w hr hx; cases hx

theorem flat_ok {r r' : Ren} {x : S} (h : x.flat = true) {u : Value} (hu : VS r x u) : VS r' x u := by
  cases x <;> simp [S.flat] at h <;> exact hu
theorem flatS_ok {r r' : Ren} : ∀ {l : List S} {vs : List Value}, l.all S.flat = true → All2 (VS r) l vs → All2 (VS r') l vs
  | [], [], _, _ => trivial
  | [], _ :: _, _, h => h.elim
  | _ :: _, [], _, h => h.elim
  | x :: l, v :: vs, h, k => by
    simp only [List.all_cons, Bool.and_eq_true] at h
    exact ⟨flat_ok h.1 k.1, flatS_ok h.2 k.2⟩
theorem flatA_ok {r r' : Ren} {x : A} (h : x.flat = true) {u : Value} (hu : VA r x u) : VA r' x u := by
  cases x with
  | s x => simp [A.flat, A.cells] at h; exact flat_ok h hu
  | g l =>
    obtain ⟨vs, rfl, hl⟩ := hu
    exact ⟨vs, rfl, flatS_ok h hl⟩
theorem flats_ok {r r' : Ren} : ∀ {l : List A} {vs : List Value}, l.all A.flat = true → All2 (VA r) l vs → All2 (VA r') l vs
  | [], [], _, _ => trivial
  | [], _ :: _, _, h => h.elim
  | _ :: _, [], _, h => h.elim
  | x :: l, v :: vs, h, k => by
    simp only [List.all_cons, Bool.and_eq_true] at h
    exact ⟨flatA_ok h.1 k.1, flats_ok h.2 k.2⟩

def resS (tmps : Array Value) (q : ResultVar) : Sem Value := match q with | .tmp t => pure (tmps.getD t Go.undef) | .cell y t => do loadVar t (← asAddr (tmps.getD y Go.undef))
theorem results_eq (fn : Func) (tmps : Array Value) : results fn tmps = (do let vs ← fn.results.mapM (resS tmps); pure (if h : vs.size = 1 then vs[0] else .tuple vs)) := rfl
theorem resOf_ok (hty : TyOk P C.ty) {B : Nat} {s : St} {r : Ren} {a : Act} {w : World} (hr : Rel s r B a w) {q : ResultVar} {x : A} (h : resOf C s q = some x) :
    ∃ u, (resS a.tmps q).run P w = .ok u w ∧ VA r x u := by
  unfold resOf at h
  split at h
  · rename_i t
    obtain ⟨v, hv, h⟩ := ob_some h
    have := ev_ok hr.f (x := .tmp t) hv
    cases v with
    | a y => cases h; exact ⟨_, rfl, this⟩
    | t l => cases h
    | any => cases h
  · rename_i y t
    obtain ⟨T, hT, h⟩ := ob_some h
    obtain ⟨v, hv, h⟩ := ob_some h
    obtain ⟨z, hz, h⟩ := ob_some h
    obtain ⟨z', hz', h⟩ := ob_some h
    obtain ⟨p, hp, h⟩ := ob_some h
    obtain ⟨cs, hcs, h⟩ := ob_some h
    have hptr : evPtr s.fr (.tmp y) = some p := by
      show ob (ob (ob (nth s.fr y) V.isA) A.isS) S.isPtr = some p
      rw [hv]; simp [hz, hz', hp]
    obtain ⟨h1, h2⟩ := evPtr_ok hr.f hptr
    obtain ⟨u, hu, hx⟩ := load_ok (P := P) hty hr.i hT hcs h
    have h2' : a.tmps.getD y Go.undef = .pointer (some (r.at p.1 p.2)) := h2
    refine ⟨u, ?_, hx⟩
    simp only [Instr.loadAt, Instr.sureAddr, Sem.run_bind, Sem.run_pure, Result.andThen_ok] at hu
    simp [resS, h2', asAddr, hu]
def joined (vs : List Value) : Value := match vs with | [v] => v | vs => .tuple vs.toArray
theorem join_eq : ∀ vs : List Value, (if h : vs.toArray.size = 1 then vs.toArray[0] else .tuple vs.toArray) = joined vs
  | [] => rfl
  | [v] => rfl
  | v :: u :: vs => by
    rw [dif_neg (by simp)]
    rfl
theorem joined_ok {r : Ren} {rs : List A} {vs : List Value} (h : All2 (VA r) rs vs) : VV r (resV rs) (joined vs) := by
  cases rs with
  | nil => cases vs with
    | nil => exact ⟨[], rfl, trivial⟩
    | cons v vs => exact h.elim
  | cons x rs => cases vs with
    | nil => exact h.elim
    | cons v vs => cases rs with
      | nil => cases vs with
        | nil => exact h.1
        | cons _ _ => exact h.2.elim
      | cons y rs => cases vs with
        | nil => exact h.2.elim
        | cons u vs => exact ⟨v :: u :: vs, rfl, h⟩
theorem results_ok (hty : TyOk P C.ty) {B : Nat} {s : St} {r : Ren} {a : Act} {w : World} (hr : Rel s r B a w) {fn : Func} {rs : List A} (h : mapO (resOf C s) fn.results.toList = some rs) :
    ∃ vs : List Value, (results fn a.tmps).run P w = .ok (joined vs) w ∧ All2 (VA r) rs vs := by
  have key : ∀ (l : List ResultVar) (rs : List A), mapO (resOf C s) l = some rs → ∃ vs : List Value, All2 (VA r) rs vs ∧
      (l.mapM (resS a.tmps)).run P w = .ok vs w := by
    intro l
    induction l with
    | nil => intro rs h; cases h; exact ⟨[], trivial, by simp⟩
    | cons q l ih =>
      intro rs h
      rw [mapO_cons] at h
      obtain ⟨x, hx, h⟩ := ob_some h
      obtain ⟨rs', hrs, h⟩ := ob_some h
      cases h
      obtain ⟨u, hu, hv⟩ := resOf_ok hty hr hx
      obtain ⟨vs, h1, h2⟩ := ih rs' hrs
      refine ⟨u :: vs, ⟨hv, h1⟩, ?_⟩
      rw [List.mapM_cons]
      simp only [Sem.run_bind, hu, Result.andThen_ok, h2, Sem.run_pure]
  obtain ⟨vs, h1, h2⟩ := key fn.results.toList rs h
  refine ⟨vs, ?_, h1⟩
  rw [results_eq, Array.mapM_eq_mapM_toList]
  simp only [Sem.run_bind, Sem.run_map, h2, Result.andThen_ok, Sem.run_pure]
  congr 1
  exact join_eq vs

theorem replicate_all2 {α β : Type} {R : α → β → Prop} {x : α} {y : β} (h : R x y) : ∀ n, All2 R (List.replicate n x) (List.replicate n y)
  | 0 => trivial
  | n + 1 => ⟨h, replicate_all2 h n⟩
theorem args_ok {r : Ren} : ∀ {as : List A} {vs : List Value}, All2 (VA r) as vs → All2 (VV r) (as.map V.a) vs
  | [], [], _ => trivial
  | [], _ :: _, h => h.elim
  | _ :: _, [], h => h.elim
  | _ :: _, _ :: _, h => ⟨h.1, args_ok h.2⟩

theorem body_ok (hty : TyOk P C.ty) (hC : CtxOk P C) (hm : P.follows .mixedOrders = true) {n : Nat} {f : FuncId} {fn : Func} (hf : P.funcs[f]? = some fn) (hL : ∀ c, fn.body = some c → Loops.ok (LoopOk P C.loop) c) {args : List A} {h : Heap} {v : V} {h' : Heap} (hb : body C n fn args h fl = some (v, h'))
    {r : Ren} {B : Nat} {w : World} {vs : List Value} (hi : Inv h r B w) (hargs : All2 (VA r) args vs) : Calls P f vs.toArray w fun e w' => ∃ u, e = .returned u ∧ Post B fl h r w v h' u w' := by
  obtain ⟨c, hc, hb⟩ := ob_some hb
  obtain ⟨p, hp, hb⟩ := ob_some hb
  obtain ⟨x, s'⟩ := p
  have hlen := hargs.len
  have hrel : Rel ⟨args.map V.a ++ List.replicate (fn.ntmps - args.length) undef, h⟩ r B { tmps := vs.toArray ++ Array.replicate (fn.ntmps - vs.toArray.size) Go.undef, defers := [] } w := by
    refine ⟨?_, hi⟩
    show All2 (VV r) _ (vs.toArray ++ Array.replicate (fn.ntmps - vs.toArray.size) Go.undef).toList
    simp only [Array.toList_append, Array.toList_replicate, List.size_toArray]
    rw [hlen]
    exact (args_ok hargs).app (replicate_all2 VS.undef _)
  have hend : ∀ a' w' r', Rel s' r' B a' w' → Adv fl h r w s'.h r' w' → bodyEnd C fn h fl s' = some (v, h') → ∃ u, (results fn a'.tmps).run P w' = .ok u w' ∧ Post B fl h r w v h' u w' := by
    intro a' w' r' h1 h2 h3
    obtain ⟨rs, hrs, h3⟩ := ob_some h3
    obtain ⟨us, hu, hus⟩ := results_ok (P := P) hty h1 hrs
    refine ⟨_, hu, ?_⟩
    cases hk : Nat.ble h.next fl <;> rw [hk] at h3 <;> simp only [cond_true, cond_false] at h3
    · cases h3
      exact ⟨r', h1.i, joined_ok hus, h2⟩
    cases hk2 : rs.all A.flat <;> rw [hk2] at h3 <;> simp only [cond_true, cond_false] at h3 <;> cases h3
    · obtain ⟨t1, t2⟩ := trim_weak h.next rs s'.h r'
      exact ⟨r', t1.inv h1.i, joined_ok hus, t1.adv (fun l hl _ => t2 l hl) h2⟩
    · have hfl := Nat.le_of_ble_eq_true hk
      have hold : ∀ b, b < w.heap.size → w'.heap[b]? = w.heap[b]? := fun b hb => h2.frame b hb fun l k hl _ hfl' => by
        have := hi.n l (hi.hr.dom l k hl); omega
      exact ⟨r, ⟨hi.n, Nat.le_trans hi.b h2.size, hi.hr.keep hi.b hold⟩, joined_ok (flats_ok hk2 hus), Ren.le.refl r, Nat.le_refl _, fun _ h => .inl h, h2.os, h2.tape, h2.output, h2.size, fun b hb _ => hold b hb,
        fun _ _ _ => rfl, fun _ b' _ h => ⟨b', h, rfl⟩, fun l b' hl hb => absurd (hi.n l (hi.hr.dom l b' hb)) (Nat.not_lt.2 hl)⟩
  refine calls_of_wp hf hc (wp_mono (exec_ok hty hC hm n c (hL c hc) hrel hp) fun e a' w' ⟨h1, r', h2, h3, h4⟩ => ?_)
  cases x with
  | exit j => cases hb
  | normal =>
    cases e <;> simp only [XR] at h1
    obtain ⟨u, hu, hP⟩ := hend a' w' r' h2 h3 hb
    exact ⟨h4, u, hu, u, rfl, hP⟩
  | ret =>
    cases e <;> simp only [XR] at h1
    obtain ⟨u, hu, hP⟩ := hend a' w' r' h2 h3 hb
    exact ⟨h4, u, hu, u, rfl, hP⟩

/-! values without references -/
def r0 : Ren := ⟨fun _ => False, fun _ => 0, fun _ => 0, fun _ => 0⟩
theorem V.flat_any {x : V} (h : x.flat = true) {r r' : Ren} {u : Value} (k : VV r x u) : VV r' x u := by
  cases x with
  | a x => exact flatA_ok h k
  | t l => obtain ⟨us, e, k⟩ := k; exact ⟨us, e, flats_ok h k⟩
  | any => cases h

/-- a step that leaves everything that was there -/
theorem Post.below {B fl : Nat} {h : Heap} {r : Ren} {w : World} {v : V} {u : Value} {w' : World} (hi : Inv h r B w) (hb : Below w.heap.size w w') (hv : VV r v u) : Post B fl h r w v h u w' :=
  ⟨r, ⟨hi.n, Nat.le_trans hi.b hb.size, hi.hr.keep hi.b hb.block⟩, hv, Ren.le.refl r, Nat.le_refl _, fun _ h => .inl h, hb.os, hb.tape, hb.output, hb.size, fun b hlt _ => hb.block b hlt, fun _ _ _ => rfl, fun _ b' _ h => ⟨b', h, rfl⟩,
    fun l b' hl hb' => absurd (hi.n l (hi.hr.dom l b' hb')) (Nat.not_lt.2 hl)⟩
theorem S.force_eq {β : Type} (x : S) (k : S → β) : x.force k = k x := by cases x <;> rfl
theorem forceS_eq {β : Type} : ∀ (l : List S) (k : List S → β), forceS l k = k l
  | [], _ => rfl
  | x :: l, k => by
    show x.force (fun x => forceS l fun t => k (x :: t)) = _
    rw [S.force_eq, forceS_eq l]
theorem A.force_eq {β : Type} (x : A) (k : A → β) : x.force k = k x := by
  cases x with
  | s x => exact S.force_eq x fun x => k (.s x)
  | g l => exact forceS_eq l fun l => k (.g l)
theorem forceA_eq {β : Type} : ∀ (l : List A) (k : List A → β), forceA l k = k l
  | [], _ => rfl
  | x :: l, k => by
    show x.force (fun x => forceA l fun t => k (x :: t)) = _
    rw [A.force_eq, forceA_eq l]
theorem callF_ok {C : Ctx} {F : Func} {f : FuncId} {n : Nat} {args : List A} {h : Heap} {fl : Nat} {v : V} {h' : Heap} (hty : TyOk P C.ty) (hC : CtxOk P C) (hm : P.follows .mixedOrders = true) (hf : P.funcs[f]? = some F) (hL : ∀ c, F.body = some c → Loops.ok (LoopOk P C.loop) c)
    (hr : callF C n F args h fl = some (v, h')) : F.body.isNone = false ∧ ∀ r B w vs, Inv h r B w → All2 (VA r) args vs → Calls P f vs.toArray w fun e w' => ∃ u, e = .returned u ∧ Post B fl h r w v h' u w' := by
  unfold callF at hr
  cases hc : (flatF C.ty F && args.all A.flat) <;> rw [hc] at hr <;> simp only [cond_true, cond_false] at hr
  · obtain ⟨c, hc', _⟩ := ob_some hr
    exact ⟨by rw [hc']; rfl, fun r B w vs hi ha => body_ok hty hC hm hf hL hr hi ha⟩
  · rw [forceA_eq] at hr
    obtain ⟨p, hp, hr⟩ := ob_some hr
    cases hv : p.1.flat <;> rw [hv] at hr <;> simp only [cond_true, cond_false] at hr <;> cases hr
    obtain ⟨c, hc', _⟩ := ob_some hp
    simp only [Bool.and_eq_true] at hc
    refine ⟨by rw [hc']; rfl, fun r B w vs hi ha => ?_⟩
    have hi0 : Inv ⟨[], 0⟩ r0 w.heap.size w :=
      ⟨fun l h => h.elim, Nat.le_refl _, fun l b h => (by cases h), fun l b h => (by cases h), fun l b h => (by cases h), fun l b l' b' h => (by cases h), Nat.le_trans hi.hr.nb hi.b, hi.hr.z⟩
    refine (body_ok (v := p.1) (h' := p.2) hty hC hm hf hL hp hi0 (flats_ok hc.2 ha)).mono fun e w' ⟨u, e1, r', i, e2, ad⟩ => ⟨u, e1, Post.below hi ⟨ad.os, ad.tape, ad.output, ad.size, fun k hk => ad.frame k hk fun l c hl _ _ => by cases hl⟩ (V.flat_any hv e2)⟩
/-- the functions are the program's -/
def FnOk (P : Program) (fn : FuncId → Option Func) : Prop := ∀ f F, fn f = some F → P.funcs[f]? = some F ∧ (F.name == "runtime.NumGoroutine") = false
theorem runsL_ok {ty : Tys} (hty : TyOk P ty) {fn : FuncId → Option Func} (hfn : FnOk P fn) {lib : Oracle} (hl : Sound P lib) (hm : P.follows .mixedOrders = true) {tb : Tabs} (htb : TabsOk tb) {loops : FuncId → Loops}
    (hL : ∀ f F c, P.funcs[f]? = some F → F.body = some c → Loops.ok (LoopOk P (loops f)) c) (n : Nat) : ∀ d, Sound P (runsL ty fn lib tb loops n d)
  | 0 => fun f args h fl v h' hr => by cases hr
  | d + 1 => fun f args h fl v h' hr => by
    have hr : orR (lib f args h fl) (ob (fn f) fun F => callF ⟨ty, runsL ty fn lib tb loops n d, tb, loops f⟩ n F args h fl) = some (v, h') := hr
    cases hlib : lib f args h fl with
    | some x => rw [hlib] at hr; cases hr; exact hl _ _ _ _ _ _ hlib
    | none =>
      rw [hlib] at hr
      obtain ⟨F, hF, hb⟩ := ob_some (show ob (fn f) (fun F => callF ⟨ty, runsL ty fn lib tb loops n d, tb, loops f⟩ n F args h fl) = some (v, h') from hr)
      obtain ⟨h1, h2⟩ := hfn f F hF
      obtain ⟨hc, hk⟩ := callF_ok (C := ⟨ty, runsL ty fn lib tb loops n d, tb, loops f⟩) hty ⟨runsL_ok hty hfn hl hm htb hL n d, htb⟩ hm h1 (fun c hc => hL f F c h1 hc) hb
      exact ⟨⟨F, h1, h2, hc⟩, hk⟩
theorem runs_ok {ty : Tys} (hty : TyOk P ty) {fn : FuncId → Option Func} (hfn : FnOk P fn) {lib : Oracle} (hl : Sound P lib) (hm : P.follows .mixedOrders = true) (n : Nat) (d : Nat) : Sound P (runs ty fn lib n d) :=
  runsL_ok hty hfn hl hm TabsOk.nought (fun _ _ _ _ _ => Loops.ok_all (LoopOk.none) _) n d
end
end Go.Proofs.YtaamdiknefodgaaDoor.Am
