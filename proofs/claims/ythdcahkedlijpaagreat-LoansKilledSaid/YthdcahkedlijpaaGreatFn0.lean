/- Functions of lists, by the machine: numbers and lists behind a call, cases split by hints, and what comes out told by tests of numbers. (No program in sight.) -/
import Derived.Test.YthdcahkedlijpaaGreatAmC
namespace Go.Proofs.YthdcahkedlijpaaGreat.Am
open Go.RowKit
set_option linter.unusedVariables false
set_option linter.unusedSectionVars false
def xsAt (xs : List Int) (i : Nat) : Int := xs.getD i 0
structure Env where
  w : World
  xs : List Int
  ls : List RowV
@[reducible] def Env.b (e : Env) : Base := { Know.nought with nb := e.w.heap.size, g := fun k => e.w.heap[k]?, rho := xsAt e.xs, sig := fun _ => [], ok := KnowOk.nought _ _, lst := fun k => e.ls.getD k ⟨.pointer none, []⟩ }
structure Fx where
  ad : List (Nat × Int × Nat)
  xt : XTab
structure FxOk (f : Fx) (rho : Nat → Int) : Prop where
  ad : ∀ i c k, (i, c, k) ∈ f.ad → rho i + c = rho k ∧ IntKind.i64.min ≤ rho k ∧ rho k ≤ IntKind.i64.max
  xt : XTabOk f.xt rho
@[reducible] def Lf.knowX (L : Lf) (f : Fx) : Know := ⟨L.iv, L.ne, L.lt, [], [], [], L.cf, [], [], [], [], f.ad, f.xt⟩
theorem Lf.okX {L : Lf} {f : Fx} {rho : Nat → Int} {sig : Nat → List UInt8} (h : L.Holds rho sig) (q : FxOk f rho) : KnowOk (L.knowX f) rho sig where
  iv := h.iv
  ne i j e := h.ne i j (hasPair_mem e)
  lt i j e := h.lt i j (hasPair_mem e)
  mx _ _ e := by cases e
  sq _ _ _ e := by cases e
  ln _ _ e := by cases e
  cf := h.cf
  df _ _ _ e := by cases e
  sx _ _ _ e := by cases e
  ct _ _ _ _ e := by cases e
  sb _ _ _ e := by cases e
  ad := q.ad
  xt := q.xt
def Lf.of (iv : List (Int × Int)) : Lf := ⟨iv, [], [], [], [], [], []⟩
theorem Lf.of_ok {iv : List (Int × Int)} {rho : Nat → Int} {sig : Nat → List UInt8} (h : ∀ i p, iv[i]? = some p → p.1 ≤ rho i ∧ rho i ≤ p.2) : (Lf.of iv).Holds rho sig where
  iv i p e := h i p (by rw [← nth_eq]; exact e)
  ne _ _ e := by cases e
  lt _ _ e := by cases e
  to i j e := by
    have e : nth ([] : List Nat) i = some j := e
    rw [nth_nil] at e
    cases e
  st _ _ e := by cases e
  sn _ _ e := by cases e
  cf _ e := by cases e
noncomputable section
inductive HT where
  | leaf
  | cut (force : Bool) (i : Nat) (c : Int) (a b : HT)
structure Hint where
  force : Bool
  i : Nat
  c : Int
def HT.of : List Hint → HT
  | [] => .leaf
  | p :: r => .cut p.force p.i p.c (HT.of r) (HT.of r)
abbrev HT.on (i : Nat) (c : Int) (a b : HT) : HT := .cut true i c a b
abbrev HT.by (i : Nat) (c : Int) (a b : HT) : HT := .cut false i c a b
abbrev HT.both (i : Nat) (c : Int) (t : HT) : HT := .cut false i c t t
def below (L : Lf) (i : Nat) (c : Int) : Bool := Option.rec true (fun p => decide (p.2 < c)) (nth L.iv i)
def above (L : Lf) (i : Nat) (c : Int) : Bool := Option.rec true (fun p => decide (c ≤ p.1)) (nth L.iv i)
def autoB (test : Lf → Bool) (t : HT) : Lf → Bool :=
  HT.rec (fun L => test L) (fun force i c _ _ ia ib L => bif below L i c then ia L else bif above L i c then ib L else (bif force then false else test L) || (ia (L.hi i (c - 1)) && ib (L.lo i c))) t
theorem autoB_ok {test : Lf → Bool} {rho : Nat → Int} {sig : Nat → List UInt8} : ∀ {t : HT} {L : Lf}, autoB test t L = true → L.Holds rho sig → ∃ L' : Lf, L'.Holds rho sig ∧ test L' = true
  | .leaf, L, h, hL => ⟨L, hL, h⟩
  | .cut force i c a b, L, h, hL => by
    have h : (bif below L i c then autoB test a L else bif above L i c then autoB test b L else (bif force then false else test L) || (autoB test a (L.hi i (c - 1)) && autoB test b (L.lo i c))) = true := h
    cases h1 : below L i c <;> rw [h1] at h <;> simp only [cond_true, cond_false] at h
    · cases h2 : above L i c <;> rw [h2] at h <;> simp only [cond_true, cond_false] at h
      · rw [Bool.or_eq_true] at h
        rcases h with h | h
        · cases hf : force <;> rw [hf] at h <;> simp only [cond_true, cond_false] at h
          · exact ⟨L, hL, h⟩
          · cases h
        · rw [Bool.and_eq_true] at h
          by_cases hc : rho i < c
          · exact autoB_ok h.1 (hL.hi (by omega))
          · exact autoB_ok h.2 (hL.lo (by omega))
      · exact autoB_ok h hL
    · exact autoB_ok h hL
end
def E.num (rho : Nat → Int) : E → Bool
  | .lt i c => decide (rho i < c)
  | .zero l => l.all fun p => decide (rho p.1 = p.2)
  | .and a b => a.num rho && b.num rho
  | .or a b => a.num rho || b.num rho
  | .not a => !a.num rho
noncomputable section
section
variable [Know]
def allN (l : List (Nat × Int)) : Option Bool := List.rec (some true) (fun p _ ih => andO (eqC p.1 p.2) ih) l
def E.absN (e : E) : Option Bool :=
  E.rec (fun i c => ltX (.x i) (.c c)) (fun l => allN l) (fun _ _ a b => andO a b) (fun _ _ a b => notO (andO (notO a) (notO b))) (fun _ a => notO a) e
end
theorem allN_ok [Base] : ∀ {l : List (Nat × Int)} {b : Bool}, allN l = some b → (l.all fun p => decide (Base.rho p.1 = p.2)) = b
  | [], b, h => by cases h; rfl
  | p :: l, b, h => by
    rw [List.all_cons]
    exact andO_ok (fun c h => eqC_ok h) (fun c h => allN_ok h) (show andO (eqC p.1 p.2) (allN l) = some b from h)
theorem E.absN_ok [Base] : ∀ {e : E} {b : Bool}, e.absN = some b → e.num Base.rho = b
  | .lt i c, b, h => (ltX_ok (show ltX (.x i) (.c c) = some b from h)).symm
  | .zero l, b, h => allN_ok h
  | .and p q, b, h => andO_ok (fun _ h => E.absN_ok h) (fun _ h => E.absN_ok h) (show andO p.absN q.absN = some b from h)
  | .or p q, b, h => by
    have h : notO (andO (notO p.absN) (notO q.absN)) = some b := h
    have := notO_ok (fun _ h => andO_ok (fun _ h => notO_ok (fun _ h => E.absN_ok h) h) (fun _ h => notO_ok (fun _ h => E.absN_ok h) h) h) h
    rw [← this]
    show (p.num Base.rho || q.num Base.rho) = _
    cases p.num Base.rho <;> cases q.num Base.rho <;> rfl
  | .not p, b, h => notO_ok (fun _ h => E.absN_ok h) (show notO p.absN = some b from h)
def absAll [Know] (es : List E) : Option (List Bool) := List.rec (some []) (fun e _ ih => ob e.absN fun b => ob ih fun r => some (b :: r)) es
theorem absAll_ok [Base] : ∀ {es : List E} {bs : List Bool}, absAll es = some bs → es.map (E.num Base.rho) = bs
  | [], bs, h => by cases h; rfl
  | e :: es, bs, h => by
    obtain ⟨b, hb, h⟩ := ob_some (show (ob e.absN fun b => ob (absAll es) fun r => some (b :: r)) = some bs from h)
    obtain ⟨r, hr, h⟩ := ob_some h
    cases h
    rw [List.map_cons, E.absN_ok hb, absAll_ok hr]
def skipB [Know] (as : List (E × Bool)) : Bool := as.any fun p => Option.rec false (fun b => xor b p.2) p.1.absN
theorem skipB_no [Base] {as : List (E × Bool)} (h : ∀ p ∈ as, p.1.num Base.rho = p.2) : skipB as = false := by
  unfold skipB
  rw [List.any_eq_false]
  intro p hp
  cases ha : p.1.absN with
  | none => simp
  | some b =>
    have := h p hp
    rw [E.absN_ok ha] at this
    simp [this]
structure Upd where
  y : S
  es : List E
  f : List Bool → S
def isU (y x : S) : Upd := ⟨y, [], fun _ => x⟩
def bitU (y : S) (e : E) : Upd := ⟨y, [e], fun bs => .bool (bs.headD false)⟩
def thU [Know] (us : List Upd) : Th := us.filterMap fun u => Option.rec none (fun bs => some (u.y, u.f bs)) (absAll u.es)
def UpdOk (b1 b2 : Base) (u : Upd) : Prop := ∀ r v, @VS b1 r (u.f (u.es.map (E.num b1.rho))) v → @VS b2 r u.y v
theorem thU_ok {b1 b2 : Base} {us : List Upd} (h : ∀ u ∈ us, UpdOk b1 b2 u) : Th.ok b1 b2 (@thU b1.toKnow us) := by
  intro p hp r v hv
  unfold thU at hp
  rw [List.mem_filterMap] at hp
  obtain ⟨u, hu, hp⟩ := hp
  cases ha : @absAll b1.toKnow u.es with
  | none => rw [ha] at hp; cases hp
  | some bs =>
    rw [ha] at hp
    cases hp
    refine h u hu r v ?_
    rw [@absAll_ok b1 _ _ ha]
    exact hv
theorem isU_ok {b1 b2 : Base} {y x : S} (h : ∀ r v, @VS b1 r x v → @VS b2 r y v) : UpdOk b1 b2 (isU y x) := h
theorem bitU_ok {b1 b2 : Base} {i : Nat} {e : E} (h : b2.rho i = 1 ↔ e.num b1.rho = true) : UpdOk b1 b2 (bitU (.xe [(i, 1)]) e) := by
  intro r v hv
  have hv : v = .bool (e.num b1.rho) := hv
  show v = .bool (decide (b2.rho i = 1) || false)
  rw [hv, Bool.or_false]
  congr 1
  cases hb : e.num b1.rho
  · exact (decide_eq_false fun hh => by rw [h.1 hh] at hb; cases hb).symm
  · exact (decide_eq_true (h.2 hb)).symm
def keepU (i : Nat) (e : E) (j : Nat) : Upd := ⟨.xe [(i, 1)], [e, .zero [(j, 1)]], fun bs => bif bs.headD false == (bs.drop 1).headD false then .xe [(j, 1)] else .bool (bs.headD false)⟩
theorem keepU_ok {b1 b2 : Base} {i j : Nat} {e : E} (h : b2.rho i = 1 ↔ e.num b1.rho = true) : UpdOk b1 b2 (keepU i e j) := by
  intro r v hv
  have hv : @VS b1 r (bif e.num b1.rho == (decide (b1.rho j = 1) && true) then .xe [(j, 1)] else .bool (e.num b1.rho)) v := hv
  have key : v = .bool (e.num b1.rho) := by
    cases hc : (e.num b1.rho == (decide (b1.rho j = 1) && true)) <;> rw [hc] at hv <;> simp only [cond_true, cond_false] at hv
    · exact hv
    · have hv : v = .bool (decide (b1.rho j = 1) || false) := hv
      rw [hv, Bool.or_false]
      simp only [Bool.and_true, beq_iff_eq] at hc
      rw [hc]
  exact bitU_ok h r v key
structure Rig where
  ty : Tys
  fn : FuncId → Option Func
  lib : Know → Oracle
  tb : Tabs
  loops : Know → FuncId → Loops
  n : Nat
  d : Nat
def Rig.ctx (R : Rig) (K : Know) (f : FuncId) : Ctx := ⟨R.ty, @runsL K R.ty R.fn (R.lib K) R.tb (R.loops K) R.n R.d, R.tb, R.loops K f⟩
structure RigOk (P : Program) (R : Rig) (b : Base) : Prop where
  ty : ∀ K (ok : KnowOk K b.rho b.sig), @TyOk (b.withK K ok) P R.ty
  fn : FnOk P R.fn
  lib : ∀ K (ok : KnowOk K b.rho b.sig), @Sound (b.withK K ok) P (R.lib K)
  mixed : P.follows .mixedOrders = true
  tb : @TabsOk b R.tb
  loops : ∀ K (ok : KnowOk K b.rho b.sig) f F c, P.funcs[f]? = some F → F.body = some c → Loops.ok (@LoopOk (b.withK K ok) P (R.loops K f)) c
theorem tabs_withK {b : Base} {T : Tabs} (h : @TabsOk b T) {K : Know} (ok : KnowOk K b.rho b.sig) : @TabsOk (b.withK K ok) T := by
  obtain ⟨h1, h2, h3⟩ := h
  exact @TabsOk.mk (b.withK K ok) T h1 h2 h3
theorem RigOk.sound {P : Program} {R : Rig} {b : Base} (h : RigOk P R b) (K : Know) (ok : KnowOk K b.rho b.sig) : @Sound (b.withK K ok) P (@runsL K R.ty R.fn (R.lib K) R.tb (R.loops K) R.n R.d) :=
  @runsL_ok (b.withK K ok) P R.ty (h.ty K ok) R.fn h.fn (R.lib K) (h.lib K ok) h.mixed R.tb (tabs_withK h.tb ok) (R.loops K) (h.loops K ok) R.n R.d
theorem Turns.withK {P : Program} {b1 b2 : Base} {c : Code} {hd s1 : St} {x : X} (h : Turns P b1 b2 c hd x s1) {K : Know} (ok : KnowOk K b2.rho b2.sig) : Turns P b1 (b2.withK K ok) c hd x s1 := by
  intro r B a w hr
  exact wp_mono (h hr) fun e a' w' ⟨g1, r', g2, g3, g4⟩ => ⟨g1, r', Rel.withK b2 ok g2, g3, g4⟩
theorem Agree.withK {b1 b2 : Base} {d : Bd} (h : Agree b1 b2 d) {K : Know} (ok : KnowOk K b1.rho b1.sig) : Agree (b1.withK K ok) b2 d := ⟨h.nb, h.g, h.n, h.s, h.l⟩
def turnT (R : Rig) (f : FuncId) (fx : Fx) (as : List (E × Bool)) (us : List Upd) (d : Bd) (c : Code) (hd : St) (x : X) (s1 : St) (L : Lf) : Bool :=
  @skipB (L.knowX fx) as || tellsR d (@thU (L.knowX fx) us) x s1 (@exec (L.knowX fx) (R.ctx (L.knowX fx) f) 0 R.n c hd)
theorem turn_auto {P : Program} {R : Rig} {f : FuncId} {b1 b2 : Base} (hR : RigOk P R b1) {d : Bd} (ag : Agree b1 b2 d) {c : Code} {hd s1 : St} (hnx : hd.h.next = s1.h.next) {x : X} {L0 : Lf} {hs : HT} {fx : Fx} {as : List (E × Bool)} {us : List Upd}
    (h0 : L0.Holds b1.rho b1.sig) (hf : FxOk fx b1.rho) (has : ∀ p ∈ as, p.1.num b1.rho = p.2) (hus : ∀ u ∈ us, UpdOk b1 b2 u)
    (hL : ∀ K (ok : KnowOk K b1.rho b1.sig), Loops.ok (@LoopOk (b1.withK K ok) P (R.loops K f)) c)
    (hrun : autoB (turnT R f fx as us d c hd x s1) hs L0 = true) : Turns P b1 b2 c hd x s1 := by
  intro r B a w hr
  obtain ⟨L, hLh, ht⟩ := autoB_ok hrun h0
  unfold turnT at ht
  rw [Bool.or_eq_true] at ht
  let bL : Base := b1.withK (L.knowX fx) (Lf.okX hLh hf)
  rcases ht with ht | ht
  · rw [@skipB_no bL as has] at ht
    cases ht
  · cases he : @exec (L.knowX fx) (R.ctx (L.knowX fx) f) 0 R.n c hd with
    | none => rw [he] at ht; cases ht
    | some p =>
      obtain ⟨y, s⟩ := p
      rw [he] at ht
      have ht : (X.same y x && fitSt d (@thU (L.knowX fx) us) s1 s) = true := ht
      simp only [Bool.and_eq_true] at ht
      obtain rfl := X.same_ok ht.1
      refine wp_mono (@exec_ok bL P (R.ctx (L.knowX fx) f) 0 (hR.ty _ _) ⟨hR.sound _ _, tabs_withK hR.tb _⟩ hR.mixed R.n c (hL _ _) B hd s y r a w (Rel.withK b1 _ hr) he) fun e a' w' ⟨h1, r', h2, h3, h4⟩ => ?_
      obtain ⟨k1, k2⟩ := fitSt_ok (b1 := bL) (ag.withK _) (@thU_ok bL b2 us hus) ht.2 h2
      exact ⟨h1, _, k1, k2 (Parts.ok hr).n hnx h3 (fun l _ h => absurd h (Nat.not_lt_zero l)), h4⟩
def A.eqE (x y : A) : Bool := match x, y with | .s x, .s y => x.eqb y | .g l, .g k => sameL S.eqb l k | _, _ => false
def V.eqE (x y : V) : Bool := match x, y with | .a x, .a y => x.eqE y | .t l, .t k => sameL A.eqE l k | _, _ => false
theorem sameE_ok {α : Type} {f : α → α → Bool} (hf : ∀ x y, f x y = true → x = y) : ∀ {a b : List α}, sameL f a b = true → a = b
  | [], [], _ => rfl
  | x :: a, y :: b, h => by
    simp only [sameL, Bool.and_eq_true] at h
    rw [hf x y h.1, sameE_ok hf h.2]
  | [], _ :: _, h => by cases h
  | _ :: _, [], h => by cases h
theorem A.eqE_ok {x y : A} (h : x.eqE y = true) : x = y := by
  unfold A.eqE at h
  split at h
  · rw [S.eqb_ok h]
  · rw [sameE_ok (fun _ _ => S.eqb_ok) h]
  · cases h
theorem V.eqE_ok {x y : V} (h : x.eqE y = true) : x = y := by
  unfold V.eqE at h
  split at h
  · rw [A.eqE_ok h]
  · rw [sameE_ok (fun _ _ => A.eqE_ok) h]
  · cases h
def sayE (v : V) (r : Option (V × Heap)) : Bool := Option.rec false (fun p => V.eqE p.1 v) r
theorem sayE_is {v : V} {r : Option (V × Heap)} (h : sayE v r = true) : ∃ h', r = some (v, h') := by
  cases r with
  | none => cases h
  | some p =>
    obtain ⟨v', h'⟩ := p
    have h : V.eqE v' v = true := h
    rw [V.eqE_ok h]
    exact ⟨h', rfl⟩
def callT (R : Rig) (f : FuncId) (fx : Fx) (as : List (E × Bool)) (es : List E) (g : List Bool → V) (args : List A) (L : Lf) : Bool :=
  @skipB (L.knowX fx) as || Option.rec false (fun bs => sayE (g bs) (@runsL (L.knowX fx) R.ty R.fn (R.lib (L.knowX fx)) R.tb (R.loops (L.knowX fx)) R.n R.d f args ⟨[], 0⟩ 0)) (@absAll (L.knowX fx) es)
theorem calls_auto {P : Program} {R : Rig} {f : FuncId} {b : Base} {w : World} (hnb : b.nb ≤ w.heap.size) (hg : ∀ k, k < b.nb → w.heap[k]? = b.g k) (hR : RigOk P R b) {L0 : Lf} {hs : HT} {fx : Fx} {as : List (E × Bool)} {es : List E} {g : List Bool → V} {args : List A} {vs : List Value}
    (h0 : L0.Holds b.rho b.sig) (hf : FxOk fx b.rho) (has : ∀ p ∈ as, p.1.num b.rho = p.2) (ha : All2 (@VA b r0) args vs) (hrun : autoB (callT R f fx as es g args) hs L0 = true) :
    Calls P f vs.toArray w fun x w' => ∃ u r, x = .returned u ∧ @VV b r (g (es.map (E.num b.rho))) u ∧ Below w.heap.size w w' := by
  obtain ⟨L, hLh, ht⟩ := autoB_ok hrun h0
  unfold callT at ht
  rw [Bool.or_eq_true] at ht
  let bL : Base := b.withK (L.knowX fx) (Lf.okX hLh hf)
  rcases ht with ht | ht
  · rw [@skipB_no bL as has] at ht
    cases ht
  · cases ha' : @absAll (L.knowX fx) es with
    | none => rw [ha'] at ht; cases ht
    | some bs =>
      rw [ha'] at ht
      obtain ⟨h', hr⟩ := sayE_is ht
      have e : es.map (E.num b.rho) = bs := @absAll_ok bL _ _ ha'
      rw [e]
      exact @calls_flat bL P w hnb hg _ (hR.sound _ _) f _ _ ha _ h' hr
end
end Go.Proofs.YthdcahkedlijpaaGreat.Am
