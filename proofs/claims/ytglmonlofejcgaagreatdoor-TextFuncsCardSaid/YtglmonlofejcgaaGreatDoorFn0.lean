/- Functions of lists, by the machine: numbers and lists behind a call, cases split by hints, and what comes out told by tests of numbers. (No program in sight.) -/
import Derived.Test.YtglmonlofejcgaaGreatDoorAmC
set_option linter.unusedVariables false
set_option linter.unusedSectionVars false
namespace Go.Proofs.YtglmonlofejcgaaGreatDoor.Am
open Go.RowKit
def aF (xs : List Int) (i : Nat) : Int := xs.getD i 0
structure Env where
 w : World
 xs : List Int
 ls : List ai2
@[reducible] def Env.b (e : Env) : Base := { Know.nought with nb := e.w.heap.size, g := fun k => e.w.heap[k]?, rho := aF e.xs, sig := fun _ => [], ok := aG.nought _ _, lst := fun k => e.ls.getD k ⟨.pointer none, []⟩ }
structure Fx where
 ad : List (Nat × Int × Nat)
 xt : vG
structure uj (f : Fx) (rho : Nat -> Int) : Prop where
 ad : ∀ i c k, (i, c, k) ∈ f.ad -> rho i + c = rho k /\ IntKind.i64.min <= rho k /\ rho k <= IntKind.i64.max
 xt : um f.xt rho
@[reducible] def Lf.jd (L : Lf) (f : Fx) : Know := ⟨L.iv, L.ne, L.lt, [], [], [], L.cf, [], [], [], [], f.ad, f.xt⟩
theorem Lf.okX {L : Lf} {f : Fx} {rho : Nat -> Int} {sig : Nat -> List UInt8} (h : L.Holds rho sig) (q : uj f rho) : aG (L.jd f) rho sig where
 iv := h.iv
 ne i j e := h.ne i j (nO e)
 lt i j e := h.lt i j (nO e)
 mx _ _ e := by cases e
 sq _ _ _ e := by cases e
 ln _ _ e := by cases e
 cf := h.cf
 df _ _ _ e := by cases e
 sx _ _ _ e := by cases e
 ct _ _ _ _ e := by cases e
 sb _ _ _ e := by cases e
 ad := q.ad
 xt := q.xt
def Lf.of (iv : List (Int × Int)) : Lf := ⟨iv, [], [], [], [], [], []⟩
theorem Lf.af6 {iv : List (Int × Int)} {rho : Nat -> Int} {sig : Nat -> List UInt8} (h : ∀ i p, iv[i]? = some p -> p.1 <= rho i /\ rho i <= p.2) : (Lf.of iv).Holds rho sig where
 iv i p e := h i p (by rw [<- aK]; exact e)
 ne _ _ e := by cases e
 lt _ _ e := by cases e
 to i j e := by
  have e : nth ([] : List Nat) i = some j := e
  rw [Ed] at e
  cases e
 st _ _ e := by cases e
 sn _ _ e := by cases e
 cf _ e := by cases e
noncomputable section
inductive HT where
 | leaf
 | cut (force : Bool) (i : Nat) (c : Int) (a b : HT)
structure Hint where
 force : Bool
 i : Nat
 c : Int
def HT.of : List Hint -> HT
 | [] => .leaf
 | p :: r => .cut p.force p.i p.c (HT.of r) (HT.of r)
abbrev HT.on (i : Nat) (c : Int) (a b : HT) : HT := .cut true i c a b
abbrev HT.by (i : Nat) (c : Int) (a b : HT) : HT := .cut false i c a b
abbrev HT.both (i : Nat) (c : Int) (t : HT) : HT := .cut false i c t t
def below (L : Lf) (i : Nat) (c : Int) : Bool := Option.rec true (fun p => decide (p.2 < c)) (nth L.iv i)
def above (L : Lf) (i : Nat) (c : Int) : Bool := Option.rec true (fun p => decide (c <= p.1)) (nth L.iv i)
def aI (test : Lf -> Bool) (t : HT) : Lf -> Bool :=
 HT.rec (fun L => test L) (fun force i c _ _ ia ib L => bif below L i c then ia L else bif above L i c then ib L else (bif force then false else test L) || (ia (L.hi i (c - 1)) && ib (L.lo i c))) t
theorem nT {test : Lf -> Bool} {rho : Nat -> Int} {sig : Nat -> List UInt8} : ∀ {t : HT} {L : Lf}, aI test t L = true -> L.Holds rho sig -> ∃ L' : Lf, L'.Holds rho sig /\ test L' = true
 | .leaf, L, h, hL => ⟨L, hL, h⟩
 | .cut force i c a b, L, h, hL => by
  have h : (bif below L i c then aI test a L else bif above L i c then aI test b L else (bif force then false else test L) || (aI test a (L.hi i (c - 1)) && aI test b (L.lo i c))) = true := h
  cases h1 : below L i c <;> rw [h1] at h <;> simp only [cond_true, cond_false] at h
  ·cases h2 : above L i c <;> rw [h2] at h <;> simp only [cond_true, cond_false] at h
   ·rw [Bool.or_eq_true] at h
    rcases h with h | h
    ·cases hf : force <;> rw [hf] at h <;> simp only [cond_true, cond_false] at h
     ·exact ⟨L, hL, h⟩
     ·cases h
    ·rw [Bool.and_eq_true] at h
     by_cases hc : rho i < c
     ·exact nT h.1 (hL.hi (by omega))
     ·exact nT h.2 (hL.lo (by omega))
   ·exact nT h hL
  ·exact nT h hL
end
def E.num (rho : Nat -> Int) : E -> Bool
 | .lt i c => decide (rho i < c)
 | .zero l => l.all fun p => decide (rho p.1 = p.2)
 | .and a b => a.num rho && b.num rho
 | .or a b => a.num rho || b.num rho
 | .not a => !a.num rho
noncomputable section
section
variable [Know]
def akv (l : List (Nat × Int)) : Option Bool := List.rec (some true) (fun p _ ih => Jb (eqC p.1 p.2) ih) l
def E.Oh (e : E) : Option Bool :=
 E.rec (fun i c => ltX (.x i) (.c c)) (fun l => akv l) (fun _ _ a b => Jb a b) (fun _ _ a b => ru (Jb (ru a) (ru b))) (fun _ a => ru a) e
end
theorem a1t [Base] : ∀ {l : List (Nat × Int)} {b : Bool}, akv l = some b -> (l.all fun p => decide (Base.rho p.1 = p.2)) = b
 | [], b, h => by cases h; rfl
 | p :: l, b, h => by
  rw [List.all_cons]
  exact DF (fun c h => tY h) (fun c h => a1t h) (show Jb (eqC p.1 p.2) (akv l) = some b from h)
theorem E.tX [Base] : ∀ {e : E} {b : Bool}, e.Oh = some b -> e.num Base.rho = b
 | .lt i c, b, h => (wC (show ltX (.x i) (.c c) = some b from h)).symm
 | .zero l, b, h => a1t h
 | .and p q, b, h => DF (fun _ h => E.tX h) (fun _ h => E.tX h) (show Jb p.Oh q.Oh = some b from h)
 | .or p q, b, h => by
  have h : ru (Jb (ru p.Oh) (ru q.Oh)) = some b := h
  have := qU (fun _ h => DF (fun _ h => qU (fun _ h => E.tX h) h) (fun _ h => qU (fun _ h => E.tX h) h) h) h
  rw [<- this]
  show (p.num Base.rho || q.num Base.rho) = _
  cases p.num Base.rho <;> cases q.num Base.rho <;> rfl
 | .not p, b, h => qU (fun _ h => E.tX h) (show ru p.Oh = some b from h)
def xX [Know] (es : List E) : Option (List Bool) := List.rec (some []) (fun e _ ih => ob e.Oh fun b => ob ih fun r => some (b :: r)) es
theorem yP [Base] : ∀ {es : List E} {bs : List Bool}, xX es = some bs -> es.map (E.num Base.rho) = bs
 | [], bs, h => by cases h; rfl
 | e :: es, bs, h => by
  obtain ⟨b, hb, h⟩ := aj (show (ob e.Oh fun b => ob (xX es) fun r => some (b :: r)) = some bs from h)
  obtain ⟨r, hr, h⟩ := aj h
  cases h
  rw [List.map_cons, E.tX hb, yP hr]
def KU [Know] (as : List (E × Bool)) : Bool := as.any fun p => Option.rec false (fun b => xor b p.2) p.1.Oh
theorem Eh [Base] {as : List (E × Bool)} (h : ∀ p ∈ as, p.1.num Base.rho = p.2) : KU as = false := by
 unfold KU
 rw [List.any_eq_false]
 intro p hp
 cases ha : p.1.Oh with
 | none => simp
 | some b =>
  have := h p hp
  rw [E.tX ha] at this
  simp [this]
structure Upd where
 y : S
 es : List E
 f : List Bool -> S
def isU (y x : S) : Upd := ⟨y, [], fun _ => x⟩
def a4y (y : S) (e : E) : Upd := ⟨y, [e], fun bs => .bool (bs.headD false)⟩
def thU [Know] (us : List Upd) : Th := us.filterMap fun u => Option.rec none (fun bs => some (u.y, u.f bs)) (xX u.es)
def ig (b1 b2 : Base) (u : Upd) : Prop := ∀ r v, @VS b1 r (u.f (u.es.map (E.num b1.rho))) v -> @VS b2 r u.y v
theorem YN {b1 b2 : Base} {us : List Upd} (h : ∀ u ∈ us, ig b1 b2 u) : Th.ok b1 b2 (@thU b1.toKnow us) := by
 intro p hp r v hv
 unfold thU at hp
 rw [List.mem_filterMap] at hp
 obtain ⟨u, hu, hp⟩ := hp
 cases ha : @xX b1.toKnow u.es with
 | none => rw [ha] at hp; cases hp
 | some bs =>
  rw [ha] at hp
  cases hp
  refine h u hu r v ?_
  rw [@yP b1 _ _ ha]
  exact hv
theorem dN {b1 b2 : Base} {y x : S} (h : ∀ r v, @VS b1 r x v -> @VS b2 r y v) : ig b1 b2 (isU y x) := h
theorem CQ {b1 b2 : Base} {i : Nat} {e : E} (h : b2.rho i = 1 ↔ e.num b1.rho = true) : ig b1 b2 (a4y (.xe [(i, 1)]) e) := by
 intro r v hv
 have hv : v = .bool (e.num b1.rho) := hv
 show v = .bool (decide (b2.rho i = 1) || false)
 rw [hv, Bool.or_false]
 congr 1
 cases hb : e.num b1.rho
 ·exact (decide_eq_false fun hh => by rw [h.1 hh] at hb; cases hb).symm
 ·exact (decide_eq_true (h.2 hb)).symm
def QK (i : Nat) (e : E) (j : Nat) : Upd := ⟨.xe [(i, 1)], [e, .zero [(j, 1)]], fun bs => bif bs.headD false == (bs.drop 1).headD false then .xe [(j, 1)] else .bool (bs.headD false)⟩
theorem Ew {b1 b2 : Base} {i j : Nat} {e : E} (h : b2.rho i = 1 ↔ e.num b1.rho = true) : ig b1 b2 (QK i e j) := by
 intro r v hv
 have hv : @VS b1 r (bif e.num b1.rho == (decide (b1.rho j = 1) && true) then .xe [(j, 1)] else .bool (e.num b1.rho)) v := hv
 have key : v = .bool (e.num b1.rho) := by
  cases hc : (e.num b1.rho == (decide (b1.rho j = 1) && true)) <;> rw [hc] at hv <;> simp only [cond_true, cond_false] at hv
  ·exact hv
  ·have hv : v = .bool (decide (b1.rho j = 1) || false) := hv
   rw [hv, Bool.or_false]
   simp only [Bool.and_true, beq_iff_eq] at hc
   rw [hc]
 exact CQ h r v key
structure Rig where
 ty : Tys
 fn : FuncId -> Option Func
 lib : Know -> aS
 tb : Tabs
 loops : Know -> FuncId -> Loops
 n : Nat
 d : Nat
def Rig.ctx (R : Rig) (K : Know) (f : FuncId) : Ctx := ⟨R.ty, @qE K R.ty R.fn (R.lib K) R.tb (R.loops K) R.n R.d, R.tb, R.loops K f⟩
structure jG (P : Program) (R : Rig) (b : Base) : Prop where
 ty : ∀ K (ok : aG K b.rho b.sig), @dR (b.aH K ok) P R.ty
 fn : a6W P R.fn
 lib : ∀ K (ok : aG K b.rho b.sig), @Sound (b.aH K ok) P (R.lib K)
 mixed : P.follows .mixedOrders = true
 tb : @aZ b R.tb
 loops : ∀ K (ok : aG K b.rho b.sig) f F c, P.funcs[f]? = some F -> F.body = some c -> Loops.ok (@aO (b.aH K ok) P (R.loops K f)) c
theorem JL {b : Base} {T : Tabs} (h : @aZ b T) {K : Know} (ok : aG K b.rho b.sig) : @aZ (b.aH K ok) T := by
 obtain ⟨h1, h2, h3⟩ := h
 exact @aZ.mk (b.aH K ok) T h1 h2 h3
theorem jG.sound {P : Program} {R : Rig} {b : Base} (h : jG P R b) (K : Know) (ok : aG K b.rho b.sig) : @Sound (b.aH K ok) P (@qE K R.ty R.fn (R.lib K) R.tb (R.loops K) R.n R.d) :=
 @qo (b.aH K ok) P R.ty (h.ty K ok) R.fn h.fn (R.lib K) (h.lib K ok) h.mixed R.tb (JL h.tb ok) (R.loops K) (h.loops K ok) R.n R.d
theorem Turns.aH {P : Program} {b1 b2 : Base} {c : Code} {hd s1 : St} {x : X} (h : Turns P b1 b2 c hd x s1) {K : Know} (ok : aG K b2.rho b2.sig) : Turns P b1 (b2.aH K ok) c hd x s1 := by
 intro r B a w hr
 exact wp_mono (h hr) fun e a' w' ⟨g1, r', g2, g3, g4⟩ => ⟨g1, r', Rel.aH b2 ok g2, g3, g4⟩
theorem Agree.aH {b1 b2 : Base} {d : Bd} (h : Agree b1 b2 d) {K : Know} (ok : aG K b1.rho b1.sig) : Agree (b1.aH K ok) b2 d := ⟨h.nb, h.g, h.n, h.s, h.l⟩
def dQ (R : Rig) (f : FuncId) (fx : Fx) (as : List (E × Bool)) (us : List Upd) (d : Bd) (c : Code) (hd : St) (x : X) (s1 : St) (L : Lf) : Bool :=
 @KU (L.jd fx) as || mQ d (@thU (L.jd fx) us) x s1 (@exec (L.jd fx) (R.ctx (L.jd fx) f) 0 R.n c hd)
theorem Fb {P : Program} {R : Rig} {f : FuncId} {b1 b2 : Base} (hR : jG P R b1) {d : Bd} (ag : Agree b1 b2 d) {c : Code} {hd s1 : St} (hnx : hd.h.next = s1.h.next) {x : X} {L0 : Lf} {hs : HT} {fx : Fx} {as : List (E × Bool)} {us : List Upd}
  (h0 : L0.Holds b1.rho b1.sig) (hf : uj fx b1.rho) (has : ∀ p ∈ as, p.1.num b1.rho = p.2) (hus : ∀ u ∈ us, ig b1 b2 u)
  (hL : ∀ K (ok : aG K b1.rho b1.sig), Loops.ok (@aO (b1.aH K ok) P (R.loops K f)) c)
  (hrun : aI (dQ R f fx as us d c hd x s1) hs L0 = true) : Turns P b1 b2 c hd x s1 := by
 intro r B a w hr
 obtain ⟨L, hLh, ht⟩ := nT hrun h0
 unfold dQ at ht
 rw [Bool.or_eq_true] at ht
 let bL : Base := b1.aH (L.jd fx) (Lf.okX hLh hf)
 rcases ht with ht | ht
 ·rw [@Eh bL as has] at ht
  cases ht
 ·cases he : @exec (L.jd fx) (R.ctx (L.jd fx) f) 0 R.n c hd with
  | none => rw [he] at ht; cases ht
  | some p =>
   obtain ⟨y, s⟩ := p
   rw [he] at ht
   have ht : (X.same y x && uV d (@thU (L.jd fx) us) s1 s) = true := ht
   simp only [Bool.and_eq_true] at ht
   obtain rfl := X.jy ht.1
   refine wp_mono (@RP bL P (R.ctx (L.jd fx) f) 0 (hR.ty _ _) ⟨hR.sound _ _, JL hR.tb _⟩ hR.mixed R.n c (hL _ _) B hd s y r a w (Rel.aH b1 _ hr) he) fun e a' w' ⟨h1, r', h2, h3, h4⟩ => ?_
   obtain ⟨k1, k2⟩ := wU (b1 := bL) (ag.aH _) (@YN bL b2 us hus) ht.2 h2
   exact ⟨h1, _, k1, k2 (Parts.ok hr).n hnx h3 (fun l _ h => absurd h (Nat.not_lt_zero l)), h4⟩
def A.eqE (x y : A) : Bool := match x, y with | .s x, .s y => x.eqb y | .g l, .g k => iw S.eqb l k | _, _ => false
def V.eqE (x y : V) : Bool := match x, y with | .a x, .a y => x.eqE y | .t l, .t k => iw A.eqE l k | _, _ => false
theorem LY {α : Type} {f : α -> α -> Bool} (hf : ∀ x y, f x y = true -> x = y) : ∀ {a b : List α}, iw f a b = true -> a = b
 | [], [], _ => rfl
 | x :: a, y :: b, h => by
  simp only [iw, Bool.and_eq_true] at h
  rw [hf x y h.1, LY hf h.2]
 | [], _ :: _, h => by cases h
 | _ :: _, [], h => by cases h
theorem A.RN {x y : A} (h : x.eqE y = true) : x = y := by
 unfold A.eqE at h
 split at h
 ·rw [S.rH h]
 ·rw [LY (fun _ _ => S.rH) h]
 ·cases h
theorem V.RN {x y : V} (h : x.eqE y = true) : x = y := by
 unfold V.eqE at h
 split at h
 ·rw [A.RN h]
 ·rw [LY (fun _ _ => A.RN) h]
 ·cases h
def akA (v : V) (r : Option (V × Heap)) : Bool := Option.rec false (fun p => V.eqE p.1 v) r
theorem ZM {v : V} {r : Option (V × Heap)} (h : akA v r = true) : ∃ h', r = some (v, h') := by
 cases r with
 | none => cases h
 | some p =>
  obtain ⟨v', h'⟩ := p
  have h : V.eqE v' v = true := h
  rw [V.RN h]
  exact ⟨h', rfl⟩
def kG (R : Rig) (f : FuncId) (fx : Fx) (as : List (E × Bool)) (es : List E) (g : List Bool -> V) (args : List A) (L : Lf) : Bool :=
 @KU (L.jd fx) as || Option.rec false (fun bs => akA (g bs) (@qE (L.jd fx) R.ty R.fn (R.lib (L.jd fx)) R.tb (R.loops (L.jd fx)) R.n R.d f args ⟨[], 0⟩ 0)) (@xX (L.jd fx) es)
theorem iW {P : Program} {R : Rig} {f : FuncId} {b : Base} {w : World} (hnb : b.nb <= w.heap.size) (hg : ∀ k, k < b.nb -> w.heap[k]? = b.g k) (hR : jG P R b) {L0 : Lf} {hs : HT} {fx : Fx} {as : List (E × Bool)} {es : List E} {g : List Bool -> V} {args : List A} {vs : List Value}
  (h0 : L0.Holds b.rho b.sig) (hf : uj fx b.rho) (has : ∀ p ∈ as, p.1.num b.rho = p.2) (ha : ak (@VA b r0) args vs) (hrun : aI (kG R f fx as es g args) hs L0 = true) :
  Calls P f vs.toArray w fun x w' => ∃ u r, x = .returned u /\ @VV b r (g (es.map (E.num b.rho))) u /\ Below w.heap.size w w' := by
 obtain ⟨L, hLh, ht⟩ := nT hrun h0
 unfold kG at ht
 rw [Bool.or_eq_true] at ht
 let bL : Base := b.aH (L.jd fx) (Lf.okX hLh hf)
 rcases ht with ht | ht
 ·rw [@Eh bL as has] at ht
  cases ht
 ·cases ha' : @xX (L.jd fx) es with
  | none => rw [ha'] at ht; cases ht
  | some bs =>
   rw [ha'] at ht
   obtain ⟨h', hr⟩ := ZM ht
   have e : es.map (E.num b.rho) = bs := @yP bL _ _ ha'
   rw [e]
   exact @gY bL P w hnb hg _ (hR.sound _ _) f _ _ ha _ h' hr
end
end Go.Proofs.YtglmonlofejcgaaGreatDoor.Am
