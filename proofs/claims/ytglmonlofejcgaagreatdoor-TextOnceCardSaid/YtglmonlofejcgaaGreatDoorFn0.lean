/- Functions of lists, by the machine: numbers and lists behind a call, cases split by hints, and what comes out told by tests of numbers. (No program in sight.) -/
import Derived.Test.YtglmonlofejcgaaGreatDoorAmC
open Bool renaming and_eq_true → apv, or_eq_true → apw
set_option linter.unusedVariables false
set_option linter.unusedSectionVars false
namespace Go.Proofs.YtglmonlofejcgaaGreatDoor
namespace Am
open Go.RowKit
def aF (xs : List Int) (i : Nat) : Int := xs.getD i 0
structure Env where
 w : World
 xs : List Int
 ls : List ajl
@[reducible] def Env.b (e : Env) : Base := { Know.nought with nb := e.w.heap.size, g := fun k => e.w.heap[k]?, rho := aF e.xs, sig := fun _ => [], ok := aG.nought _ _, lst := fun k => e.ls.getD k ⟨.pointer none, []⟩ }
structure Fx where
 ad : List (Nat × Int × Nat)
 xt : xZ
structure vT (f : Fx) (rho : Nat -> Int) : Prop where
 ad : ∀ i c k, (i, c, k) ∈ f.ad -> rho i + c = rho k /\ IntKind.i64.min <= rho k /\ rho k <= IntKind.i64.max
 xt : vX f.xt rho
@[reducible] def Lf.jq (L : Lf) (f : Fx) : Know := ⟨L.iv, L.ne, L.lt, [], [], [], L.cf, [], [], [], [], f.ad, f.xt⟩
theorem Lf.okX {L : Lf} {f : Fx} {rho : Nat -> Int} {sig : Nat -> List UInt8} (h : L.Holds rho sig) (q : vT f rho) : aG (L.jq f) rho sig where
 iv := h.iv
 ne i j e := h.ne i j (oL e)
 lt i j e := h.lt i j (oL e)
 mx _ _ e := by cases e
 sq _ _ _ e := by cases e
 ln _ _ e := by cases e
 cf := h.cf
 df _ _ _ e := by cases e
 sx _ _ _ e := by cases e
 ct _ _ _ _ e := by cases e
 sb _ _ _ e := by cases e
 ad := q.ad
 xt := q.xt
def Lf.of (iv : List (Int × Int)) : Lf := ⟨iv, [], [], [], [], [], []⟩
theorem Lf.adx {iv : List (Int × Int)} {rho : Nat -> Int} {sig : Nat -> List UInt8} (h : ∀ i p, iv[i]? = some p -> p.1 <= rho i /\ rho i <= p.2) : (Lf.of iv).Holds rho sig where
 iv i p e := h i p (by rw [<- aN]; exact e)
 ne _ _ e := by cases e
 lt _ _ e := by cases e
 to i j e := by
  have e : nth ([] : List Nat) i = some j := e
  rw [DU] at e
  cases e
 st _ _ e := by cases e
 sn _ _ e := by cases e
 cf _ e := by cases e
noncomputable section
inductive HT where
 | leaf
 | cut (force : Bool) (i : Nat) (c : Int) (a b : HT)
structure Hint where
 force : Bool
 i : Nat
 c : Int
def HT.of : List Hint -> HT
 | [] => .leaf
 | p :: r => .cut p.force p.i p.c (HT.of r) (HT.of r)
abbrev HT.on (i : Nat) (c : Int) (a b : HT) : HT := .cut true i c a b
abbrev HT.by (i : Nat) (c : Int) (a b : HT) : HT := .cut false i c a b
abbrev HT.both (i : Nat) (c : Int) (t : HT) : HT := .cut false i c t t
def below (L : Lf) (i : Nat) (c : Int) : Bool := Option.rec true (fun p => decide (p.2 < c)) (nth L.iv i)
def above (L : Lf) (i : Nat) (c : Int) : Bool := Option.rec true (fun p => decide (c <= p.1)) (nth L.iv i)
def aJ (test : Lf -> Bool) (t : HT) : Lf -> Bool :=
 HT.rec (fun L => test L) (fun force i c _ _ ia ib L => bif below L i c then ia L else bif above L i c then ib L else (bif force then false else test L) || (ia (L.hi i (c - 1)) && ib (L.lo i c))) t
theorem oO {test : Lf -> Bool} {rho : Nat -> Int} {sig : Nat -> List UInt8} : ∀ {t : HT} {L : Lf}, aJ test t L = true -> L.Holds rho sig -> ∃ L' : Lf, L'.Holds rho sig /\ test L' = true
 | .leaf, L, h, hL => ⟨L, hL, h⟩
 | .cut force i c a b, L, h, hL => by
  have h : (bif below L i c then aJ test a L else bif above L i c then aJ test b L else (bif force then false else test L) || (aJ test a (L.hi i (c - 1)) && aJ test b (L.lo i c))) = true := h
  cases h1 : below L i c <;> rw [h1] at h <;> simp only [cond_true, cond_false] at h
  ·cases h2 : above L i c <;> rw [h2] at h <;> simp only [cond_true, cond_false] at h
   ·rw [apw] at h
    rcases h with h | h
    ·cases hf : force <;> rw [hf] at h <;> simp only [cond_true, cond_false] at h
     ·exact ⟨L, hL, h⟩
     ·cases h
    ·rw [apv] at h
     by_cases hc : rho i < c
     ·exact oO h.1 (hL.hi (by omega))
     ·exact oO h.2 (hL.lo (by omega))
   ·exact oO h hL
  ·exact oO h hL
end
def E.num (rho : Nat -> Int) : E -> Bool
 | .lt i c => decide (rho i < c)
 | .zero l => l.all fun p => decide (rho p.1 = p.2)
 | .and a b => a.num rho && b.num rho
 | .or a b => a.num rho || b.num rho
 | .not a => !a.num rho
noncomputable section
section
variable [Know]
def amY (l : List (Nat × Int)) : Option Bool := List.rec (some true) (fun p _ ih => ND (eqC p.1 p.2) ih) l
def E.Q7 (e : E) : Option Bool :=
 E.rec (fun i c => ltX (.x i) (.c c)) (fun l => amY l) (fun _ _ a b => ND a b) (fun _ _ a b => sH (ND (sH a) (sH b))) (fun _ a => sH a) e
end
theorem a2l [Base] : ∀ {l : List (Nat × Int)} {b : Bool}, amY l = some b -> (l.all fun p => decide (Base.rho p.1 = p.2)) = b
 | [], b, h => by cases h; rfl
 | p :: l, b, h => by
  rw [List.all_cons]
  exact F6 (fun c h => vO h) (fun c h => a2l h) (show ND (eqC p.1 p.2) (amY l) = some b from h)
theorem E.uT [Base] : ∀ {e : E} {b : Bool}, e.Q7 = some b -> e.num Base.rho = b
 | .lt i c, b, h => (yP (show ltX (.x i) (.c c) = some b from h)).symm
 | .zero l, b, h => a2l h
 | .and p q, b, h => F6 (fun _ h => E.uT h) (fun _ h => E.uT h) (show ND p.Q7 q.Q7 = some b from h)
 | .or p q, b, h => by
  have h : sH (ND (sH p.Q7) (sH q.Q7)) = some b := h
  have := rP (fun _ h => F6 (fun _ h => rP (fun _ h => E.uT h) h) (fun _ h => rP (fun _ h => E.uT h) h) h) h
  rw [<- this]
  show (p.num Base.rho || q.num Base.rho) = _
  cases p.num Base.rho <;> cases q.num Base.rho <;> rfl
 | .not p, b, h => rP (fun _ h => E.uT h) (show sH p.Q7 = some b from h)
def xq [Know] (es : List E) : Option (List Bool) := List.rec (some []) (fun e _ ih => ob e.Q7 fun b => ob ih fun r => some (b :: r)) es
theorem zT [Base] : ∀ {es : List E} {bs : List Bool}, xq es = some bs -> es.map (E.num Base.rho) = bs
 | [], bs, h => by cases h; rfl
 | e :: es, bs, h => by
  obtain ⟨b, hb, h⟩ := aj (show (ob e.Q7 fun b => ob (xq es) fun r => some (b :: r)) = some bs from h)
  obtain ⟨r, hr, h⟩ := aj h
  cases h
  rw [List.map_cons, E.uT hb, zT hr]
def N9 [Know] (as : List (E × Bool)) : Bool := as.any fun p => Option.rec false (fun b => xor b p.2) p.1.Q7
theorem Et [Base] {as : List (E × Bool)} (h : ∀ p ∈ as, p.1.num Base.rho = p.2) : N9 as = false := by
 unfold N9
 rw [List.any_eq_false]
 intro p hp
 cases ha : p.1.Q7 with
 | none => simp
 | some b =>
  have := h p hp
  rw [E.uT ha] at this
  simp [this]
structure Upd where
 y : S
 es : List E
 f : List Bool -> S
def isU (y x : S) : Upd := ⟨y, [], fun _ => x⟩
def a4C (y : S) (e : E) : Upd := ⟨y, [e], fun bs => .bool (bs.headD false)⟩
def thU [Know] (us : List Upd) : Th := us.filterMap fun u => Option.rec none (fun bs => some (u.y, u.f bs)) (xq u.es)
def iI (b1 b2 : Base) (u : Upd) : Prop := ∀ r v, @VS b1 r (u.f (u.es.map (E.num b1.rho))) v -> @VS b2 r u.y v
theorem Zy {b1 b2 : Base} {us : List Upd} (h : ∀ u ∈ us, iI b1 b2 u) : Th.ok b1 b2 (@thU b1.toKnow us) := by
 intro p hp r v hv
 unfold thU at hp
 rw [List.mem_filterMap] at hp
 obtain ⟨u, hu, hp⟩ := hp
 cases ha : @xq b1.toKnow u.es with
 | none => rw [ha] at hp; cases hp
 | some bs =>
  rw [ha] at hp
  cases hp
  refine h u hu r v ?_
  rw [@zT b1 _ _ ha]
  exact hv
theorem dP {b1 b2 : Base} {y x : S} (h : ∀ r v, @VS b1 r x v -> @VS b2 r y v) : iI b1 b2 (isU y x) := h
theorem EX {b1 b2 : Base} {i : Nat} {e : E} (h : b2.rho i = 1 ↔ e.num b1.rho = true) : iI b1 b2 (a4C (.xe [(i, 1)]) e) := by
 intro r v hv
 have hv : v = .bool (e.num b1.rho) := hv
 show v = .bool (decide (b2.rho i = 1) || false)
 rw [hv, Bool.or_false]
 congr 1
 cases hb : e.num b1.rho
 ·exact (decide_eq_false fun hh => by rw [h.1 hh] at hb; cases hb).symm
 ·exact (decide_eq_true (h.2 hb)).symm
def TY (i : Nat) (e : E) (j : Nat) : Upd := ⟨.xe [(i, 1)], [e, .zero [(j, 1)]], fun bs => bif bs.headD false == (bs.drop 1).headD false then .xe [(j, 1)] else .bool (bs.headD false)⟩
theorem EJ {b1 b2 : Base} {i j : Nat} {e : E} (h : b2.rho i = 1 ↔ e.num b1.rho = true) : iI b1 b2 (TY i e j) := by
 intro r v hv
 have hv : @VS b1 r (bif e.num b1.rho == (decide (b1.rho j = 1) && true) then .xe [(j, 1)] else .bool (e.num b1.rho)) v := hv
 have key : v = .bool (e.num b1.rho) := by
  cases hc : (e.num b1.rho == (decide (b1.rho j = 1) && true)) <;> rw [hc] at hv <;> simp only [cond_true, cond_false] at hv
  ·exact hv
  ·have hv : v = .bool (decide (b1.rho j = 1) || false) := hv
   rw [hv, Bool.or_false]
   simp only [Bool.and_true, beq_iff_eq] at hc
   rw [hc]
 exact EX h r v key
structure Rig where
 ty : Tys
 fn : FuncId -> Option Func
 lib : Know -> aS
 tb : Tabs
 loops : Know -> FuncId -> Loops
 n : Nat
 d : Nat
def Rig.ctx (R : Rig) (K : Know) (f : FuncId) : Ctx := ⟨R.ty, @rC K R.ty R.fn (R.lib K) R.tb (R.loops K) R.n R.d, R.tb, R.loops K f⟩
structure jT (P : Program) (R : Rig) (b : Base) : Prop where
 ty : ∀ K (ok : aG K b.rho b.sig), @dV (b.aH K ok) P R.ty
 fn : ahd P R.fn
 lib : ∀ K (ok : aG K b.rho b.sig), @Sound (b.aH K ok) P (R.lib K)
 mixed : P.follows .mixedOrders = true
 tb : @bg b R.tb
 loops : ∀ K (ok : aG K b.rho b.sig) f F c, P.funcs[f]? = some F -> F.body = some c -> Loops.ok (@aO (b.aH K ok) P (R.loops K f)) c
theorem Le {b : Base} {T : Tabs} (h : @bg b T) {K : Know} (ok : aG K b.rho b.sig) : @bg (b.aH K ok) T := by
 obtain ⟨h1, h2, h3⟩ := h
 exact @bg.mk (b.aH K ok) T h1 h2 h3
theorem jT.sound {P : Program} {R : Rig} {b : Base} (h : jT P R b) (K : Know) (ok : aG K b.rho b.sig) : @Sound (b.aH K ok) P (@rC K R.ty R.fn (R.lib K) R.tb (R.loops K) R.n R.d) :=
 @qN (b.aH K ok) P R.ty (h.ty K ok) R.fn h.fn (R.lib K) (h.lib K ok) h.mixed R.tb (Le h.tb ok) (R.loops K) (h.loops K ok) R.n R.d
theorem Turns.aH {P : Program} {b1 b2 : Base} {c : Code} {hd s1 : St} {x : X} (h : Turns P b1 b2 c hd x s1) {K : Know} (ok : aG K b2.rho b2.sig) : Turns P b1 (b2.aH K ok) c hd x s1 := by
 intro r B a w hr
 exact wp_mono (h hr) fun e a' w' ⟨g1, r', g2, g3, g4⟩ => ⟨g1, r', Rel.aH b2 ok g2, g3, g4⟩
theorem Agree.aH {b1 b2 : Base} {d : Bd} (h : Agree b1 b2 d) {K : Know} (ok : aG K b1.rho b1.sig) : Agree (b1.aH K ok) b2 d := ⟨h.nb, h.g, h.n, h.s, h.l⟩
def dU (R : Rig) (f : FuncId) (fx : Fx) (as : List (E × Bool)) (us : List Upd) (d : Bd) (c : Code) (hd : St) (x : X) (s1 : St) (L : Lf) : Bool :=
 @N9 (L.jq fx) as || o8 d (@thU (L.jq fx) us) x s1 (@exec (L.jq fx) (R.ctx (L.jq fx) f) 0 R.n c hd)
theorem H7 {P : Program} {R : Rig} {f : FuncId} {b1 b2 : Base} (hR : jT P R b1) {d : Bd} (ag : Agree b1 b2 d) {c : Code} {hd s1 : St} (hnx : hd.h.next = s1.h.next) {x : X} {L0 : Lf} {hs : HT} {fx : Fx} {as : List (E × Bool)} {us : List Upd}
  (h0 : L0.Holds b1.rho b1.sig) (hf : vT fx b1.rho) (has : ∀ p ∈ as, p.1.num b1.rho = p.2) (hus : ∀ u ∈ us, iI b1 b2 u)
  (hL : ∀ K (ok : aG K b1.rho b1.sig), Loops.ok (@aO (b1.aH K ok) P (R.loops K f)) c)
  (hrun : aJ (dU R f fx as us d c hd x s1) hs L0 = true) : Turns P b1 b2 c hd x s1 := by
 intro r B a w hr
 obtain ⟨L, hLh, ht⟩ := oO hrun h0
 unfold dU at ht
 rw [apw] at ht
 let bL : Base := b1.aH (L.jq fx) (Lf.okX hLh hf)
 rcases ht with ht | ht
 ·rw [@Et bL as has] at ht
  cases ht
 ·cases he : @exec (L.jq fx) (R.ctx (L.jq fx) f) 0 R.n c hd with
  | none => rw [he] at ht; cases ht
  | some p =>
   obtain ⟨y, s⟩ := p
   rw [he] at ht
   have ht : (X.same y x && wG d (@thU (L.jq fx) us) s1 s) = true := ht
   simp only [apv] at ht
   obtain rfl := X.jO ht.1
   refine wp_mono (@VD bL P (R.ctx (L.jq fx) f) 0 (hR.ty _ _) ⟨hR.sound _ _, Le hR.tb _⟩ hR.mixed R.n c (hL _ _) B hd s y r a w (Rel.aH b1 _ hr) he) fun e a' w' ⟨h1, r', h2, h3, h4⟩ => ?_
   obtain ⟨k1, k2⟩ := xJ (b1 := bL) (ag.aH _) (@Zy bL b2 us hus) ht.2 h2
   exact ⟨h1, _, k1, k2 (Parts.ok hr).n hnx h3 (fun l _ h => absurd h (Nat.not_lt_zero l)), h4⟩
def A.eqE (x y : A) : Bool := match x, y with | .s x, .s y => x.eqb y | .g l, .g k => iE S.eqb l k | _, _ => false
def V.eqE (x y : V) : Bool := match x, y with | .a x, .a y => x.eqE y | .t l, .t k => iE A.eqE l k | _, _ => false
theorem Mc {α : Type} {f : α -> α -> Bool} (hf : ∀ x y, f x y = true -> x = y) : ∀ {a b : List α}, iE f a b = true -> a = b
 | [], [], _ => rfl
 | x :: a, y :: b, h => by
  simp only [iE, apv] at h
  rw [hf x y h.1, Mc hf h.2]
 | [], _ :: _, h => by cases h
 | _ :: _, [], h => by cases h
theorem A.Vx {x y : A} (h : x.eqE y = true) : x = y := by
 unfold A.eqE at h
 split at h
 ·rw [S.sO h]
 ·rw [Mc (fun _ _ => S.sO) h]
 ·cases h
theorem V.Vx {x y : V} (h : x.eqE y = true) : x = y := by
 unfold V.eqE at h
 split at h
 ·rw [A.Vx h]
 ·rw [Mc (fun _ _ => A.Vx) h]
 ·cases h
def alF (v : V) (r : Option (V × Heap)) : Bool := Option.rec false (fun p => V.eqE p.1 v) r
theorem a1J {v : V} {r : Option (V × Heap)} (h : alF v r = true) : ∃ h', r = some (v, h') := by
 cases r with
 | none => cases h
 | some p =>
  obtain ⟨v', h'⟩ := p
  have h : V.eqE v' v = true := h
  rw [V.Vx h]
  exact ⟨h', rfl⟩
def kX (R : Rig) (f : FuncId) (fx : Fx) (as : List (E × Bool)) (es : List E) (g : List Bool -> V) (args : List A) (L : Lf) : Bool :=
 @N9 (L.jq fx) as || Option.rec false (fun bs => alF (g bs) (@rC (L.jq fx) R.ty R.fn (R.lib (L.jq fx)) R.tb (R.loops (L.jq fx)) R.n R.d f args ⟨[], 0⟩ 0)) (@xq (L.jq fx) es)
theorem jl {P : Program} {R : Rig} {f : FuncId} {b : Base} {w : World} (hnb : b.nb <= w.heap.size) (hg : ∀ k, k < b.nb -> w.heap[k]? = b.g k) (hR : jT P R b) {L0 : Lf} {hs : HT} {fx : Fx} {as : List (E × Bool)} {es : List E} {g : List Bool -> V} {args : List A} {vs : List Value}
  (h0 : L0.Holds b.rho b.sig) (hf : vT fx b.rho) (has : ∀ p ∈ as, p.1.num b.rho = p.2) (ha : ak (@VA b r0) args vs) (hrun : aJ (kX R f fx as es g args) hs L0 = true) :
  Calls P f vs.toArray w fun x w' => ∃ u r, x = .returned u /\ @VV b r (g (es.map (E.num b.rho))) u /\ Below w.heap.size w w' := by
 obtain ⟨L, hLh, ht⟩ := oO hrun h0
 unfold kX at ht
 rw [apw] at ht
 let bL : Base := b.aH (L.jq fx) (Lf.okX hLh hf)
 rcases ht with ht | ht
 ·rw [@Et bL as has] at ht
  cases ht
 ·cases ha' : @xq (L.jq fx) es with
  | none => rw [ha'] at ht; cases ht
  | some bs =>
   rw [ha'] at ht
   obtain ⟨h', hr⟩ := a1J ht
   have e : es.map (E.num b.rho) = bs := @zT bL _ _ ha'
   rw [e]
   exact @iC bL P w hnb hg _ (hR.sound _ _) f _ _ ha _ h' hr
end
end Am
end Go.Proofs.YtglmonlofejcgaaGreatDoor
