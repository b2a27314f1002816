/- Loops over a function's lists as rows; whether there is too much of something: fnshape.large and pawnshopref07.many. -/
import Derived.Test.YtglmonlofejcgaaGreatDoorFn1
set_option maxRecDepth 100000
noncomputable section
open List renaming mem_singleton → apu, getD_eq_getElem?_getD → apx, getElem?_eq_some_iff → apy, all_eq_true → apC
open Nat renaming zero_le → apv, eq_of_beq_eq_true → apw, beq → apz, le_refl → apA
open Bool renaming and_eq_true → apB
set_option linter.unusedVariables false
set_option linter.unusedSectionVars false
namespace Go.Proofs.YtglmonlofejcgaaGreatDoor
namespace Am
open Go.RowKit
def aZ : Know -> FuncId -> Loops := fun _ _ _ _ _ => none
def dH (lib : Know -> aS) (tb : Tabs) (lp : Know -> FuncId -> Loops) : Rig := ⟨mY Tryz.prog, nC Tryz.prog, lib, tb, lp, 40, 12⟩
def iq : Know -> aS := fun _ => nN
theorem fK {lib : Know -> aS} {tb : Tabs} {lp : Know -> FuncId -> Loops} {b : Base} (hl : ∀ K (ok : aG K b.rho b.sig), @Sound (b.aH K ok) Tryz.prog (lib K)) (ht : @bg b tb)
  (hp : ∀ K (ok : aG K b.rho b.sig) f F c, Tryz.prog.funcs[f]? = some F -> F.body = some c -> Loops.ok (@aO (b.aH K ok) Tryz.prog (lp K f)) c) : jT Tryz.prog (dH lib tb lp) b :=
 ⟨fun K ok => @sF (b.aH K ok) Tryz.prog, Qq, hl, DF, ht, hp⟩
theorem je {b : Base} (K : Know) (ok : aG K b.rho b.sig) : @Sound (b.aH K ok) Tryz.prog (iq K) := fun _ _ _ _ _ _ h => by cases h
theorem oU {b : Base} (K : Know) (ok : aG K b.rho b.sig) (f : FuncId) (F : Func) (c : Code) (_ : Tryz.prog.funcs[f]? = some F) (_ : F.body = some c) : Loops.ok (@aO (b.aH K ok) Tryz.prog (aZ K f)) c :=
 Loops.qU (fun c => @aO.none (b.aH K ok) _ c) c
theorem VH {b : Base} (K : Know) (ok : aG K b.rho b.sig) (c : Code) : Loops.ok (@aO (b.aH K ok) Tryz.prog (fun _ _ _ => none)) c := Loops.qU (fun c => @aO.none (b.aH K ok) _ c) c
theorem bC {b : Base} (f : FuncId) (c : Code) : ∀ K (ok : aG K b.rho b.sig), Loops.ok (@aO (b.aH K ok) Tryz.prog (aZ K f)) c := fun K ok => VH K ok c
theorem bD {tb : Tabs} {b : Base} (ht : @bg b tb) : jT Tryz.prog (dH iq tb aZ) b := fK je ht oU
theorem aiM {P : Program} {bo : Base} {c e0 : Code} {i tag : Nat} {d : Bd} {th : Th} {hd s1 : St} {x : X} (hu : ((gQ c).map Code.tag).Nodup) (hi : nth (gQ c) i = some e0) (htag : e0.tag = tag) (h : @aO bo P (iW tag d th hd x s1) e0) :
  Loops.ok (@aO bo P (iW tag d th hd x s1)) c := by
 refine Loops.alg c fun e he => ?_
 rw [aN] at hi
 obtain ⟨hil, hie⟩ := apy.1 hi
 rcases Decidable.em (e.tag = tag) with ht | ht
 ·obtain ⟨j, hj, rfl⟩ := List.getElem_of_mem he
  have : j = i := by
   have h1 : ((gQ c).map Code.tag)[j]'(by simpa using hj) = ((gQ c).map Code.tag)[i]'(by simpa using hil) := by
    simp only [List.getElem_map]
    rw [ht, hie, htag]
   exact (List.getElem_inj hu).1 h1
  subst this
  rw [hie]
  exact @h
 ·intro fl B s s' y r a w _ hl
  unfold iW at hl
  have : apz e.tag tag = false := by
   cases hb : apz e.tag tag
   ·rfl
   ·exact absurd (apw hb) ht
  rw [this] at hl
  cases hl
def a1O : List Nat -> Bool
 | [] => true
 | a :: r => (r.all fun b => !apz a b) && a1O r
theorem YB : ∀ {l : List Nat}, a1O l = true -> l.Nodup
 | [], _ => List.nodup_nil
 | a :: r, h => by
  simp only [a1O, apB] at h
  refine List.nodup_cons.2 ⟨fun hm => ?_, YB h.2⟩
  have := apC.1 h.1 a hm
  rw [Nat.beq_refl] at this
  cases this
def fM (c : Code) (i tag : Nat) : Bool := a1O ((gQ c).map Code.tag) && Option.rec false (fun e => apz e.tag tag) (nth (gQ c) i)
theorem qB {P : Program} {bo : Base} {c : Code} {i tag : Nat} {d : Bd} {th : Th} {hd s1 : St} {x : X} (ht : fM c i tag = true) (h : @aO bo P (iW tag d th hd x s1) ((nth (gQ c) i).getD .skip)) : Loops.ok (@aO bo P (iW tag d th hd x s1)) c := by
 unfold fM at ht
 simp only [apB] at ht
 cases hn : nth (gQ c) i with
 | none => rw [hn] at ht; cases ht.2
 | some e =>
  rw [hn] at ht h
  exact aiM (YB ht.1) hn (apw ht.2) h
theorem iM {P : Program} {bo : Base} {F : Func} {i tag : Nat} {d : Bd} {th : Th} {hd s1 : St} {x : X} (ht : fM (F.body.getD .skip) i tag = true) (h : @aO bo P (iW tag d th hd x s1) (dW F i)) {c : Code} (hc : F.body = some c) : Loops.ok (@aO bo P (iW tag d th hd x s1)) c := by
 have e : dW F i = (nth (gQ c) i).getD .skip := by unfold dW; rw [hc]
 rw [hc] at ht
 exact qB ht (by rw [<- e]; exact h)
structure gZ (P : Program) (b1 b2 : Base) (c : Code) (hd : St) (x : X) (s1 : St) : Prop where
 go : ∀ (r : Ren) (B : Nat) (a : Act) (w : World), @Rel b1 hd r B a w -> c.wp P (Goes b2 B hd.h r a w x s1) a w
theorem zK {P : Program} {bo : Base} {bk : Nat -> Base} {c : Code} {d : Bd} {th : Th} {hd s1 : St} {x : X} (hx : x ≠ .normal) {N : Nat} (ag : Agree bo (bk 0) d) (ht : Th.ok bo (bk 0) th)
  (step : ∀ k, k < N -> gZ P (bk k) (bk (k + 1)) c hd .normal hd) (last : gZ P (bk N) bo c hd x s1) (tag : Nat) (K : Know) (ok : aG K bo.rho bo.sig) : @aO (bo.aH K ok) P (iW tag d th hd x s1) c :=
 Ui (bo := bo.aH K ok) (b := bk) hx (ag.aH ok) ht (fun k hk {r B a w} hr => (step k hk).go r B a w hr) (Turns.aH (fun {r B a w} hr => last.go r B a w hr) ok) tag
def iU (n : Nat) (l : List (Nat × S)) : Fr := l.foldl (fun fr p => upd fr p.1 (V.s p.2)) (List.replicate n V.any)
def bG (F : FuncId) (vs : List Value) (w : World) (u : Value) : Prop := Calls Tryz.prog F vs.toArray w fun e w' => e = .returned u /\ Below w.heap.size w w'
theorem bG.of {F : FuncId} {vs : List Value} {w : World} {b : Base} {v : V} {u : Value} (hu : ∀ r x, @VV b r v x -> x = u) (h : Calls Tryz.prog F vs.toArray w fun x w' => ∃ u r, x = .returned u /\ @VV b r v u /\ Below w.heap.size w w') : bG F vs w u :=
 h.mono fun e w' ⟨x, r, e1, e2, e3⟩ => ⟨by rw [e1, hu r x e2], e3⟩
theorem dh {P : Program} {bo : Base} {bk : Nat -> Base} {c : Code} {d : Bd} {us : List Upd} {hd s1 : St} {x : X} (hx : x ≠ .normal) {N : Nat} (ag : Agree bo (bk 0) d) (hu : ∀ u ∈ us, iI bo (bk 0) u)
  (step : ∀ k, k < N -> gZ P (bk k) (bk (k + 1)) c hd .normal hd) (last : gZ P (bk N) bo c hd x s1) (tag : Nat) (K : Know) (ok : aG K bo.rho bo.sig) : @aO (bo.aH K ok) P (iW tag d (@thU K us) hd x s1) c :=
 Ui (bo := bo.aH K ok) (b := bk) hx (ag.aH ok) (@Zy (bo.aH K ok) (bk 0) us hu) (fun k hk {r B a w} hr => (step k hk).go r B a w hr) (Turns.aH (fun {r B a w} hr => last.go r B a w hr) ok) tag
theorem bF {w : World} {D : FnD} {f : FuncId} {lib : Know -> aS} {tb : Tabs} {lp : Know -> FuncId -> Loops} {giv : List (E × Bool)} {us : List Upd} {d : Bd} {c : Code} {hd s1 : St} {x : X} {hs : HT} {L : Lf} {q q' : At} {m m' : List Int} {fx : Fx}
  (hrun : aJ (dU (dH lib tb lp) f fx giv us d c hd x s1) hs L = true) (hR : jT Tryz.prog (dH lib tb lp) (fnB w D q m)) (ag : Agree (fnB w D q m) (fnB w D q' m') d) (hL : L.Holds (aF (aK D q m)) (fun _ => [])) (hf : vT fx (aF (aK D q m))) (hg : ∀ p ∈ giv, p.1.num (aF (aK D q m)) = p.2)
  (hus : ∀ u ∈ us, iI (fnB w D q m) (fnB w D q' m') u) (hnx : hd.h.next = s1.h.next) (hlp : ∀ K (ok : aG K (fnB w D q m).rho (fnB w D q m).sig), Loops.ok (@aO ((fnB w D q m).aH K ok) Tryz.prog (lp K f)) c) : gZ Tryz.prog (fnB w D q m) (fnB w D q' m') c hd x s1 := by
 refine ⟨fun r B a w1 hr => ?_⟩
 exact H7 hR ag hnx hL hf hg hus hlp hrun hr
theorem rows_ok {bo : Base} {T : Know -> List (FuncId × Loops)} (h : ∀ K (ok : aG K bo.rho bo.sig), ∀ p ∈ T K, ∃ F : Func, Tryz.prog.funcs[p.1]? = some F /\ ∀ c, F.body = some c -> Loops.ok (@aO (bo.aH K ok) Tryz.prog p.2) c) :
  ∀ K (ok : aG K bo.rho bo.sig) g G c, Tryz.prog.funcs[g]? = some G -> G.body = some c -> Loops.ok (@aO (bo.aH K ok) Tryz.prog (dR (T K) g)) c := by
 intro K ok
 refine @EM Tryz.prog (bo.aH K ok) (T K) fun p hp G c hG hc => ?_
 obtain ⟨F, hF, hk⟩ := h K ok p hp
 obtain rfl : F = G := Option.some.inj (hF.symm.trans hG)
 exact hk c hc
theorem qo {b : Base} {f : FuncId} {F : Func} {c cc : Code} {T : List (FuncId × Loops)} (h : ∀ p ∈ T, p.1 = f -> Loops.ok (@aO b Tryz.prog p.2) c) : Loops.ok (@aO b Tryz.prog (dR T f)) c := by
 induction T with
 | nil => exact Loops.qU (fun c => by intro fl B s s' x r a w _ hl; cases hl) c
 | cons p T ih =>
  have ih := ih fun q hq => h q (List.mem_cons_of_mem _ hq)
  cases hb : apz p.1 f with
  | false =>
   refine Loops.Jw (fun c hQ => ?_) c ih
   intro fl B s s' x r a w hr hl
   have hl : (bif apz p.1 f then VW (p.2 c.tag fl s) (dR T f c.tag fl s) else dR T f c.tag fl s) = some (x, s') := hl
   rw [hb] at hl
   exact hQ hr hl
  | true =>
   refine Loops.Jw (fun c hQ => ?_) c (Loops.ado c (h p (List.mem_cons_self ..) (apw hb)) ih)
   intro fl B s s' x r a w hr hl
   have hl : (bif apz p.1 f then VW (p.2 c.tag fl s) (dR T f c.tag fl s) else dR T f c.tag fl s) = some (x, s') := hl
   rw [hb] at hl
   exact aO.or hQ.1 hQ.2 hr hl
theorem jH {w : World} {v : Value} {D : FnD} (h : aV w v D) {f : FuncId} {R : Rig} {q : At} {m : List Int} {L0 : Lf} {hs : HT} {fx : Fx} {giv : List (E × Bool)} {es : List E} {g : List Bool -> V} {u : Value} (hrun : aJ (kX R f fx giv es g [.g bT]) hs L0 = true) (hR : jT Tryz.prog R (fnB w D q m)) (hL : L0.Holds (aF (aK D q m)) (fun _ => [])) (hf : vT fx (aF (aK D q m)))
  (hg : ∀ p ∈ giv, p.1.num (aF (aK D q m)) = p.2) (e : ∀ r x, @VV (fnB w D q m) r (g (es.map (E.num (aF (aK D q m))))) x -> x = u) : bG f [v] w u :=
 bG.of (b := fnB w D q m) e (jl (b := fnB w D q m) (w := w) (apA _) (fun _ _ => rfl) hR hL hf hg (show ak (@VA (fnB w D q m) r0) [.g bT] [v] from ⟨xK h q m r0, trivial⟩) hrun)
theorem one_row {bo : Base} {f : FuncId} {F : Func} {row : Loops} (hF : Tryz.prog.funcs[f]? = some F) (h : ∀ K (ok : aG K bo.rho bo.sig) c, F.body = some c -> Loops.ok (@aO (bo.aH K ok) Tryz.prog row) c) :
  ∀ K (ok : aG K bo.rho bo.sig) g G c, Tryz.prog.funcs[g]? = some G -> G.body = some c -> Loops.ok (@aO (bo.aH K ok) Tryz.prog (dR [(f, row)] g)) c := by
 intro K ok
 refine @EM Tryz.prog (bo.aH K ok) [(f, row)] fun p hp G c hG hc => ?_
 obtain rfl := apu.1 hp
 obtain rfl : F = G := Option.some.inj (hF.symm.trans hG)
 exact h K ok c hc
theorem jD (p : Nat -> Bool) : ∀ n, (∀ i, i < n -> p i = true) \/ ∃ N, N < n /\ (∀ i, i < N -> p i = true) /\ p N = false
 | 0 => .inl fun _ h => absurd h (Nat.not_lt_zero _)
 | n + 1 => by
  rcases jD p n with h | ⟨N, h1, h2⟩
  ·cases hc : p n
   ·exact .inr ⟨n, by omega, h, hc⟩
   ·exact .inl fun i hi => by
     rcases Nat.lt_or_ge i n with h' | h'
     ·exact h i h'
     ·obtain rfl : i = n := by omega
      exact hc
  ·exact .inr ⟨N, by omega, h2⟩
theorem iJ {α : Type} (l : List α) (d : α) (p : α -> Bool) : (∀ i, i < l.length -> p (l.getD i d) = true) ↔ l.all p = true := by
 rw [apC]
 constructor
 ·intro h x hx
  obtain ⟨i, hi⟩ := List.getElem?_of_mem hx
  have hl := (apy.1 hi).1
  have := h i hl
  rw [apx, hi] at this
  exact this
 ·intro h i hi
  rw [apx, List.getElem?_eq_getElem hi]
  exact h _ (List.getElem_mem hi)
def atB (i : Nat) : At := ⟨i, 0, 0, 0⟩
def atT (t : Nat) : At := ⟨0, 0, 0, t⟩
theorem abN {b1 b2 : Base} {y x : S} (h : ∀ r v, @VS b1 r x v -> @VS b2 r y v) : Th.ok b1 b2 [(y, x)] := fun p hp r v hv => by
 obtain rfl := apu.1 hp
 exact h r v hv
theorem iD {D : FnD} {q : At} (h : q.i <= 1000 /\ q.k <= 1000 /\ q.m <= 1000 /\ q.t <= 1000) : Fits D q := ⟨by omega, by omega, by omega, by omega⟩
theorem gX {D : FnD} {i : Nat} (h : i <= 1000) : Fits D (atB i) := iD ⟨h, apv _, apv _, apv _⟩
theorem KL {D : FnD} {t : Nat} (h : t <= 1000) : Fits D (atT t) := iD ⟨apv _, apv _, apv _, h⟩
end Am
namespace many
open Go.RowKit Am
def iV (D : FnD) : Bool := decide (16 < D.ls.length) || (decide (24 < D.bs.length) || !(D.bs.all fun b => decide (b.st.length <= 24)))
def fA : FuncId := 32
def fB : FuncId := 41
def iG : Code := dW Tryz.f32 0
def hdA : St := ⟨iU Tryz.f32.ntmps [(16, .rv 1), (17, .xi .i64 3), (18, .xi .i64 4)], ⟨[], 1⟩⟩
def sN (n : Nat) : St := ⟨iU n [], ⟨[], 1⟩⟩
def sR (n : Nat) : St := ⟨iU n [(2, .bool true)], ⟨[], 1⟩⟩
def uD : Code := dW Tryz.f41 0
def hdB : St := ⟨iU Tryz.f41.ntmps [(1, .ptr 0 0), (3, .xi .i64 4)], ⟨[(0, ⟨bT, true⟩)], 1⟩⟩
def nA : Nat := Tryz.f32.ntmps
def nB : Nat := Tryz.f41.ntmps
def L1 : Lf := ((Lf.of (fJ ++ [])).pin 6 1).hi 7 24
def L2 : Lf := ((Lf.of (fJ ++ [])).pin 6 1).lo 7 25
def L3 : Lf := (Lf.of (fJ ++ [])).pin 6 0
def next : List Upd := [isU (.xi .i64 4) (.xi .i64 5)]
def test (f : FuncId) (tb : Tabs) (us : List Upd) (c : Code) (hd : St) (x : X) (s1 : St) : Lf -> Bool := dU (dH iq tb aZ) f eU [] us ⟨4, 0, 3⟩ c hd x s1
theorem EL : aJ (test fA (bW.app iQ) next iG hdA .normal hdA) .leaf L1 = true := by kernel_rfl
theorem aoU : aJ (test fA (bW.app iQ) [] iG hdA .ret (sR nA)) .leaf L2 = true := by kernel_rfl
theorem apn : aJ (test fA bW [] iG hdA (.exit 0) (sN nA)) .leaf L3 = true := by kernel_rfl
theorem aha : aJ (test fB (bW.app iQ) next uD hdB .normal hdB) .leaf L1 = true := by kernel_rfl
theorem alo : aJ (test fB (bW.app iQ) [] uD hdB .ret (sR nB)) .leaf L2 = true := by kernel_rfl
theorem apa : aJ (test fB bW [] uD hdB (.exit 0) (sN nB)) .leaf L3 = true := by kernel_rfl
def th0 : Th := [(.xi .i64 4, .int .i64 0)]
def zZ (tag : Nat) (hd : St) (x : X) (s1 : St) : Loops := iW tag ⟨4, 0, 3⟩ th0 hd x s1
def LS : Lf := ((Lf.of (fJ ++ [])).hi 2 16).hi 3 24
def LG : Lf := Lf.of (fJ ++ [])
def small : E := .and (.lt 2 17) (.lt 3 25)
def run (f : FuncId) (lp : Know -> FuncId -> Loops) (giv : List (E × Bool)) (b : Bool) : Lf -> Bool := kX (dH iq bW lp) f eU giv [] (fun _ => V.s (.bool b)) [.g bT]
theorem a4N : aJ (run fA (fun _ => dR [(fA, zZ 5 hdA (.exit 0) (sN nA))]) [] false) .leaf LS = true := by kernel_rfl
theorem agT : aJ (run fA (fun _ => dR [(fA, zZ 5 hdA .ret (sR nA))]) [] true) .leaf LS = true := by kernel_rfl
theorem ahe : aJ (run fA aZ [(small, false)] true) (.of [⟨false, 2, 17⟩, ⟨false, 3, 25⟩]) LG = true := by kernel_rfl
theorem a7N : aJ (run fB (fun _ => dR [(fB, zZ 5 hdB (.exit 0) (sN nB))]) [] false) .leaf LS = true := by kernel_rfl
theorem agG : aJ (run fB (fun _ => dR [(fB, zZ 5 hdB .ret (sR nB))]) [] true) .leaf LS = true := by kernel_rfl
theorem ahb : aJ (run fB aZ [(small, false)] true) (.of [⟨false, 2, 17⟩, ⟨false, 3, 25⟩]) LG = true := by kernel_rfl
theorem Va : fM (Tryz.f32.body.getD .skip) 0 5 = true := by kernel_rfl
theorem amm : fM (Tryz.f41.body.getD .skip) 0 5 = true := by kernel_rfl
section
variable {w : World} {v : Value} {D : FnD} (h : aV w v D)
include h
theorem start (q : At) (hq : Fits D q) : (Lf.of (fJ ++ [])).Holds (aF (aK D q ([] ++ []))) (fun _ => []) := lG h hq (iv := []) (m1 := []) (m2 := []) trivial _
theorem turn {f : FuncId} {tb : Tabs} {us : List Upd} {c : Code} {hd s1 : St} {x : X} {L : Lf} {q q' : At} (ht : @bg (fnB w D q []) tb) (hL : L.Holds (aF (aK D q [])) (fun _ => [])) (hus : ∀ u ∈ us, iI (fnB w D q []) (fnB w D q' []) u) (hnx : hd.h.next = s1.h.next)
  (hrun : aJ (test f tb us c hd x s1) .leaf L = true) : gZ Tryz.prog (fnB w D q []) (fnB w D q' []) c hd x s1 := by
 refine ⟨fun r B a w1 hr => ?_⟩
 exact H7 (bD ht) (bQ q q' [] []) hnx hL (aQ D q []) (fun p hp => by cases hp) hus (fun K ok => VH K ok c) hrun hr
theorem row {f : FuncId} {c : Code} {hd : St} {n : Nat} (hnx : hd.h.next = 1) (hB : D.bs.length <= 24) (h1 : aJ (test f (bW.app iQ) next c hd .normal hd) .leaf L1 = true) (h2 : aJ (test f (bW.app iQ) [] c hd .ret (sR n)) .leaf L2 = true) (h3 : aJ (test f bW [] c hd (.exit 0) (sN n)) .leaf L3 = true)
  {b : Bool} (hb : (D.bs.all fun b => decide (b.st.length <= 24)) = b) (tag : Nat) (K : Know) (ok : aG K (fnB w D (atB 0) []).rho (fnB w D (atB 0) []).sig) :
  @aO ((fnB w D (atB 0) []).aH K ok) Tryz.prog (zZ tag hd (if b then .exit 0 else .ret) (if b then sN n else sR n)) c := by
 have hstep : ∀ k, k < D.bs.length -> (D.blk k).st.length <= 24 -> gZ Tryz.prog (fnB w D (atB k) []) (fnB w D (atB (k + 1)) []) c hd .normal hd := fun k hk hl => by
  refine turn h (@aW (fnB w D (atB k) []) bW iQ (aT h _ _) (dM h (q := atB k) hk _)) (L := L1) ?_ (fun u hu => ?_) rfl h1
  ·exact ((start h (atB k) (gX (by omega))).pin (i := 6) (c := 1) (show b2i (decide ((k : Int) < D.bs.length)) = 1 from (bY _).2 (by omega))).hi (i := 7) (c := 24) (show ((D.blk k).st.length : Int) <= 24 by omega)
  ·obtain rfl := apu.1 hu
   exact dP fun r v hv => hv
 have hend : gZ Tryz.prog (fnB w D (atB D.bs.length) []) (fnB w D (atB 0) []) c hd (.exit 0) (sN n) :=
  turn h (aT h _ _) (L := L3) ((start h (atB D.bs.length) (gX (by omega))).pin (i := 6) (c := 0) (show b2i (decide ((D.bs.length : Int) < D.bs.length)) = 0 by rw [decide_eq_false (by omega)]; rfl)) (fun u hu => by cases hu) (by rw [hnx]; rfl) h3
 have hth : Th.ok (fnB w D (atB 0) []) (fnB w D (atB 0) []) th0 := abN fun r v hv => hv
 have hat : ∀ i, i < D.bs.length -> (decide ((D.blk i).st.length <= 24) = true ↔ (D.blk i).st.length <= 24) := fun i _ => decide_eq_true_iff
 cases b with
 | true =>
  have hall := (iJ D.bs b0 fun b => decide (b.st.length <= 24)).2 hb
  exact @zK _ _ (fun k => fnB w D (atB k) []) c _ _ hd _ _ (fun e => by cases e) D.bs.length (bQ _ _ [] []) hth (fun k hk => hstep k hk ((hat k hk).1 (hall k hk))) hend tag K ok
 | false =>
  rcases jD (fun i => decide ((D.blk i).st.length <= 24)) D.bs.length with hall | ⟨N, hN, h0, hn⟩
  ·rw [(iJ D.bs b0 fun b => decide (b.st.length <= 24)).1 hall] at hb
   cases hb
  ·refine @zK _ _ (fun k => fnB w D (atB k) []) c _ _ hd _ _ (fun e => by cases e) N (bQ _ _ [] []) hth (fun k hk => hstep k (by omega) ((hat k (by omega)).1 (h0 k hk))) ?_ tag K ok
   refine turn h (@aW (fnB w D (atB N) []) bW iQ (aT h _ _) (dM h (q := atB N) hN _)) (L := L2) ?_ (fun u hu => by cases hu) (by rw [hnx]; rfl) h2
   have hn : ¬ (D.blk N).st.length <= 24 := of_decide_eq_false hn
   exact ((start h (atB N) (gX (by omega))).pin (i := 6) (c := 1) (show b2i (decide ((N : Int) < D.bs.length)) = 1 from (bY _).2 (by omega))).lo (i := 7) (c := 25) (show (25 : Int) <= ((D.blk N).st.length : Int) by omega)
theorem a6W (q : At) : small.num (aF (aK D q [])) = (decide (D.ls.length <= 16) && decide (D.bs.length <= 24)) := by
 show (decide ((D.ls.length : Int) < 17) && decide ((D.bs.length : Int) < 25)) = _
 congr 1 <;> exact decide_eq_decide.2 (by omega)
theorem ans {f : FuncId} {F : Func} {n : Nat} {hd : St} (hF : Tryz.prog.funcs[f]? = some F) (hnx : hd.h.next = 1) (ht : fM (F.body.getD .skip) 0 5 = true)
  (h1 : aJ (test f (bW.app iQ) next (dW F 0) hd .normal hd) .leaf L1 = true) (h2 : aJ (test f (bW.app iQ) [] (dW F 0) hd .ret (sR n)) .leaf L2 = true) (h3 : aJ (test f bW [] (dW F 0) hd (.exit 0) (sN n)) .leaf L3 = true)
  (g1 : aJ (run f (fun _ => dR [(f, zZ 5 hd (.exit 0) (sN n))]) [] false) .leaf LS = true) (g2 : aJ (run f (fun _ => dR [(f, zZ 5 hd .ret (sR n))]) [] true) .leaf LS = true) (g3 : aJ (run f aZ [(small, false)] true) (.of [⟨false, 2, 17⟩, ⟨false, 3, 25⟩]) LG = true) :
  bG f [v] w (.bool (iV D)) := by
 have hst := start h (atB 0) (gX (by omega))
 have hval : ak (@VA (fnB w D (atB 0) []) r0) [.g bT] [v] := ⟨xK h (atB 0) [] r0, trivial⟩
 by_cases hs : D.ls.length <= 16 /\ D.bs.length <= 24
 ·have hLS : LS.Holds (aF (aK D (atB 0) [])) (fun _ => []) := (hst.hi (i := 2) (c := 16) (show (D.ls.length : Int) <= 16 by omega)).hi (i := 3) (c := 24) (show (D.bs.length : Int) <= 24 by omega)
  have hm : iV D = !(D.bs.all fun b => decide (b.st.length <= 24)) := by
   unfold iV
   rw [decide_eq_false (by omega), decide_eq_false (by omega)]
   rfl
  have hrow := fun {b : Bool} (hb : (D.bs.all fun b => decide (b.st.length <= 24)) = b) => one_row (bo := fnB w D (atB 0) []) (row := zZ 5 hd (if b then .exit 0 else .ret) (if b then sN n else sR n)) hF fun K ok c hc => iM ht (row h hnx hs.2 h1 h2 h3 hb 5 K ok) hc
  rw [hm]
  cases hb : (D.bs.all fun b => decide (b.st.length <= 24)) with
  | true => exact bG.of (b := fnB w D (atB 0) []) (v := V.s (.bool false)) (fun r x hx => hx) (jl (b := fnB w D (atB 0) []) (w := w) (apA _) (fun _ _ => rfl) (fK je (aT h _ _) (hrow hb)) hLS (aQ D _ _) (fun p hp => by cases hp) hval g1)
  | false => exact bG.of (b := fnB w D (atB 0) []) (v := V.s (.bool true)) (fun r x hx => hx) (jl (b := fnB w D (atB 0) []) (w := w) (apA _) (fun _ _ => rfl) (fK je (aT h _ _) (hrow hb)) hLS (aQ D _ _) (fun p hp => by cases hp) hval g2)
 ·have hm : iV D = true := by
   unfold iV
   by_cases h16 : 16 < D.ls.length
   ·rw [decide_eq_true h16]; rfl
   ·rw [decide_eq_false h16, decide_eq_true (by omega)]; rfl
  rw [hm]
  refine bG.of (b := fnB w D (atB 0) []) (v := V.s (.bool true)) (fun r x hx => hx) (jl (b := fnB w D (atB 0) []) (w := w) (apA _) (fun _ _ => rfl) (bD (aT h _ _)) hst (aQ D _ _) (fun p hp => ?_) hval g3)
  obtain rfl := apu.1 hp
  show small.num _ = false
  rw [show (fnB w D (atB 0) []).rho = aF (aK D (atB 0) []) from rfl, a6W h, Bool.and_eq_false_iff]
  by_cases h16 : D.ls.length <= 16
  ·exact .inr (decide_eq_false (by omega))
  ·exact .inl (decide_eq_false h16)
theorem a8B : bG fA [v] w (.bool (iV D)) := ans h Tryz.func32 rfl Va EL aoU apn a4N agT ahe
theorem WU : bG fB [v] w (.bool (iV D)) := ans h Tryz.func41 rfl amm aha alo apa a7N agG ahb
end
end many
end Go.Proofs.YtglmonlofejcgaaGreatDoor
