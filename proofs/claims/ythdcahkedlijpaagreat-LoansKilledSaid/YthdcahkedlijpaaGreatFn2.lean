/- Loops over a function's lists as rows; whether there is too much of something: fnshape.large and pawnshopref07.many. -/
import Derived.Test.YthdcahkedlijpaaGreatFn1
import Derived.Test.YthdcahkedlijpaaGreatLn
namespace Go.Proofs.YthdcahkedlijpaaGreat.Am
open Go.RowKit
set_option maxRecDepth 100000
set_option linter.unusedVariables false
set_option linter.unusedSectionVars false
noncomputable def noLoops : Know → FuncId → Loops := fun _ _ _ _ _ => none
noncomputable def rigP (lib : Know → Oracle) (tb : Tabs) (lp : Know → FuncId → Loops) : Rig := ⟨tyOf Tryz.prog, fnOf Tryz.prog, lib, tb, lp, 40, 12⟩
noncomputable def libN : Know → Oracle := fun _ => noneO
theorem rig_ok {lib : Know → Oracle} {tb : Tabs} {lp : Know → FuncId → Loops} {b : Base} (hl : ∀ K (ok : KnowOk K b.rho b.sig), @Sound (b.withK K ok) Tryz.prog (lib K)) (ht : @TabsOk b tb)
    (hp : ∀ K (ok : KnowOk K b.rho b.sig) f F c, Tryz.prog.funcs[f]? = some F → F.body = some c → Loops.ok (@LoopOk (b.withK K ok) Tryz.prog (lp K f)) c) : RigOk Tryz.prog (rigP lib tb lp) b :=
  ⟨fun K ok => @tyOf_ok (b.withK K ok) Tryz.prog, fnOkN, hl, mixedN, ht, hp⟩
theorem lib_none {b : Base} (K : Know) (ok : KnowOk K b.rho b.sig) : @Sound (b.withK K ok) Tryz.prog (libN K) := fun _ _ _ _ _ _ h => by cases h
theorem no_loops {b : Base} (K : Know) (ok : KnowOk K b.rho b.sig) (f : FuncId) (F : Func) (c : Code) (_ : Tryz.prog.funcs[f]? = some F) (_ : F.body = some c) : Loops.ok (@LoopOk (b.withK K ok) Tryz.prog (noLoops K f)) c :=
  Loops.ok_all (fun c => @LoopOk.none (b.withK K ok) _ c) c
theorem no_loop {b : Base} (K : Know) (ok : KnowOk K b.rho b.sig) (c : Code) : Loops.ok (@LoopOk (b.withK K ok) Tryz.prog (fun _ _ _ => none)) c := Loops.ok_all (fun c => @LoopOk.none (b.withK K ok) _ c) c
theorem no_loopN {b : Base} (f : FuncId) (c : Code) : ∀ K (ok : KnowOk K b.rho b.sig), Loops.ok (@LoopOk (b.withK K ok) Tryz.prog (noLoops K f)) c := fun K ok => no_loop K ok c
theorem rig_plain {tb : Tabs} {b : Base} (ht : @TabsOk b tb) : RigOk Tryz.prog (rigP libN tb noLoops) b := rig_ok lib_none ht no_loops
theorem ok_rowC {P : Program} {bo : Base} {c e0 : Code} {i tag : Nat} {d : Bd} {th : Th} {hd s1 : St} {x : X} (hu : ((loopsIn c).map Code.tag).Nodup) (hi : nth (loopsIn c) i = some e0) (htag : e0.tag = tag) (h : @LoopOk bo P (rowL tag d th hd x s1) e0) :
    Loops.ok (@LoopOk bo P (rowL tag d th hd x s1)) c := by
  refine Loops.ok_of c fun e he => ?_
  rw [nth_eq] at hi
  obtain ⟨hil, hie⟩ := List.getElem?_eq_some_iff.1 hi
  rcases Decidable.em (e.tag = tag) with ht | ht
  · obtain ⟨j, hj, rfl⟩ := List.getElem_of_mem he
    have : j = i := by
      have h1 : ((loopsIn c).map Code.tag)[j]'(by simpa using hj) = ((loopsIn c).map Code.tag)[i]'(by simpa using hil) := by
        simp only [List.getElem_map]
        rw [ht, hie, htag]
      exact (List.getElem_inj hu).1 h1
    subst this
    rw [hie]
    exact @h
  · intro fl B s s' y r a w _ hl
    unfold rowL at hl
    have : Nat.beq e.tag tag = false := by
      cases hb : Nat.beq e.tag tag
      · rfl
      · exact absurd (Nat.eq_of_beq_eq_true hb) ht
    rw [this] at hl
    cases hl
def diffB : List Nat → Bool
  | [] => true
  | a :: r => (r.all fun b => !Nat.beq a b) && diffB r
theorem diffB_ok : ∀ {l : List Nat}, diffB l = true → l.Nodup
  | [], _ => List.nodup_nil
  | a :: r, h => by
    simp only [diffB, Bool.and_eq_true] at h
    refine List.nodup_cons.2 ⟨fun hm => ?_, diffB_ok h.2⟩
    have := List.all_eq_true.1 h.1 a hm
    rw [Nat.beq_refl] at this
    cases this
noncomputable def tagsOk (c : Code) (i tag : Nat) : Bool := diffB ((loopsIn c).map Code.tag) && Option.rec false (fun e => Nat.beq e.tag tag) (nth (loopsIn c) i)
theorem row_code {P : Program} {bo : Base} {c : Code} {i tag : Nat} {d : Bd} {th : Th} {hd s1 : St} {x : X} (ht : tagsOk c i tag = true) (h : @LoopOk bo P (rowL tag d th hd x s1) ((nth (loopsIn c) i).getD .skip)) : Loops.ok (@LoopOk bo P (rowL tag d th hd x s1)) c := by
  unfold tagsOk at ht
  simp only [Bool.and_eq_true] at ht
  cases hn : nth (loopsIn c) i with
  | none => rw [hn] at ht; cases ht.2
  | some e =>
    rw [hn] at ht h
    exact ok_rowC (diffB_ok ht.1) hn (Nat.eq_of_beq_eq_true ht.2) h
theorem row_fn {P : Program} {bo : Base} {F : Func} {i tag : Nat} {d : Bd} {th : Th} {hd s1 : St} {x : X} (ht : tagsOk (F.body.getD .skip) i tag = true) (h : @LoopOk bo P (rowL tag d th hd x s1) (loopAt F i)) {c : Code} (hc : F.body = some c) : Loops.ok (@LoopOk bo P (rowL tag d th hd x s1)) c := by
  have e : loopAt F i = (nth (loopsIn c) i).getD .skip := by unfold loopAt; rw [hc]
  rw [hc] at ht
  exact row_code ht (by rw [← e]; exact h)
structure TurnsS (P : Program) (b1 b2 : Base) (c : Code) (hd : St) (x : X) (s1 : St) : Prop where
  go : ∀ (r : Ren) (B : Nat) (a : Act) (w : World), @Rel b1 hd r B a w → c.wp P (Goes b2 B hd.h r a w x s1) a w
theorem rounds_ok {P : Program} {bo : Base} {bk : Nat → Base} {c : Code} {d : Bd} {th : Th} {hd s1 : St} {x : X} (hx : x ≠ .normal) {N : Nat} (ag : Agree bo (bk 0) d) (ht : Th.ok bo (bk 0) th)
    (step : ∀ k, k < N → TurnsS P (bk k) (bk (k + 1)) c hd .normal hd) (last : TurnsS P (bk N) bo c hd x s1) (tag : Nat) (K : Know) (ok : KnowOk K bo.rho bo.sig) : @LoopOk (bo.withK K ok) P (rowL tag d th hd x s1) c :=
  rowL_ok (bo := bo.withK K ok) (b := bk) hx (ag.withK ok) ht (fun k hk {r B a w} hr => (step k hk).go r B a w hr) (Turns.withK (fun {r B a w} hr => last.go r B a w hr) ok) tag
noncomputable def frOf (n : Nat) (l : List (Nat × S)) : Fr := l.foldl (fun fr p => upd fr p.1 (V.s p.2)) (List.replicate n V.any)
def Answers (F : FuncId) (vs : List Value) (w : World) (u : Value) : Prop := Calls Tryz.prog F vs.toArray w fun e w' => e = .returned u ∧ Below w.heap.size w w'
theorem Answers.of {F : FuncId} {vs : List Value} {w : World} {b : Base} {v : V} {u : Value} (hu : ∀ r x, @VV b r v x → x = u) (h : Calls Tryz.prog F vs.toArray w fun x w' => ∃ u r, x = .returned u ∧ @VV b r v u ∧ Below w.heap.size w w') : Answers F vs w u :=
  h.mono fun e w' ⟨x, r, e1, e2, e3⟩ => ⟨by rw [e1, hu r x e2], e3⟩
theorem roundsU_ok {P : Program} {bo : Base} {bk : Nat → Base} {c : Code} {d : Bd} {us : List Upd} {hd s1 : St} {x : X} (hx : x ≠ .normal) {N : Nat} (ag : Agree bo (bk 0) d) (hu : ∀ u ∈ us, UpdOk bo (bk 0) u)
    (step : ∀ k, k < N → TurnsS P (bk k) (bk (k + 1)) c hd .normal hd) (last : TurnsS P (bk N) bo c hd x s1) (tag : Nat) (K : Know) (ok : KnowOk K bo.rho bo.sig) : @LoopOk (bo.withK K ok) P (rowL tag d (@thU K us) hd x s1) c :=
  rowL_ok (bo := bo.withK K ok) (b := bk) hx (ag.withK ok) (@thU_ok (bo.withK K ok) (bk 0) us hu) (fun k hk {r B a w} hr => (step k hk).go r B a w hr) (Turns.withK (fun {r B a w} hr => last.go r B a w hr) ok) tag
theorem turn_fn {w : World} {D : FnD} {f : FuncId} {lib : Know → Oracle} {tb : Tabs} {lp : Know → FuncId → Loops} {giv : List (E × Bool)} {us : List Upd} {d : Bd} {c : Code} {hd s1 : St} {x : X} {hs : HT} {L : Lf} {q q' : At} {m m' : List Int} {fx : Fx}
    (hrun : autoB (turnT (rigP lib tb lp) f fx giv us d c hd x s1) hs L = true) (hR : RigOk Tryz.prog (rigP lib tb lp) (fnB w D q m)) (ag : Agree (fnB w D q m) (fnB w D q' m') d) (hL : L.Holds (xsAt (fnXs D q m)) (fun _ => [])) (hf : FxOk fx (xsAt (fnXs D q m))) (hg : ∀ p ∈ giv, p.1.num (xsAt (fnXs D q m)) = p.2)
    (hus : ∀ u ∈ us, UpdOk (fnB w D q m) (fnB w D q' m') u) (hnx : hd.h.next = s1.h.next) (hlp : ∀ K (ok : KnowOk K (fnB w D q m).rho (fnB w D q m).sig), Loops.ok (@LoopOk ((fnB w D q m).withK K ok) Tryz.prog (lp K f)) c) : TurnsS Tryz.prog (fnB w D q m) (fnB w D q' m') c hd x s1 := by
  refine ⟨fun r B a w1 hr => ?_⟩
  exact turn_auto hR ag hnx hL hf hg hus hlp hrun hr
theorem rows_ok {bo : Base} {T : Know → List (FuncId × Loops)} (h : ∀ K (ok : KnowOk K bo.rho bo.sig), ∀ p ∈ T K, ∃ F : Func, Tryz.prog.funcs[p.1]? = some F ∧ ∀ c, F.body = some c → Loops.ok (@LoopOk (bo.withK K ok) Tryz.prog p.2) c) :
    ∀ K (ok : KnowOk K bo.rho bo.sig) g G c, Tryz.prog.funcs[g]? = some G → G.body = some c → Loops.ok (@LoopOk (bo.withK K ok) Tryz.prog (rowsL (T K) g)) c := by
  intro K ok
  refine @rowsL_ok Tryz.prog (bo.withK K ok) (T K) fun p hp G c hG hc => ?_
  obtain ⟨F, hF, hk⟩ := h K ok p hp
  obtain rfl : F = G := Option.some.inj (hF.symm.trans hG)
  exact hk c hc
theorem code_rows {b : Base} {f : FuncId} {F : Func} {c cc : Code} {T : List (FuncId × Loops)} (h : ∀ p ∈ T, p.1 = f → Loops.ok (@LoopOk b Tryz.prog p.2) c) : Loops.ok (@LoopOk b Tryz.prog (rowsL T f)) c := by
  induction T with
  | nil => exact Loops.ok_all (fun c => by intro fl B s s' x r a w _ hl; cases hl) c
  | cons p T ih =>
    have ih := ih fun q hq => h q (List.mem_cons_of_mem _ hq)
    cases hb : Nat.beq p.1 f with
    | false =>
      refine Loops.ok_mono (fun c hQ => ?_) c ih
      intro fl B s s' x r a w hr hl
      have hl : (bif Nat.beq p.1 f then orXS (p.2 c.tag fl s) (rowsL T f c.tag fl s) else rowsL T f c.tag fl s) = some (x, s') := hl
      rw [hb] at hl
      exact hQ hr hl
    | true =>
      refine Loops.ok_mono (fun c hQ => ?_) c (Loops.ok_and c (h p (List.mem_cons_self ..) (Nat.eq_of_beq_eq_true hb)) ih)
      intro fl B s s' x r a w hr hl
      have hl : (bif Nat.beq p.1 f then orXS (p.2 c.tag fl s) (rowsL T f c.tag fl s) else rowsL T f c.tag fl s) = some (x, s') := hl
      rw [hb] at hl
      exact LoopOk.or hQ.1 hQ.2 hr hl
theorem fn_call {w : World} {v : Value} {D : FnD} (h : FnOk' w v D) {f : FuncId} {R : Rig} {q : At} {m : List Int} {L0 : Lf} {hs : HT} {fx : Fx} {giv : List (E × Bool)} {es : List E} {g : List Bool → V} {u : Value} (hrun : autoB (callT R f fx giv es g [.g fnCells]) hs L0 = true) (hR : RigOk Tryz.prog R (fnB w D q m)) (hL : L0.Holds (xsAt (fnXs D q m)) (fun _ => [])) (hf : FxOk fx (xsAt (fnXs D q m)))
    (hg : ∀ p ∈ giv, p.1.num (xsAt (fnXs D q m)) = p.2) (e : ∀ r x, @VV (fnB w D q m) r (g (es.map (E.num (xsAt (fnXs D q m))))) x → x = u) : Answers f [v] w u :=
  Answers.of (b := fnB w D q m) e (calls_auto (b := fnB w D q m) (w := w) (Nat.le_refl _) (fun _ _ => rfl) hR hL hf hg (show All2 (@VA (fnB w D q m) r0) [.g fnCells] [v] from ⟨fn_val h q m r0, trivial⟩) hrun)
theorem one_row {bo : Base} {f : FuncId} {F : Func} {row : Loops} (hF : Tryz.prog.funcs[f]? = some F) (h : ∀ K (ok : KnowOk K bo.rho bo.sig) c, F.body = some c → Loops.ok (@LoopOk (bo.withK K ok) Tryz.prog row) c) :
    ∀ K (ok : KnowOk K bo.rho bo.sig) g G c, Tryz.prog.funcs[g]? = some G → G.body = some c → Loops.ok (@LoopOk (bo.withK K ok) Tryz.prog (rowsL [(f, row)] g)) c := by
  intro K ok
  refine @rowsL_ok Tryz.prog (bo.withK K ok) [(f, row)] fun p hp G c hG hc => ?_
  obtain rfl := List.mem_singleton.1 hp
  obtain rfl : F = G := Option.some.inj (hF.symm.trans hG)
  exact h K ok c hc
theorem first_not (p : Nat → Bool) : ∀ n, (∀ i, i < n → p i = true) ∨ ∃ N, N < n ∧ (∀ i, i < N → p i = true) ∧ p N = false
  | 0 => .inl fun _ h => absurd h (Nat.not_lt_zero _)
  | n + 1 => by
    rcases first_not p n with h | ⟨N, h1, h2⟩
    · cases hc : p n
      · exact .inr ⟨n, by omega, h, hc⟩
      · exact .inl fun i hi => by
          rcases Nat.lt_or_ge i n with h' | h'
          · exact h i h'
          · obtain rfl : i = n := by omega
            exact hc
    · exact .inr ⟨N, by omega, h2⟩
theorem all_at {α : Type} (l : List α) (d : α) (p : α → Bool) : (∀ i, i < l.length → p (l.getD i d) = true) ↔ l.all p = true := by
  rw [List.all_eq_true]
  constructor
  · intro h x hx
    obtain ⟨i, hi⟩ := List.getElem?_of_mem hx
    have hl := (List.getElem?_eq_some_iff.1 hi).1
    have := h i hl
    rw [List.getD_eq_getElem?_getD, hi] at this
    exact this
  · intro h i hi
    rw [List.getD_eq_getElem?_getD, List.getElem?_eq_getElem hi]
    exact h _ (List.getElem_mem hi)
def atB (i : Nat) : At := ⟨i, 0, 0, 0⟩
def atT (t : Nat) : At := ⟨0, 0, 0, t⟩
theorem th_one {b1 b2 : Base} {y x : S} (h : ∀ r v, @VS b1 r x v → @VS b2 r y v) : Th.ok b1 b2 [(y, x)] := fun p hp r v hv => by
  obtain rfl := List.mem_singleton.1 hp
  exact h r v hv
theorem fits_small {D : FnD} {q : At} (h : q.i ≤ 1000 ∧ q.k ≤ 1000 ∧ q.m ≤ 1000 ∧ q.t ≤ 1000) : Fits D q := ⟨by omega, by omega, by omega, by omega⟩
theorem fits_B {D : FnD} {i : Nat} (h : i ≤ 1000) : Fits D (atB i) := fits_small ⟨h, Nat.zero_le _, Nat.zero_le _, Nat.zero_le _⟩
theorem fits_T {D : FnD} {t : Nat} (h : t ≤ 1000) : Fits D (atT t) := fits_small ⟨Nat.zero_le _, Nat.zero_le _, Nat.zero_le _, h⟩
end Go.Proofs.YthdcahkedlijpaaGreat.Am
namespace Go.Proofs.YthdcahkedlijpaaGreat.many
open Go.RowKit Go.Proofs.YthdcahkedlijpaaGreat.Am
set_option maxRecDepth 100000
set_option linter.unusedVariables false
set_option linter.unusedSectionVars false
def manyF (D : FnD) : Bool := decide (16 < D.ls.length) || (decide (24 < D.bs.length) || !(D.bs.all fun b => decide (b.st.length ≤ 24)))
noncomputable def fA : FuncId := 44
noncomputable def fB : FuncId := 35
noncomputable def codeA : Code := loopAt Tryz.f44 0
noncomputable def hdA : St := ⟨frOf Tryz.f44.ntmps [(16, .rv 1), (17, .xi .i64 3), (18, .xi .i64 4)], ⟨[], 1⟩⟩
noncomputable def sN (n : Nat) : St := ⟨frOf n [], ⟨[], 1⟩⟩
noncomputable def sR (n : Nat) : St := ⟨frOf n [(2, .bool true)], ⟨[], 1⟩⟩
noncomputable def codeB : Code := loopAt Tryz.f35 0
noncomputable def hdB : St := ⟨frOf Tryz.f35.ntmps [(1, .ptr 0 0), (3, .xi .i64 4)], ⟨[(0, ⟨fnCells, true⟩)], 1⟩⟩
noncomputable def nA : Nat := Tryz.f44.ntmps
noncomputable def nB : Nat := Tryz.f35.ntmps
noncomputable def L1 : Lf := ((Lf.of (fnIv ++ [])).pin 6 1).hi 7 24
noncomputable def L2 : Lf := ((Lf.of (fnIv ++ [])).pin 6 1).lo 7 25
noncomputable def L3 : Lf := (Lf.of (fnIv ++ [])).pin 6 0
def next : List Upd := [isU (.xi .i64 4) (.xi .i64 5)]
noncomputable def test (f : FuncId) (tb : Tabs) (us : List Upd) (c : Code) (hd : St) (x : X) (s1 : St) : Lf → Bool := turnT (rigP libN tb noLoops) f fnFx [] us ⟨4, 0, 3⟩ c hd x s1
theorem stepA : autoB (test fA (tabF.app tabB) next codeA hdA .normal hdA) .leaf L1 = true := by kernel_rfl
theorem badA : autoB (test fA (tabF.app tabB) [] codeA hdA .ret (sR nA)) .leaf L2 = true := by kernel_rfl
theorem endA : autoB (test fA tabF [] codeA hdA (.exit 0) (sN nA)) .leaf L3 = true := by kernel_rfl
theorem stepB : autoB (test fB (tabF.app tabB) next codeB hdB .normal hdB) .leaf L1 = true := by kernel_rfl
theorem badB : autoB (test fB (tabF.app tabB) [] codeB hdB .ret (sR nB)) .leaf L2 = true := by kernel_rfl
theorem endB : autoB (test fB tabF [] codeB hdB (.exit 0) (sN nB)) .leaf L3 = true := by kernel_rfl
def th0 : Th := [(.xi .i64 4, .int .i64 0)]
noncomputable def rowM (tag : Nat) (hd : St) (x : X) (s1 : St) : Loops := rowL tag ⟨4, 0, 3⟩ th0 hd x s1
noncomputable def LS : Lf := ((Lf.of (fnIv ++ [])).hi 2 16).hi 3 24
noncomputable def LG : Lf := Lf.of (fnIv ++ [])
def small : E := .and (.lt 2 17) (.lt 3 25)
noncomputable def run (f : FuncId) (lp : Know → FuncId → Loops) (giv : List (E × Bool)) (b : Bool) : Lf → Bool := callT (rigP libN tabF lp) f fnFx giv [] (fun _ => V.s (.bool b)) [.g fnCells]
theorem goodA_run : autoB (run fA (fun _ => rowsL [(fA, rowM 5 hdA (.exit 0) (sN nA))]) [] false) .leaf LS = true := by kernel_rfl
theorem badA_run : autoB (run fA (fun _ => rowsL [(fA, rowM 5 hdA .ret (sR nA))]) [] true) .leaf LS = true := by kernel_rfl
theorem bigA_run : autoB (run fA noLoops [(small, false)] true) (.of [⟨false, 2, 17⟩, ⟨false, 3, 25⟩]) LG = true := by kernel_rfl
theorem goodB_run : autoB (run fB (fun _ => rowsL [(fB, rowM 5 hdB (.exit 0) (sN nB))]) [] false) .leaf LS = true := by kernel_rfl
theorem badB_run : autoB (run fB (fun _ => rowsL [(fB, rowM 5 hdB .ret (sR nB))]) [] true) .leaf LS = true := by kernel_rfl
theorem bigB_run : autoB (run fB noLoops [(small, false)] true) (.of [⟨false, 2, 17⟩, ⟨false, 3, 25⟩]) LG = true := by kernel_rfl
theorem tagA : tagsOk (Tryz.f44.body.getD .skip) 0 5 = true := by kernel_rfl
theorem tagB : tagsOk (Tryz.f35.body.getD .skip) 0 5 = true := by kernel_rfl
section
variable {w : World} {v : Value} {D : FnD} (h : FnOk' w v D)
include h
theorem start (q : At) (hq : Fits D q) : (Lf.of (fnIv ++ [])).Holds (xsAt (fnXs D q ([] ++ []))) (fun _ => []) := fn_start h hq (iv := []) (m1 := []) (m2 := []) trivial _
theorem turn {f : FuncId} {tb : Tabs} {us : List Upd} {c : Code} {hd s1 : St} {x : X} {L : Lf} {q q' : At} (ht : @TabsOk (fnB w D q []) tb) (hL : L.Holds (xsAt (fnXs D q [])) (fun _ => [])) (hus : ∀ u ∈ us, UpdOk (fnB w D q []) (fnB w D q' []) u) (hnx : hd.h.next = s1.h.next)
    (hrun : autoB (test f tb us c hd x s1) .leaf L = true) : TurnsS Tryz.prog (fnB w D q []) (fnB w D q' []) c hd x s1 := by
  refine ⟨fun r B a w1 hr => ?_⟩
  exact turn_auto (rig_plain ht) (agree_fn q q' [] []) hnx hL (fnFx_ok D q []) (fun p hp => by cases hp) hus (fun K ok => no_loop K ok c) hrun hr
theorem row {f : FuncId} {c : Code} {hd : St} {n : Nat} (hnx : hd.h.next = 1) (hB : D.bs.length ≤ 24) (h1 : autoB (test f (tabF.app tabB) next c hd .normal hd) .leaf L1 = true) (h2 : autoB (test f (tabF.app tabB) [] c hd .ret (sR n)) .leaf L2 = true) (h3 : autoB (test f tabF [] c hd (.exit 0) (sN n)) .leaf L3 = true)
    {b : Bool} (hb : (D.bs.all fun b => decide (b.st.length ≤ 24)) = b) (tag : Nat) (K : Know) (ok : KnowOk K (fnB w D (atB 0) []).rho (fnB w D (atB 0) []).sig) :
    @LoopOk ((fnB w D (atB 0) []).withK K ok) Tryz.prog (rowM tag hd (if b then .exit 0 else .ret) (if b then sN n else sR n)) c := by
  have hstep : ∀ k, k < D.bs.length → (D.blk k).st.length ≤ 24 → TurnsS Tryz.prog (fnB w D (atB k) []) (fnB w D (atB (k + 1)) []) c hd .normal hd := fun k hk hl => by
    refine turn h (@tabs_app (fnB w D (atB k) []) tabF tabB (tabF_ok h _ _) (tabB_ok h (q := atB k) hk _)) (L := L1) ?_ (fun u hu => ?_) rfl h1
    · exact ((start h (atB k) (fits_B (by omega))).pin (i := 6) (c := 1) (show b2i (decide ((k : Int) < D.bs.length)) = 1 from (one_iff _).2 (by omega))).hi (i := 7) (c := 24) (show ((D.blk k).st.length : Int) ≤ 24 by omega)
    · obtain rfl := List.mem_singleton.1 hu
      exact isU_ok fun r v hv => hv
  have hend : TurnsS Tryz.prog (fnB w D (atB D.bs.length) []) (fnB w D (atB 0) []) c hd (.exit 0) (sN n) :=
    turn h (tabF_ok h _ _) (L := L3) ((start h (atB D.bs.length) (fits_B (by omega))).pin (i := 6) (c := 0) (show b2i (decide ((D.bs.length : Int) < D.bs.length)) = 0 by rw [decide_eq_false (by omega)]; rfl)) (fun u hu => by cases hu) (by rw [hnx]; rfl) h3
  have hth : Th.ok (fnB w D (atB 0) []) (fnB w D (atB 0) []) th0 := th_one fun r v hv => hv
  have hat : ∀ i, i < D.bs.length → (decide ((D.blk i).st.length ≤ 24) = true ↔ (D.blk i).st.length ≤ 24) := fun i _ => decide_eq_true_iff
  cases b with
  | true =>
    have hall := (all_at D.bs b0 fun b => decide (b.st.length ≤ 24)).2 hb
    exact @rounds_ok _ _ (fun k => fnB w D (atB k) []) c _ _ hd _ _ (fun e => by cases e) D.bs.length (agree_fn _ _ [] []) hth (fun k hk => hstep k hk ((hat k hk).1 (hall k hk))) hend tag K ok
  | false =>
    rcases first_not (fun i => decide ((D.blk i).st.length ≤ 24)) D.bs.length with hall | ⟨N, hN, h0, hn⟩
    · rw [(all_at D.bs b0 fun b => decide (b.st.length ≤ 24)).1 hall] at hb
      cases hb
    · refine @rounds_ok _ _ (fun k => fnB w D (atB k) []) c _ _ hd _ _ (fun e => by cases e) N (agree_fn _ _ [] []) hth (fun k hk => hstep k (by omega) ((hat k (by omega)).1 (h0 k hk))) ?_ tag K ok
      refine turn h (@tabs_app (fnB w D (atB N) []) tabF tabB (tabF_ok h _ _) (tabB_ok h (q := atB N) hN _)) (L := L2) ?_ (fun u hu => by cases hu) (by rw [hnx]; rfl) h2
      have hn : ¬ (D.blk N).st.length ≤ 24 := of_decide_eq_false hn
      exact ((start h (atB N) (fits_B (by omega))).pin (i := 6) (c := 1) (show b2i (decide ((N : Int) < D.bs.length)) = 1 from (one_iff _).2 (by omega))).lo (i := 7) (c := 25) (show (25 : Int) ≤ ((D.blk N).st.length : Int) by omega)
theorem small_num (q : At) : small.num (xsAt (fnXs D q [])) = (decide (D.ls.length ≤ 16) && decide (D.bs.length ≤ 24)) := by
  show (decide ((D.ls.length : Int) < 17) && decide ((D.bs.length : Int) < 25)) = _
  congr 1 <;> exact decide_eq_decide.2 (by omega)
theorem ans {f : FuncId} {F : Func} {n : Nat} {hd : St} (hF : Tryz.prog.funcs[f]? = some F) (hnx : hd.h.next = 1) (ht : tagsOk (F.body.getD .skip) 0 5 = true)
    (h1 : autoB (test f (tabF.app tabB) next (loopAt F 0) hd .normal hd) .leaf L1 = true) (h2 : autoB (test f (tabF.app tabB) [] (loopAt F 0) hd .ret (sR n)) .leaf L2 = true) (h3 : autoB (test f tabF [] (loopAt F 0) hd (.exit 0) (sN n)) .leaf L3 = true)
    (g1 : autoB (run f (fun _ => rowsL [(f, rowM 5 hd (.exit 0) (sN n))]) [] false) .leaf LS = true) (g2 : autoB (run f (fun _ => rowsL [(f, rowM 5 hd .ret (sR n))]) [] true) .leaf LS = true) (g3 : autoB (run f noLoops [(small, false)] true) (.of [⟨false, 2, 17⟩, ⟨false, 3, 25⟩]) LG = true) :
    Answers f [v] w (.bool (manyF D)) := by
  have hst := start h (atB 0) (fits_B (by omega))
  have hval : All2 (@VA (fnB w D (atB 0) []) r0) [.g fnCells] [v] := ⟨fn_val h (atB 0) [] r0, trivial⟩
  by_cases hs : D.ls.length ≤ 16 ∧ D.bs.length ≤ 24
  · have hLS : LS.Holds (xsAt (fnXs D (atB 0) [])) (fun _ => []) := (hst.hi (i := 2) (c := 16) (show (D.ls.length : Int) ≤ 16 by omega)).hi (i := 3) (c := 24) (show (D.bs.length : Int) ≤ 24 by omega)
    have hm : manyF D = !(D.bs.all fun b => decide (b.st.length ≤ 24)) := by
      unfold manyF
      rw [decide_eq_false (by omega), decide_eq_false (by omega)]
      rfl
    have hrow := fun {b : Bool} (hb : (D.bs.all fun b => decide (b.st.length ≤ 24)) = b) => one_row (bo := fnB w D (atB 0) []) (row := rowM 5 hd (if b then .exit 0 else .ret) (if b then sN n else sR n)) hF fun K ok c hc => row_fn ht (row h hnx hs.2 h1 h2 h3 hb 5 K ok) hc
    rw [hm]
    cases hb : (D.bs.all fun b => decide (b.st.length ≤ 24)) with
    | true => exact Answers.of (b := fnB w D (atB 0) []) (v := V.s (.bool false)) (fun r x hx => hx) (calls_auto (b := fnB w D (atB 0) []) (w := w) (Nat.le_refl _) (fun _ _ => rfl) (rig_ok lib_none (tabF_ok h _ _) (hrow hb)) hLS (fnFx_ok D _ _) (fun p hp => by cases hp) hval g1)
    | false => exact Answers.of (b := fnB w D (atB 0) []) (v := V.s (.bool true)) (fun r x hx => hx) (calls_auto (b := fnB w D (atB 0) []) (w := w) (Nat.le_refl _) (fun _ _ => rfl) (rig_ok lib_none (tabF_ok h _ _) (hrow hb)) hLS (fnFx_ok D _ _) (fun p hp => by cases hp) hval g2)
  · have hm : manyF D = true := by
      unfold manyF
      by_cases h16 : 16 < D.ls.length
      · rw [decide_eq_true h16]; rfl
      · rw [decide_eq_false h16, decide_eq_true (by omega)]; rfl
    rw [hm]
    refine Answers.of (b := fnB w D (atB 0) []) (v := V.s (.bool true)) (fun r x hx => hx) (calls_auto (b := fnB w D (atB 0) []) (w := w) (Nat.le_refl _) (fun _ _ => rfl) (rig_plain (tabF_ok h _ _)) hst (fnFx_ok D _ _) (fun p hp => ?_) hval g3)
    obtain rfl := List.mem_singleton.1 hp
    show small.num _ = false
    rw [show (fnB w D (atB 0) []).rho = xsAt (fnXs D (atB 0) []) from rfl, small_num h, Bool.and_eq_false_iff]
    by_cases h16 : D.ls.length ≤ 16
    · exact .inr (decide_eq_false (by omega))
    · exact .inl (decide_eq_false h16)
theorem large_ans : Answers fA [v] w (.bool (manyF D)) := ans h Tryz.func44 rfl tagA stepA badA endA goodA_run badA_run bigA_run
theorem many_ans : Answers fB [v] w (.bool (manyF D)) := ans h Tryz.func35 rfl tagB stepB badB endB goodB_run badB_run bigB_run
end
end Go.Proofs.YthdcahkedlijpaaGreat.many
