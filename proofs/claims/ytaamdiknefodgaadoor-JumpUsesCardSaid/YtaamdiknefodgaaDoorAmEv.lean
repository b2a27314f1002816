/- Tests of an argument's cells: what they say of values, and of cells that are not written out; functions that answer by a test. (No program in sight.) -/
import Derived.Test.YtaamdiknefodgaaDoorAmRow
namespace Go.Proofs.YtaamdiknefodgaaDoor.Am
open Go.RowKit
set_option linter.unusedSectionVars false
set_option linter.unusedVariables false

/-- a test of cells -/
inductive E where
  | lt (i : Nat) (c : Int)
  | zero (l : List (Nat × Int))
  | and (a b : E)
  | or (a b : E)
  | not (a : E)
/-- a cell's number -/
def cellI (vs : List Value) (i : Nat) : Int := match vs[i]? with | some v => codeI v | none => 0
def E.val (vs : List Value) : E → Bool
  | .lt i c => decide (cellI vs i < c)
  | .zero l => l.all fun p => decide (cellI vs p.1 = p.2)
  | .and a b => a.val vs && b.val vs
  | .or a b => a.val vs || b.val vs
  | .not a => !a.val vs
noncomputable section
variable [Know]
def atomZ (x : S) (c : Int) : Option Q := match x with
  | .int _ n => some (.b (decide (n = c)))
  | .xi _ i => Option.rec (some (atomQ i c)) (fun b => some (.b b)) (eqC i c)
  | .bool b => some (.b (decide ((bif b then 1 else 0) = c)))
  | .xe l => bif decide (c = 0) then boolQ l false else bif decide (c = 1) then boolQ l true else none
  | _ => none
def zeroQ (xs : List S) : List (Nat × Int) → Option Q :=
  List.rec (some (.b true)) fun p _ ih => ob (nth xs p.1) fun x => ob (atomZ x p.2) fun q => ob ih fun r => some (q.and r)
def Q.told (q : Q) : Option Bool := match q with | .b x => some x | .c l => allK l
def andO (x y : Option Bool) : Option Bool := Option.rec (ob y fun b => bif b then none else some false) (fun b => bif b then y else some false) x
def E.abs (xs : List S) (e : E) : Option Bool :=
  E.rec (fun i c => ob (nth xs i) fun x => ob x.num fun p => ltX p.2 (.c c)) (fun l => ob (zeroQ xs l) Q.told) (fun _ _ a b => andO a b) (fun _ _ a b => notO (andO (notO a) (notO b))) (fun _ a => notO a) e
/-- a cell has a kind's values alone -/
def fitK (k : Kd) (x : S) : Bool := match k, x with
  | .b, .bool _ => true
  | .b, .xe _ => true
  | .i k, .int k' n => k == k' && decide (k.min ≤ n) && decide (n ≤ k.max)
  | .i k, .xi k' i => bif k == k' then Option.rec false (fun p => decide (k.min ≤ p.1) && decide (p.2 ≤ k.max)) (nth Know.iv i) else false
  | _, _ => false
def fitKs : List Kd → List S → Bool
  | [], [] => true
  | k :: ks, x :: xs => fitK k x && fitKs ks xs
  | _, _ => false
def testG (ks : List Kd) (e : E) (mk : Bool → V) (args : List A) : Option V := match args with
  | [.g cells] => bif fitKs ks cells then ob (e.abs cells) fun b => some (mk b) else none
  | _ => none
end
section
variable [Base] {r : Ren}
theorem atomZ_ok {x : S} {c : Int} {q : Q} (h : atomZ x c = some q) {v : Value} (hv : VS r x v) : q.val = decide (codeI v = c) := by
  unfold atomZ at h
  split at h
  · cases h; cases hv; rfl
  · rename_i k i
    cases hv
    cases he : eqC i c with
    | none => rw [he] at h; cases h; show (_ && true) = _; rw [Bool.and_true]; exact decide_eq_decide.2 Iff.rfl
    | some b => rw [he] at h; cases h; exact (eqC_ok he).symm.trans (decide_eq_decide.2 Iff.rfl)
  · rename_i b
    cases h; cases hv
    cases b <;> simp [Q.val, codeI]
  · rename_i l
    cases hv
    cases h0 : decide (c = 0) <;> rw [h0] at h <;> simp only [cond_true, cond_false] at h
    · cases h1 : decide (c = 1) <;> rw [h1] at h <;> simp only [cond_true, cond_false] at h
      · cases h
      · simp only [decide_eq_true_eq] at h1
        subst h1
        rw [boolQ_ok h]
        cases (l.any fun p => decide (Base.rho p.1 = p.2)) <;> simp [codeI]
    · simp only [decide_eq_true_eq] at h0
      subst h0
      rw [boolQ_ok h]
      cases (l.any fun p => decide (Base.rho p.1 = p.2)) <;> simp [codeI]
  · cases h
theorem told_ok {q : Q} {b : Bool} (h : q.told = some b) : q.val = b := by
  cases q with
  | b x => cases h; rfl
  | c l => exact allK_ok h
theorem cellI_at {vs : List Value} {i : Nat} {v : Value} (h : vs[i]? = some v) : cellI vs i = codeI v := by simp [cellI, h]
theorem zeroQ_ok {xs : List S} {vs : List Value} (ha : All2 (VS r) xs vs) : ∀ {l : List (Nat × Int)} {q : Q}, zeroQ xs l = some q → q.val = l.all fun p => decide (cellI vs p.1 = p.2)
  | [], q, h => by cases h; rfl
  | p :: l, q, h => by
    have h : (ob (nth xs p.1) fun x => ob (atomZ x p.2) fun q => ob (zeroQ xs l) fun r => some (q.and r)) = some q := h
    obtain ⟨x, hx, h⟩ := ob_some h
    obtain ⟨q1, h1, h⟩ := ob_some h
    obtain ⟨q2, h2, h⟩ := ob_some h
    cases h
    obtain ⟨v, hv, hxv⟩ := All2.nth ha hx
    rw [Q.and_val, List.all_cons, zeroQ_ok ha h2, atomZ_ok h1 hxv, cellI_at hv]
theorem andO_ok {x y : Option Bool} {a b c : Bool} (hx : ∀ c, x = some c → a = c) (hy : ∀ c, y = some c → b = c) (h : andO x y = some c) : (a && b) = c := by
  cases x with
  | none =>
    obtain ⟨d, hd, h⟩ := ob_some (show ob y (fun b => bif b then none else some false) = some c from h)
    cases d
    · cases h; rw [hy _ hd]; simp
    · cases h
  | some d =>
    have h : (bif d then y else some false) = some c := h
    rw [hx d rfl]
    cases d
    · cases h; rfl
    · rw [hy _ h]; rfl
theorem notO_ok {x : Option Bool} {a c : Bool} (hx : ∀ c, x = some c → a = c) (h : notO x = some c) : (!a) = c := by
  obtain ⟨d, hd, h⟩ := ob_some h
  cases h
  rw [hx d hd]
theorem E.abs_ok {xs : List S} {vs : List Value} (ha : All2 (VS r) xs vs) : ∀ {e : E} {b : Bool}, e.abs xs = some b → e.val vs = b
  | .lt i c, b, h => by
    obtain ⟨x, hx, h⟩ := ob_some (show (ob (nth xs i) fun x => ob x.num fun p => ltX p.2 (.c c)) = some b from h)
    obtain ⟨p, hp, h⟩ := ob_some h
    obtain ⟨v, hv, hxv⟩ := All2.nth ha hx
    have := num_ok hp hxv
    subst this
    rw [E.val, cellI_at hv, ltX_ok h]
    rfl
  | .zero l, b, h => by
    obtain ⟨q, hq, h⟩ := ob_some (show ob (zeroQ xs l) Q.told = some b from h)
    rw [E.val, ← zeroQ_ok ha hq, told_ok h]
  | .and p q, b, h => andO_ok (fun _ h => E.abs_ok ha h) (fun _ h => E.abs_ok ha h) (show andO (p.abs xs) (q.abs xs) = some b from h)
  | .or p q, b, h => by
    have h : notO (andO (notO (p.abs xs)) (notO (q.abs xs))) = some b := h
    have := notO_ok (fun _ h => andO_ok (fun _ h => notO_ok (fun _ h => E.abs_ok ha h) h) (fun _ h => notO_ok (fun _ h => E.abs_ok ha h) h) h) h
    rw [← this]
    show (p.val vs || q.val vs) = _
    cases p.val vs <;> cases q.val vs <;> rfl
  | .not p, b, h => notO_ok (fun _ h => E.abs_ok ha h) (show notO (p.abs xs) = some b from h)
theorem fitK_ok {k : Kd} {x : S} (h : fitK k x = true) {v : Value} (hv : VS r x v) : k.ok v := by
  unfold fitK at h
  split at h
  · exact ⟨_, hv⟩
  · exact ⟨_, hv⟩
  · simp only [Bool.and_eq_true, decide_eq_true_eq, beq_iff_eq] at h
    obtain ⟨⟨rfl, h1⟩, h2⟩ := h
    exact ⟨_, hv, h1, h2⟩
  · rename_i k k' i
    cases hk : (k == k') <;> rw [hk] at h <;> simp only [cond_true, cond_false] at h
    · cases h
    · obtain rfl : k = k' := by simpa using hk
      cases hp : nth Know.iv i with
      | none => rw [hp] at h; cases h
      | some p =>
        rw [hp] at h
        simp only [Bool.and_eq_true, decide_eq_true_eq] at h
        have := Base.ok.iv i p hp
        exact ⟨_, hv, by omega, by omega⟩
  · cases h
theorem fitKs_ok : ∀ {ks : List Kd} {xs : List S}, fitKs ks xs = true → ∀ {vs : List Value}, All2 (VS r) xs vs → All2 Kd.ok ks vs
  | [], [], _, [], _ => trivial
  | k :: ks, x :: xs, h, v :: vs, ha => by
    simp only [fitKs, Bool.and_eq_true] at h
    exact ⟨fitK_ok h.1 ha.1, fitKs_ok h.2 ha.2⟩
  | [], _ :: _, h, _, _ => by cases h
  | _ :: _, [], h, _, _ => by cases h
  | [], [], _, _ :: _, h => h.elim
  | _ :: _, _ :: _, _, [], h => h.elim

/-- a function of one struct answers by a test, whoever calls -/
def Tests (P : Program) (Q : World → Prop) (F : FuncId) (ks : List Kd) (e : E) (val : Bool → Value) : Prop :=
  ∀ us, All2 Kd.ok ks us → ∀ w : World, Q w → Calls P F #[.agg us.toArray] w fun x w' => x = .returned (val (e.val us)) ∧ Below w.heap.size w w'
theorem sound_test {P : Program} {Q : World → Prop} {F : FuncId} (hc : Callable P F) {ks : List Kd} {e : E} {val : Bool → Value} (h : Tests P Q F ks e val) (hQ : Holds0 Q) (mk : Bool → V) (hmk : ∀ r b, VV r (mk b) (val b)) : Sound P (pureO F (testG ks e mk)) := by
  refine sound_pure hc fun args v hg r vs ha w hw => ?_
  unfold testG at hg
  split at hg
  · rename_i cells
    cases hf : fitKs ks cells <;> rw [hf] at hg <;> simp only [cond_true, cond_false] at hg
    · cases hg
    obtain ⟨b, hb, hg⟩ := ob_some hg
    cases hg
    match vs, ha with
    | [u], ⟨⟨us, hu, hus⟩, _⟩ =>
      subst hu
      refine (h us (fitKs_ok hf hus) w (hQ w hw)).mono fun x w' ⟨h1, h2⟩ => ⟨_, h1, ?_, h2⟩
      rw [E.abs_ok hus hb]
      exact hmk r b
  · cases hg
end
noncomputable section
/-- what a call comes to in a case is what the test says there -/
def testsAt (e : E) (mk : Bool → V) (ks : List Kd) (L : Lf) (r : R) : Bool := Option.rec false (fun b => sayV (mk b) r) (@E.abs (L.know (strsT 0 ks)) ((cellsT 0 ks).map L.nS) e)
end
theorem sayV_is {v : V} {r : R} (h : sayV v r = true) : ∃ h', r = some (v, h') := by
  cases r with
  | none => cases h
  | some p =>
    obtain ⟨v', h'⟩ := p
    have h : V.same v' v = true := h
    letI : Base := Base.known Know.nought (KnowOk.nought (fun _ => 0) (fun _ => [])) 0 default
    rw [V.same_ok h]
    exact ⟨h', rfl⟩
/-- a function of one struct answers by a test: by its cases -/
theorem tests_of {P : Program} {F : FuncId} {ks : List Kd} {e : E} {val : Bool → Value} {nb : Nat} {w0 : World} (O : Lf → Oracle) (mk : Bool → V)
    (hmk : ∀ (b0 : Base) r b u, @VV b0 r (mk b) u → u = val b)
    (hO : ∀ (L : Lf) {rho : Nat → Int} {sig : Nat → List UInt8} (h : L.Holds rho sig) (k : Lens (strsT 0 ks) rho sig) (d : Dec ks rho sig), @Sound (Base.known (L.know (strsT 0 ks)) (Lf.ok h k) nb w0) P (O L))
    {sp : Sp} (hrun : ((sp.leaves (Lf.start [(true, ks)])).all fun L => testsAt e mk ks L (O L F [.g ((cellsT 0 ks).map L.nS)] ⟨[], 0⟩ 0)) = true) :
    Tests P (fun w => nb ≤ w.heap.size ∧ ∀ k, k < nb → w.heap[k]? = w0.heap[k]?) F ks e val := by
  intro us hk w hw
  have hg : Gps [(true, ks)] [.agg us.toArray] us := ⟨us, [], (List.append_nil _).symm, ⟨hk, .inl ⟨rfl, rfl⟩⟩, rfl⟩
  have hks : kindsT [(true, ks)] = ks := by simp [kindsT]
  have k := lens_ok hg
  have d := dec_ok hg
  rw [hks] at k d
  obtain ⟨L, hm, hL⟩ := sp.cover (Lf.start_ok hg)
  have hp := List.all_eq_true.1 hrun L hm
  have ha' : @All2 _ _ (@VA (Base.known (L.know (strsT 0 ks)) (Lf.ok hL k) nb w0) r0) [.g (cellsT 0 ks)] [.agg us.toArray] :=
    @argsT_ok (Base.known (L.know (strsT 0 ks)) (Lf.ok hL k) nb w0) r0 us rfl rfl [] [(true, ks)] _ [] us (by simp) hg
  have ha := @Lf.nAs_ok (Base.known (L.know (strsT 0 ks)) (Lf.ok hL k) nb w0) L r0 hL _ _ ha'
  unfold testsAt at hp
  cases hb : @E.abs (L.know (strsT 0 ks)) ((cellsT 0 ks).map L.nS) e with
  | none => rw [hb] at hp; cases hp
  | some b =>
    rw [hb] at hp
    obtain ⟨h', hr⟩ := sayV_is hp
    have ha2 := ha
    obtain ⟨⟨us', e1, hus⟩, _⟩ := ha2
    have e1 : Value.agg us.toArray = .agg us'.toArray := e1
    obtain rfl : us = us' := by simpa using e1
    refine (@calls_flat (Base.known (L.know (strsT 0 ks)) (Lf.ok hL k) nb w0) P w hw.1 hw.2 (O L) (hO L hL k d) F _ _ ha _ h' hr).mono fun x w' ⟨u, r', e1, e2, e3⟩ => ⟨?_, e3⟩
    rw [e1, hmk _ _ _ _ e2, @E.abs_ok (Base.known (L.know (strsT 0 ks)) (Lf.ok hL k) nb w0) r0 _ _ hus _ _ hb]
end Go.Proofs.YtaamdiknefodgaaDoor.Am
