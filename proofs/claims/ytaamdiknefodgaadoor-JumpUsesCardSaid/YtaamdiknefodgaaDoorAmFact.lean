/- Facts on numbers and texts that a law's arguments have; rows of calls of one struct. (No program in sight.) -/
import Derived.Test.YtaamdiknefodgaaDoorAmEv
namespace Go.Proofs.YtaamdiknefodgaaDoor.Am
open Go.RowKit
set_option linter.unusedSectionVars false
set_option linter.unusedVariables false

/-- facts: strings that are the same, or not; differences; strings' equality; cuts; sums -/
structure Facts where
  sq : List (List Nat × List Nat × Bool)
  df : List (Nat × Nat × Nat)
  sx : List (List Nat × List Nat × List (Nat × Int))
  ct : List (List Nat × N × Option N × List Nat)
  sb : List (Nat × Nat × Nat)
  ad : List (Nat × Int × Nat)
structure FactsOk (f : Facts) (rho : Nat → Int) (sig : Nat → List UInt8) : Prop where
  sq : ∀ a b r, (a, b, r) ∈ f.sq → decide (strX sig a = strX sig b) = r
  df : ∀ i j d, (i, j, d) ∈ f.df → (rho i = rho j ↔ rho d = 0)
  sx : ∀ a b l, (a, b, l) ∈ f.sx → decide (strX sig a = strX sig b) = l.all fun p => decide (rho p.1 = p.2)
  ct : ∀ l a b m, (l, a, b, m) ∈ f.ct → CutOk (strX sig l) (nI rho a) (b.map (nI rho)) (strX sig m)
  sb : ∀ i j k, (i, j, k) ∈ f.sb → rho i - rho j = rho k ∧ IntKind.i64.min ≤ rho k ∧ rho k ≤ IntKind.i64.max
  ad : ∀ i c k, (i, c, k) ∈ f.ad → rho i + c = rho k ∧ IntKind.i64.min ≤ rho k ∧ rho k ≤ IntKind.i64.max
@[reducible] noncomputable def Lf.knowF (L : Lf) (ss : List Nat) (f : Facts) : Know := ⟨L.iv, L.ne, L.lt, mxL ss 0 L.iv, f.sq, ss.map fun i => ([256 + i], i), L.cf, f.df, f.sx, f.ct, f.sb, f.ad⟩
theorem Lf.okF {L : Lf} {ss : List Nat} {f : Facts} {rho : Nat → Int} {sig : Nat → List UInt8} (h : L.Holds rho sig) (k : Lens ss rho sig) (q : FactsOk f rho sig) : KnowOk (L.knowF ss f) rho sig :=
  have o := Lf.ok h k
  ⟨o.iv, o.ne, o.lt, o.mx, q.sq, o.ln, o.cf, q.df, q.sx, q.ct, q.sb, q.ad⟩

/-! a call of one struct, and what it comes to -/
def S.one (x : S) : Bool := match x with | .bool _ | .int .. | .xi .. | .xe _ | .xs _ | .str _ => true | _ => false
noncomputable def cellO (F : FuncId) (cells : List S) (v : V) : Oracle := pureO F fun args => match args with | [.g xs] => bif sameL S.eqv cells xs then some v else none | _ => none
section
variable [Base]
theorem VS.one_same {r r' : Ren} {x : S} (h : x.one = true) {v v' : Value} (k : VS r x v) (k' : VS r' x v') : v = v' := by
  cases x <;> simp [S.one] at h <;> exact Eq.trans k (Eq.symm k')
theorem ones_same {r r' : Ren} : ∀ {xs : List S}, xs.all S.one = true → ∀ {us vs : List Value}, All2 (VS r) xs us → All2 (VS r') xs vs → us = vs
  | [], _, [], [], _, _ => rfl
  | x :: xs, h, u :: us, v :: vs, hu, hv => by
    simp only [List.all_cons, Bool.and_eq_true] at h
    rw [VS.one_same h.1 hu.1 hv.1, ones_same h.2 hu.2 hv.2]
  | [], _, _ :: _, _, h, _ => h.elim
  | [], _, _, _ :: _, _, h => h.elim
  | _ :: _, _, [], _, h, _ => h.elim
  | _ :: _, _, _, [], _, h => h.elim
theorem sound_cell {P : Program} {F : FuncId} (hc : Callable P F) {cells : List S} {v : V} (h1 : cells.all S.one = true) {us : List Value} (hus : All2 (VS r0) cells us) {u : Value} (hu : ∀ r, VV r v u)
    (h : Holds0 fun w => Calls P F #[.agg us.toArray] w fun e w' => e = .returned u ∧ Below w.heap.size w w') : Sound P (cellO F cells v) := by
  refine sound_pure hc fun args v' hg r vs ha w hw => ?_
  split at hg
  · rename_i xs
    cases hs : sameL S.eqv cells xs <;> rw [hs] at hg <;> simp only [cond_true, cond_false] at hg
    · cases hg
    · cases hg
      have e := sameL_eq (fun _ _ => S.eqv_ok) hs
      subst e
      match vs, ha with
      | [a], ⟨⟨as, ha1, ha2⟩, _⟩ =>
        subst ha1
        obtain rfl := ones_same h1 ha2 hus
        exact (h w hw).mono fun e w' ⟨e1, e2⟩ => ⟨u, e1, hu r, e2⟩
  · cases hg
end
/-- the first of these that answers -/
noncomputable def orcs (l : List Oracle) : Oracle := fun f a h fl => List.rec none (fun o _ ih => orR (o f a h fl) ih) l
theorem sound_orcs [Base] {P : Program} : ∀ {l : List Oracle}, (∀ o ∈ l, Sound P o) → Sound P (orcs l)
  | [], _ => fun _ _ _ _ _ _ h => by cases h
  | o :: l, h => sound_or (h o (List.mem_cons_self ..)) (sound_orcs fun p hp => h p (List.mem_cons_of_mem _ hp))
theorem cellI_lt {a b : List Value} {i : Nat} (h : i < a.length) : cellI (a ++ b) i = cellI a i := by
  unfold cellI
  rw [List.getElem?_append_left h]
theorem rhoOf_cell (cs : List Value) (i : Nat) : rhoOf cs i = cellI cs i := by
  simp only [rhoOf, valI, nth_eq, List.getElem?_map, cellI]
  cases cs[i]? <;> rfl
theorem cellI_ge {a b : List Value} {n : Nat} (h : a.length = n) (j : Nat) : cellI (a ++ b) (n + j) = cellI b j := by
  unfold cellI
  rw [List.getElem?_append_right (by omega), show n + j - a.length = j by omega]
theorem cellI_sub {us : List Value} {n m i : Nat} (h : i < m) : cellI ((us.drop n).take m) i = cellI us (n + i) := by
  unfold cellI
  rw [List.getElem?_take, if_pos h, List.getElem?_drop]

/-! strings and numbers behind the arguments' cells -/
def strV (l : List UInt8) : Value := .string ⟨l.toArray⟩
def behind (cs : List Value) (strs : List (List UInt8)) (ints : List Int) : List Value := cs ++ (strs.map strV ++ ints.map (Value.int .i64))
theorem strV_len (l : List UInt8) : codeI (strV l) = l.length := by simp [strV, codeI, ByteArray.size]
section
variable {cs : List Value} {strs : List (List UInt8)} {ints : List Int} {n a : Nat}
theorem behind_cell {i : Nat} (h : i < cs.length) : rhoOf (behind cs strs ints) i = cellI cs i := by
  rw [rhoOf_cell]
  exact cellI_lt h
theorem behind_len (h : cs.length = n) {j : Nat} {l : List UInt8} (hl : strs[j]? = some l) : rhoOf (behind cs strs ints) (n + j) = l.length := by
  rw [rhoOf_cell]
  unfold behind
  have hj : j < strs.length := (List.getElem?_eq_some_iff.1 hl).1
  rw [cellI_ge h, cellI_lt (by simpa using hj)]
  unfold cellI
  rw [List.getElem?_map, hl]
  exact strV_len l
theorem behind_int (h : cs.length = n) (ha : strs.length = a) {j : Nat} {m : Int} (hm : ints[j]? = some m) : rhoOf (behind cs strs ints) (n + a + j) = m := by
  rw [rhoOf_cell]
  unfold behind
  rw [Nat.add_assoc, cellI_ge h, cellI_ge (by simpa using ha)]
  unfold cellI
  rw [List.getElem?_map, hm]
  rfl
theorem behind_str (h : cs.length = n) {j : Nat} {l : List UInt8} (hl : strs[j]? = some l) : sigOf (behind cs strs ints) (n + j) = l := by
  have hj : j < strs.length := (List.getElem?_eq_some_iff.1 hl).1
  simp only [sigOf, valS, nth_eq, behind]
  rw [List.getElem?_map, List.getElem?_append_right (by omega), List.getElem?_append_left (by simp; omega), List.getElem?_map, show n + j - cs.length = j by omega, hl]
  rfl
/-- the strings behind have their lengths as numbers -/
def strsB (n a : Nat) : List Nat := (List.range a).map (n + ·)
theorem strsB_mem {n a i : Nat} : i ∈ strsB n a ↔ n ≤ i ∧ i < n + a := by
  simp only [strsB, List.mem_map, List.mem_range]
  constructor
  · rintro ⟨j, h, rfl⟩; omega
  · rintro ⟨h1, h2⟩; exact ⟨i - n, by omega, by omega⟩
theorem lens_behind {gs : List Gp} {vs : List Value} (hg : Gps gs vs cs) (hs : strsT 0 (kindsT gs) = []) (h : cs.length = n) (ha : strs.length = a) : Lens (strsB n a) (rhoOf (behind cs strs ints)) (sigOf (behind cs strs ints)) where
  all i hi := by
    by_cases hlt : i < n
    · have e : sigOf (behind cs strs ints) i = sigOf cs i := by
        simp only [sigOf, valS, nth_eq, behind]
        rw [List.map_append, List.getElem?_append_left (by rw [List.length_map]; omega)]
      rw [e]
      exact (lens_ok hg).all i (by rw [hs]; simp)
    · have hi : ¬ (n ≤ i ∧ i < n + a) := fun h => hi (strsB_mem.2 h)
      simp only [sigOf, valS, nth_eq, behind]
      rw [List.getElem?_map, List.getElem?_append_right (by omega), List.getElem?_append_right (by simp; omega), List.getElem?_map]
      cases ints[i - cs.length - (strs.map strV).length]? with
      | none => simp
      | some m => exact decT_len m
  ss i hi := by
    obtain ⟨h1, h2⟩ := strsB_mem.1 hi
    obtain ⟨j, rfl⟩ : ∃ j, i = n + j := ⟨i - n, by omega⟩
    have hl : strs[j]? = some (strs[j]'(by omega)) := List.getElem?_eq_getElem _
    rw [behind_len h hl, behind_str h hl]
/-- what is known at the start -/
def Lf.startB (gs : List Gp) (ivS ivI : List (Int × Int)) : Lf := ⟨(kindsT gs).map Kd.iv ++ (ivS ++ ivI), [], [], List.range ((kindsT gs).length + (ivS.length + ivI.length)), [], [], []⟩
theorem Lf.startB_ok {gs : List Gp} {vs : List Value} (hg : Gps gs vs cs) {ivS ivI : List (Int × Int)} (hS : All2 (fun p (l : List UInt8) => p.1 ≤ (l.length : Int) ∧ (l.length : Int) ≤ p.2) ivS strs) (hI : All2 (fun p (m : Int) => p.1 ≤ m ∧ m ≤ p.2) ivI ints) :
    (Lf.startB gs ivS ivI).Holds (rhoOf (behind cs strs ints)) (sigOf (behind cs strs ints)) where
  iv i q e := by
    have e : nth ((kindsT gs).map Kd.iv ++ (ivS ++ ivI)) i = some q := e
    have hlen : ((kindsT gs).map Kd.iv).length = cs.length := by rw [List.length_map]; exact hg.kinds.len
    rw [nth_eq] at e
    by_cases hlt : i < cs.length
    · rw [List.getElem?_append_left (by omega)] at e
      have h0 := (Lf.start_ok hg).iv i q (by rw [nth_eq]; exact e)
      rw [behind_cell hlt, ← rhoOf_cell]
      exact h0
    · rw [List.getElem?_append_right (by omega), hlen] at e
      obtain ⟨j, rfl⟩ : ∃ j, i = cs.length + j := ⟨i - cs.length, by omega⟩
      rw [show cs.length + j - cs.length = j by omega] at e
      by_cases hj : j < ivS.length
      · rw [List.getElem?_append_left hj] at e
        obtain ⟨l, hl, k⟩ := All2.nth hS (n := j) (x := q) (by rw [nth_eq]; exact e)
        rw [behind_len rfl hl]
        exact k
      · rw [List.getElem?_append_right (by omega)] at e
        obtain ⟨m, hm, k⟩ := All2.nth hI (n := j - ivS.length) (x := q) (by rw [nth_eq]; exact e)
        have hsl := hS.len
        rw [show cs.length + j = cs.length + ivS.length + (j - ivS.length) by omega, behind_int rfl hsl.symm hm]
        exact k
  ne _ _ e := by cases e
  lt _ _ e := by cases e
  to i j e := by
    have e : nth (List.range ((kindsT gs).length + (ivS.length + ivI.length))) i = some j := e
    rw [nth_eq] at e
    obtain ⟨_, e⟩ := List.getElem?_eq_some_iff.1 e
    simp at e
    rw [e]
  st _ _ e := by cases e
  sn _ _ e := by cases e
  cf _ e := by cases e
end
/-- a law's answer, with facts -/
theorem law_facts {P : Program} {f : FuncId} {w : World} {nb : Nat} (hnb : nb ≤ w.heap.size) {gs : List Gp} {vs cs : List Value} (hg : Gps gs vs cs) (hs : strsT 0 (kindsT gs) = []) {strs : List (List UInt8)} {ints : List Int} {n a : Nat} (hn : cs.length = n) (ha : strs.length = a)
    {L : Lf} (hL : L.Holds (rhoOf (behind cs strs ints)) (sigOf (behind cs strs ints))) {F : Facts} (hF : FactsOk F (rhoOf (behind cs strs ints)) (sigOf (behind cs strs ints))) (O : Oracle)
    (hO : @Sound (Base.known (L.knowF (strsB n a) F) (Lf.okF hL (lens_behind hg hs hn ha) hF) nb w) P O) (hrun : tells true (O f ((argsT 0 gs).map L.nA) ⟨[], 0⟩ 0) = true) :
    Calls P f vs.toArray w fun e w' => e = .returned (.bool true) ∧ Below w.heap.size w w' := by
  letI : Base := Base.known (L.knowF (strsB n a) F) (Lf.okF hL (lens_behind hg hs hn ha) hF) nb w
  have h1 : All2 (VA r0) (argsT 0 gs) vs := argsT_ok (pre := []) (cs' := cs) (cs := behind cs strs ints) rfl rfl (strs.map strV ++ ints.map (Value.int .i64)) rfl hg
  exact calls_bool w hnb (fun _ _ => rfl) hO (Lf.nAs_ok hL h1) hrun
end Go.Proofs.YtaamdiknefodgaaDoor.Am
