/- What statements use and move: lists of locals; functions of one struct that answer with a list of numbers. -/
import Derived.Test.YtaamdiknefodgaaDoorTexts5
import Derived.Test.YtaamdiknefodgaaDoorIns
namespace Go.Proofs.YtaamdiknefodgaaDoor.Am
open Go.RowKit
set_option linter.unusedSectionVars false
set_option linter.unusedVariables false

/-! sorted lists of numbers -/
def insU (a : Int) : List Int → List Int
  | [] => [a]
  | b :: r => if a < b then a :: b :: r else if a = b then b :: r else b :: insU a r
def srtU : List Int → List Int
  | [] => []
  | a :: r => insU a (srtU r)
def opU (o : Opd) : List Int := if o.k = 1 then [] else [o.l]
def opM (o : Opd) : List Int := if o.k = 3 then [o.l] else []
def rvU (r : Rv) : List Int := if r.k = 1 then opU r.a else if r.k = 2 ∨ r.k = 3 then srtU (opU r.a ++ opU r.b) else [r.l]
def rvM (r : Rv) : List Int := if r.k = 1 then opM r.a else if r.k = 2 ∨ r.k = 3 then srtU (opM r.a ++ opM r.b) else []
/-- what a statement uses: its rvalue's or operand's, and the local of a place that is no local, all of it -/
def stU (s : Stm) : List Int := if s.k = 1 then (if s.d = true ∨ 0 < s.f then insU s.l (rvU s.r) else rvU s.r) else if s.k = 3 then [] else opU s.a
def stM (s : Stm) : List Int := if s.k = 1 then rvM s.r else if s.k = 3 then [] else opM s.a
theorem insU_mem {a b : Int} : ∀ {l : List Int}, b ∈ insU a l ↔ b = a ∨ b ∈ l
  | [] => by simp [insU]
  | c :: r => by
    have ih := insU_mem (a := a) (b := b) (l := r)
    unfold insU
    split
    · simp
    · split
      · rename_i h; subst h; simp
      · simp only [List.mem_cons, ih]
        constructor
        · rintro (h | h | h)
          · exact .inr (.inl h)
          · exact .inl h
          · exact .inr (.inr h)
        · rintro (h | h | h)
          · exact .inr (.inl h)
          · exact .inl h
          · exact .inr (.inr h)
theorem srtU_mem {b : Int} : ∀ {l : List Int}, b ∈ srtU l ↔ b ∈ l
  | [] => by simp [srtU]
  | a :: r => by simp only [srtU, insU_mem, srtU_mem, List.mem_cons]

/-! .. of numbers that are not written out -/
section
variable [Know]
noncomputable def insX (a : N) : List N → Option (List N) := List.rec (some [a]) fun b r ih => ob (ltX a b) fun l => bif l then some (a :: b :: r) else ob (eqX a b) fun e => bif e then some (b :: r) else ob ih fun q => some (b :: q)
noncomputable def srtX : List N → Option (List N) := List.rec (some []) fun a _ ih => ob ih fun q => insX a q
noncomputable def numN (x : S) : Option N := match x with | .int .i64 n => some (.c n) | .xi .i64 i => some (.x i) | _ => none
noncomputable def opUX (xs : List S) (o : Nat) : Option (List N) := ob (nth xs o) fun k => ob (kindX k) fun k => bif decide (k = 1) then some [] else ob (nth xs (o + 2)) fun x => ob (numN x) fun n => some [n]
noncomputable def opMX (xs : List S) (o : Nat) : Option (List N) := ob (nth xs o) fun k => ob (kindX k) fun k => bif decide (k = 3) then ob (nth xs (o + 2)) fun x => ob (numN x) fun n => some [n] else some []
noncomputable def rvUX (xs : List S) (o : Nat) : Option (List N) := ob (nth xs o) fun k => ob (kindX k) fun k =>
  bif decide (k = 1) then opUX xs (o + 3) else bif decide (k = 2) || decide (k = 3) then ob (opUX xs (o + 3)) fun a => ob (opUX xs (o + 8)) fun b => srtX (a ++ b) else ob (nth xs (o + 13)) fun x => ob (numN x) fun n => some [n]
noncomputable def rvMX (xs : List S) (o : Nat) : Option (List N) := ob (nth xs o) fun k => ob (kindX k) fun k =>
  bif decide (k = 1) then opMX xs (o + 3) else bif decide (k = 2) || decide (k = 3) then ob (opMX xs (o + 3)) fun a => ob (opMX xs (o + 8)) fun b => srtX (a ++ b) else some []
noncomputable def partX (xs : List S) : Option Bool := ob (nth xs 2) fun d => ob d.isBool fun d => bif d then some true else ob (nth xs 3) fun f => ob f.num fun f => ltX (.c 0) f.2
noncomputable def stUX (xs : List S) : Option (List N) := ob (nth xs 0) fun k => ob (kindX k) fun k =>
  bif decide (k = 1) then ob (rvUX xs 4) fun l => ob (partX xs) fun p => bif p then ob (nth xs 1) fun x => ob (numN x) fun n => insX n l else some l
  else bif decide (k = 3) then some [] else opUX xs 20
noncomputable def stMX (xs : List S) : Option (List N) := ob (nth xs 0) fun k => ob (kindX k) fun k => bif decide (k = 1) then rvMX xs 4 else bif decide (k = 3) then some [] else opMX xs 20
def numS : N → S
  | .c n => .int .i64 n
  | .x i => .xi .i64 i
end
section
variable [Base] {r : Ren} {xs : List S} {us : List Value}
theorem insX_cons (a b : N) (l : List N) : insX a (b :: l) = ob (ltX a b) fun q => bif q then some (a :: b :: l) else ob (eqX a b) fun e => bif e then some (b :: l) else ob (insX a l) fun q => some (b :: q) := rfl
theorem insX_ok {a : N} : ∀ {l q : List N}, insX a l = some q → q.map NV = insU (NV a) (l.map NV)
  | [], q, h => by cases h; rfl
  | b :: l, q, h => by
    rw [insX_cons] at h
    obtain ⟨c, hc, h⟩ := ob_some h
    have e := ltX_ok hc
    rw [List.map_cons, insU]
    cases c <;> simp only [cond_true, cond_false] at h
    · rw [if_neg (of_decide_eq_false e.symm)]
      obtain ⟨d, hd, h⟩ := ob_some h
      have e2 := eqX_ok hd
      cases d <;> simp only [cond_true, cond_false] at h
      · rw [if_neg (of_decide_eq_false e2.symm)]
        obtain ⟨q', hq, h⟩ := ob_some h
        cases h
        rw [List.map_cons, insX_ok hq]
      · rw [if_pos (of_decide_eq_true e2.symm)]
        cases h
        rfl
    · rw [if_pos (of_decide_eq_true e.symm)]
      cases h
      rfl
theorem srtX_ok : ∀ {l q : List N}, srtX l = some q → q.map NV = srtU (l.map NV)
  | [], q, h => by cases h; rfl
  | a :: l, q, h => by
    obtain ⟨p, hp, h⟩ := ob_some (show ob (srtX l) (fun q => insX a q) = some q from h)
    rw [insX_ok h, srtX_ok hp]
    rfl
theorem numN_ok {x : S} {n : N} (h : numN x = some n) {v : Value} (hv : VS r x v) : codeI v = NV n := by
  unfold numN at h
  split at h
  · cases h; cases hv; rfl
  · cases h; cases hv; rfl
  · cases h
theorem oneN (ha : All2 (VS r) xs us) {o : Nat} {q : List N} (h : (ob (nth xs o) fun x => ob (numN x) fun n => some [n]) = some q) : q.map NV = [cellI us o] := by
  obtain ⟨x, hx, h⟩ := ob_some h
  obtain ⟨n, hn, h⟩ := ob_some h
  cases h
  obtain ⟨u, _, hv, hc⟩ := cellX ha hx
  rw [hc, numN_ok hn hv]
  rfl
theorem opUX_ok (ha : All2 (VS r) xs us) {o : Nat} {q : List N} (h : opUX xs o = some q) : q.map NV = opU (opdAt us o) := by
  obtain ⟨x, hx, h⟩ := ob_some h
  obtain ⟨k, hk, h⟩ := ob_some h
  obtain ⟨u, k1, v1, c1⟩ := cellX ha hx
  rw [kindX_ok hk v1] at c1
  unfold opU
  rw [show (opdAt us o).k = k from c1]
  cases h1 : decide (k = 1) <;> rw [h1] at h <;> simp only [cond_true, cond_false] at h
  · rw [if_neg (of_decide_eq_false h1)]
    exact oneN ha h
  · rw [if_pos (of_decide_eq_true h1)]
    cases h
    rfl
theorem opMX_ok (ha : All2 (VS r) xs us) {o : Nat} {q : List N} (h : opMX xs o = some q) : q.map NV = opM (opdAt us o) := by
  obtain ⟨x, hx, h⟩ := ob_some h
  obtain ⟨k, hk, h⟩ := ob_some h
  obtain ⟨u, k1, v1, c1⟩ := cellX ha hx
  rw [kindX_ok hk v1] at c1
  unfold opM
  rw [show (opdAt us o).k = k from c1]
  cases h1 : decide (k = 3) <;> rw [h1] at h <;> simp only [cond_true, cond_false] at h
  · rw [if_neg (of_decide_eq_false h1)]
    cases h
    rfl
  · rw [if_pos (of_decide_eq_true h1)]
    exact oneN ha h
theorem two_app {a b q : List N} {x y : List Int} (hq : srtX (a ++ b) = some q) (hx : a.map NV = x) (hy : b.map NV = y) : q.map NV = srtU (x ++ y) := by
  rw [srtX_ok hq, List.map_append, hx, hy]
theorem rvUX_ok (ha : All2 (VS r) xs us) {o : Nat} {q : List N} (h : rvUX xs o = some q) : q.map NV = rvU (rvAt us o) := by
  obtain ⟨x, hx, h⟩ := ob_some h
  obtain ⟨k, hk, h⟩ := ob_some h
  obtain ⟨u, k1, v1, c1⟩ := cellX ha hx
  rw [kindX_ok hk v1] at c1
  unfold rvU
  rw [show (rvAt us o).k = k from c1]
  cases h1 : decide (k = 1) <;> rw [h1] at h <;> simp only [cond_true, cond_false] at h
  · rw [if_neg (of_decide_eq_false h1)]
    cases h2 : (decide (k = 2) || decide (k = 3)) <;> rw [h2] at h <;> simp only [cond_true, cond_false] at h
    · simp only [Bool.or_eq_false_iff, decide_eq_false_iff_not] at h2
      rw [if_neg (by omega)]
      exact oneN ha h
    · simp only [Bool.or_eq_true, decide_eq_true_eq] at h2
      rw [if_pos h2]
      obtain ⟨a, hA, h⟩ := ob_some h
      obtain ⟨b, hB, h⟩ := ob_some h
      exact two_app h (opUX_ok ha hA) (opUX_ok ha hB)
  · rw [if_pos (of_decide_eq_true h1)]
    exact opUX_ok ha h
theorem rvMX_ok (ha : All2 (VS r) xs us) {o : Nat} {q : List N} (h : rvMX xs o = some q) : q.map NV = rvM (rvAt us o) := by
  obtain ⟨x, hx, h⟩ := ob_some h
  obtain ⟨k, hk, h⟩ := ob_some h
  obtain ⟨u, k1, v1, c1⟩ := cellX ha hx
  rw [kindX_ok hk v1] at c1
  unfold rvM
  rw [show (rvAt us o).k = k from c1]
  cases h1 : decide (k = 1) <;> rw [h1] at h <;> simp only [cond_true, cond_false] at h
  · rw [if_neg (of_decide_eq_false h1)]
    cases h2 : (decide (k = 2) || decide (k = 3)) <;> rw [h2] at h <;> simp only [cond_true, cond_false] at h
    · simp only [Bool.or_eq_false_iff, decide_eq_false_iff_not] at h2
      rw [if_neg (by omega)]
      cases h
      rfl
    · simp only [Bool.or_eq_true, decide_eq_true_eq] at h2
      rw [if_pos h2]
      obtain ⟨a, hA, h⟩ := ob_some h
      obtain ⟨b, hB, h⟩ := ob_some h
      exact two_app h (opMX_ok ha hA) (opMX_ok ha hB)
  · rw [if_pos (of_decide_eq_true h1)]
    exact opMX_ok ha h
theorem partX_ok (ha : All2 (VS r) xs us) {p : Bool} (h : partX xs = some p) : (p = true ↔ (stOf us).d = true ∨ 0 < (stOf us).f) := by
  obtain ⟨x, hx, h⟩ := ob_some h
  obtain ⟨d, hd, h⟩ := ob_some h
  obtain ⟨u, k1, v1, c1⟩ := cellX ha hx
  have e := isBool_ok hd v1
  subst e
  have hdd : (stOf us).d = d := by
    show decide (cellI us 2 = 1) = d
    rw [c1]
    cases d <;> rfl
  rw [hdd]
  cases d <;> simp only [cond_true, cond_false] at h
  · obtain ⟨y, hy, h⟩ := ob_some h
    obtain ⟨f, hf, h⟩ := ob_some h
    obtain ⟨u2, k2, v2, c2⟩ := cellX ha hy
    have e2 := num_ok hf v2
    subst e2
    have e3 := ltX_ok h
    have hff : (stOf us).f = NV f.2 := c2
    rw [hff, e3]
    constructor
    · intro hh
      exact .inr (of_decide_eq_true hh)
    · rintro (hh | hh)
      · cases hh
      · exact decide_eq_true hh
  · cases h
    simp
theorem stUX_ok (ha : All2 (VS r) xs us) {q : List N} (h : stUX xs = some q) : q.map NV = stU (stOf us) := by
  obtain ⟨x, hx, h⟩ := ob_some h
  obtain ⟨k, hk, h⟩ := ob_some h
  obtain ⟨u, k1, v1, c1⟩ := cellX ha hx
  rw [kindX_ok hk v1] at c1
  unfold stU
  rw [show (stOf us).k = k from c1]
  cases h1 : decide (k = 1) <;> rw [h1] at h <;> simp only [cond_true, cond_false] at h
  · rw [if_neg (of_decide_eq_false h1)]
    cases h2 : decide (k = 3) <;> rw [h2] at h <;> simp only [cond_true, cond_false] at h
    · rw [if_neg (of_decide_eq_false h2)]
      exact opUX_ok ha h
    · rw [if_pos (of_decide_eq_true h2)]
      cases h
      rfl
  · rw [if_pos (of_decide_eq_true h1)]
    obtain ⟨l, hl, h⟩ := ob_some h
    obtain ⟨p, hp, h⟩ := ob_some h
    have e := partX_ok ha hp
    cases p <;> simp only [cond_true, cond_false] at h
    · rw [if_neg (fun hh => by have := e.2 hh; cases this)]
      cases h
      exact rvUX_ok ha hl
    · rw [if_pos (e.1 rfl)]
      obtain ⟨y, hy, h⟩ := ob_some h
      obtain ⟨n, hn, h⟩ := ob_some h
      obtain ⟨u2, k2, v2, c2⟩ := cellX ha hy
      rw [insX_ok h, rvUX_ok ha hl, ← numN_ok hn v2, ← c2]
      rfl
theorem stMX_ok (ha : All2 (VS r) xs us) {q : List N} (h : stMX xs = some q) : q.map NV = stM (stOf us) := by
  obtain ⟨x, hx, h⟩ := ob_some h
  obtain ⟨k, hk, h⟩ := ob_some h
  obtain ⟨u, k1, v1, c1⟩ := cellX ha hx
  rw [kindX_ok hk v1] at c1
  unfold stM
  rw [show (stOf us).k = k from c1]
  cases h1 : decide (k = 1) <;> rw [h1] at h <;> simp only [cond_true, cond_false] at h
  · rw [if_neg (of_decide_eq_false h1)]
    cases h2 : decide (k = 3) <;> rw [h2] at h <;> simp only [cond_true, cond_false] at h
    · rw [if_neg (of_decide_eq_false h2)]
      exact opMX_ok ha h
    · rw [if_pos (of_decide_eq_true h2)]
      cases h
      rfl
  · rw [if_pos (of_decide_eq_true h1)]
    exact rvMX_ok ha h
theorem numsS_ok : ∀ {q : List N} {vs : List Value}, All2 (VS r) (q.map numS) vs → vs = (q.map NV).map (Value.int .i64)
  | [], [], _ => rfl
  | .c n :: q, v :: vs, h => by
    have := numsS_ok h.2
    rw [this, show v = .int .i64 n from h.1]
    rfl
  | .x i :: q, v :: vs, h => by
    have := numsS_ok h.2
    rw [this, show v = .int .i64 (Base.rho i) from h.1]
    rfl
  | [], _ :: _, h => h.elim
  | .c _ :: _, [], h => h.elim
  | .x _ :: _, [], h => h.elim
end
/-! functions of one struct that answer with a list -/
def intsV (l : List Int) : List Value := l.map (Value.int .i64)
def ListsE (F : FuncId) (ks : List Kd) (e : E) (T : List Value → List Int) : Prop := ∀ us, All2 Kd.ok ks us → e.val us = true → Lists Tryd.prog TabOk F us (intsV (T us))
noncomputable def libL (ks : List Kd) (pls : List Pl) (L : Lf) : Oracle := fun f a h fl => orR (valid5 (L.know (strsT 0 ks)) f a h fl) (orcX L ks pls insXO f a h fl)
noncomputable def runL (F : FuncId) (ks : List Kd) (pls : List Pl) (L : Lf) : R := @runs (L.know (strsT 0 ks)) (tyOf Tryd.prog) (fnOf Tryd.prog) (libL ks pls L) 30 20 F [.g (cellsL ks L)] ⟨[], 0⟩ 0
/-- numbers that are each less than the next one, in a ring: no case -/
def cyc (L : Lf) : Bool := L.lt.any fun p => L.lt.any fun q => Nat.beq p.2 q.1 && (Nat.beq q.2 p.1 || L.lt.any fun t => Nat.beq q.2 t.1 && Nat.beq t.2 p.1)
theorem cyc_no {L : Lf} {rho : Nat → Int} {sig : Nat → List UInt8} (h : L.Holds rho sig) : cyc L = false := by
  unfold cyc
  rw [Bool.eq_false_iff]
  intro hc
  obtain ⟨p, hp, hc⟩ := List.any_eq_true.1 hc
  obtain ⟨q, hq, hc⟩ := List.any_eq_true.1 hc
  simp only [Bool.and_eq_true, Bool.or_eq_true] at hc
  obtain ⟨h1, h2⟩ := hc
  have e1 := Nat.eq_of_beq_eq_true h1
  have l1 := h.lt p.1 p.2 hp
  have l2 := h.lt q.1 q.2 hq
  rw [e1] at l1
  rcases h2 with h2 | h2
  · rw [Nat.eq_of_beq_eq_true h2] at l2
    omega
  · obtain ⟨t, ht, h3⟩ := List.any_eq_true.1 h2
    simp only [Bool.and_eq_true] at h3
    have l3 := h.lt t.1 t.2 ht
    rw [← Nat.eq_of_beq_eq_true h3.1, Nat.eq_of_beq_eq_true h3.2] at l3
    omega
noncomputable def listAt (e : E) (ks : List Kd) (exp : Option (List N)) (L : Lf) (r : R) : Bool :=
  Option.rec false (fun b => bif b then Option.rec false (fun q => Option.rec false (fun cs => sameL S.eqv (q.map numS) cs) (rowAt r)) exp else true) (@E.abs (L.know (strsT 0 ks)) ((cellsT 0 ks).map L.nS) e)
section
variable {F : FuncId} {ks : List Kd} {e : E} {T : List Value → List Int} {pls : List Pl}
theorem lists_of (exp : Lf → List S → Option (List N))
    (hexp : ∀ (b0 : Base) (L : Lf) (r : Ren) (xs : List S) (us : List Value) (q : List N), b0.toKnow = L.know (strsT 0 ks) → @All2 _ _ (@VS b0 r) xs us → exp L xs = some q → q.map (@NV b0) = T us)
    (hpl : pls.all (fun p => decide (p.1 < ks.length) && decide (p.2.1 < ks.length) && decide (p.2.2 < ks.length)) = true) {sp : Sp}
    (hrun : ((sp.leaves (Lf.startX [(true, ks)] pls.length)).all fun L => cyc L || listAt e ks (exp L (cellsL ks L)) L (runL F ks pls L)) = true) : ListsE F ks e T := by
  intro us hk he w hw
  have hg : Gps [(true, ks)] [.agg us.toArray] us := ⟨us, [], (List.append_nil _).symm, ⟨hk, .inl ⟨rfl, rfl⟩⟩, rfl⟩
  have hks : kindsT [(true, ks)] = ks := by simp [kindsT]
  have hlen : us.length = ks.length := by have := hk.len; omega
  have kk := lens_withX hg (plX_len us pls)
  have d := dec_withX hg (plX us pls)
  have ee : PlE ks.length pls (rhoOf (withX us (plX us pls))) (sigOf (withX us (plX us pls))) := by
    rw [← hlen]
    exact plX_E (by rw [hlen]; exact hpl)
  rw [hks] at kk d
  have hl : (plX us pls).length = pls.length := by simp [plX]
  have hst := Lf.startX_ok hg (plX_len us pls)
  rw [hl] at hst
  obtain ⟨L, hm, hL⟩ := sp.cover hst
  have hp := List.all_eq_true.1 hrun L hm
  rw [cyc_no hL, Bool.false_or] at hp
  letI b0 : Base := base0 w (Lf.ok hL kk)
  have ha' : All2 (VA r0) [.g (cellsT 0 ks)] [.agg us.toArray] :=
    argsT_ok (cs := withX us (plX us pls)) rfl rfl ((plX us pls).map fun x => .string ⟨x.toArray⟩) (gs := [(true, ks)]) (pre := []) (cs' := us) rfl hg
  have ha := Lf.nAs_ok hL ha'
  unfold listAt at hp
  cases hb : @E.abs (L.know (strsT 0 ks)) ((cellsT 0 ks).map L.nS) e with
  | none => rw [hb] at hp; cases hp
  | some b =>
    rw [hb] at hp
    have ha2 := ha
    obtain ⟨⟨us', e1, hus⟩, _⟩ := ha2
    have e1 : Value.agg us.toArray = .agg us'.toArray := e1
    obtain rfl : us = us' := by simpa using e1
    have hbv := E.abs_ok hus hb
    rw [he] at hbv
    subst hbv
    have hp : (Option.rec false (fun q => Option.rec false (fun cs => sameL S.eqv (q.map numS) cs) (rowAt (runL F ks pls L))) (exp L (cellsL ks L)) : Bool) = true := hp
    cases hx : exp L (cellsL ks L) with
    | none => rw [hx] at hp; cases hp
    | some q =>
      rw [hx] at hp
      have hp : (Option.rec false (fun cs => sameL S.eqv (q.map numS) cs) (rowAt (runL F ks pls L)) : Bool) = true := hp
      cases hr : rowAt (runL F ks pls L) with
      | none => rw [hr] at hp; cases hp
      | some cs =>
        rw [hr] at hp
        have hcs : q.map numS = cs := sameL_eq (fun _ _ => S.eqv_ok) hp
        subst hcs
        have hS : Sound Tryd.prog (@runs (L.know (strsT 0 ks)) (tyOf Tryd.prog) (fnOf Tryd.prog) (libL ks pls L) 30 20) :=
          @sound_runs w _ _ _ (Lf.ok hL kk) _ (@sound_or (base0 w (Lf.ok hL kk)) _ _ _ (sound_valid5 (base0 w (Lf.ok hL kk))) (sound_orcX hL kk d ee hw (sound_insX _))) 30 20
        refine (calls_row w hw.size (fun _ _ => rfl) hS ha hr).mono fun x w' ⟨u, vs, r', e1, e2, e3, e4⟩ => ⟨u, e1, ?_, e4⟩
        have hv := numsS_ok e3
        rw [hexp b0 L r0 _ _ _ rfl hus hx] at hv
        rw [hv] at e2
        exact e2
end
end Go.Proofs.YtaamdiknefodgaaDoor.Am
