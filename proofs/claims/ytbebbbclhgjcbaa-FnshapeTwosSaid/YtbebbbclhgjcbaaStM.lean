/- stmt.Moves answers with the list stM (no texts needed). -/
import Derived.Test.YtbebbbclhgjcbaaTests5
import Derived.Test.YtbebbbclhgjcbaaSeatN
import Derived.Test.YtbebbbclhgjcbaaKit2
namespace Go.Proofs.Ytbebbbclhgjcbaa.Am
open Go.RowKit
set_option linter.unusedVariables false
/-- nothing need be known of memory -/
structure TabOk (w : World) : Prop where
  size : w.heap.size ≤ w.heap.size
theorem TabOk.all {w w0 : World} (k : TabOk w0) (h : ∀ b, b < w0.heap.size → w.heap[b]? = w0.heap[b]?) : TabOk w := ⟨Nat.le_refl _⟩
abbrev base0 (w0 : World) {K : Know} {rho : Nat → Int} {sig : Nat → List UInt8} (ok : KnowOk K rho sig) : Base := Base.known K ok w0.heap.size w0
section
variable {w0 : World} {K : Know} {rho : Nat → Int} {sig : Nat → List UInt8} (ok : KnowOk K rho sig)
theorem sound_runs {lib : Oracle} (hl : @Sound (base0 w0 ok) Try.prog lib) (n d : Nat) : @Sound (base0 w0 ok) Try.prog (@runs K (tyOf Try.prog) (fnOf Try.prog) lib n d) :=
  @runs_ok (base0 w0 ok) _ _ (@tyOf_ok (base0 w0 ok) Try.prog) _ fnOkN _ hl mixedN n d
end
end Go.Proofs.Ytbebbbclhgjcbaa.Am
namespace Go.Proofs.Ytbebbbclhgjcbaa.Am
open Go.RowKit
set_option linter.unusedSectionVars false
section
variable [Base] {L : Lf}
/-- a cell's value is one alone -/
def S.sc (x : S) : Bool := match x with | .bool _ | .int .. | .xi .. | .xe _ | .xs _ | .str _ => true | _ => false
theorem VS.only {r : Ren} {x : S} (h : x.sc = true) {v v' : Value} (k : VS r x v) (k' : VS r x v') : v = v' := by
  cases x <;> simp [S.sc] at h <;> exact k.trans k'.symm
end
end Go.Proofs.Ytbebbbclhgjcbaa.Am
namespace Go.Proofs.Ytbebbbclhgjcbaa.Am
open Go.RowKit
/-- an operand: its kind, number, place -/
structure Opd where
  k : Int
  n : Int
  l : Int
  d : Bool
  f : Int
structure Rv where
  k : Int
  a : Opd
  b : Opd
  op : Int
  bo : Int
  l : Int
  d : Bool
  f : Int
def Opd.no : Opd := ⟨0, 0, 0, false, 0⟩
end Go.Proofs.Ytbebbbclhgjcbaa.Am
namespace Go.Proofs.Ytbebbbclhgjcbaa.Am
open Go.RowKit
set_option linter.unusedSectionVars false
set_option linter.unusedVariables false
def opdAt (us : List Value) (o : Nat) : Opd := ⟨cellI us o, cellI us (o + 1), cellI us (o + 2), decide (cellI us (o + 3) = 1), cellI us (o + 4)⟩
def rvAt (us : List Value) (o : Nat) : Rv := ⟨cellI us o, opdAt us (o + 3), opdAt us (o + 8), cellI us (o + 1), cellI us (o + 2), cellI us (o + 13), decide (cellI us (o + 14) = 1), cellI us (o + 15)⟩
noncomputable def kindX (x : S) : Option Int := match x with | .int _ n => some n | _ => none
section
variable [Base] {r : Ren} {L : Lf} {ks : List Kd} {xs : List S} {us : List Value}
theorem kindX_ok {x : S} {k : Int} (h : kindX x = some k) {v : Value} (hv : VS r x v) : codeI v = k := by
  unfold kindX at h
  split at h
  · cases h; cases hv; rfl
  · cases h
theorem cellX (ha : All2 (VS r) xs us) {i : Nat} {x : S} (h : nth xs i = some x) : ∃ v, us[i]? = some v ∧ VS r x v ∧ cellI us i = codeI v := by
  obtain ⟨v, hv, hx⟩ := All2.nth ha h
  exact ⟨v, hv, hx, cellI_at hv⟩
end
noncomputable def cellsL (ks : List Kd) (L : Lf) : List S := (cellsT 0 ks).map L.nS
end Go.Proofs.Ytbebbbclhgjcbaa.Am
namespace Go.Proofs.Ytbebbbclhgjcbaa.Am
open Go.RowKit
set_option linter.unusedSectionVars false
set_option linter.unusedVariables false
/-- a statement: its kind, place, rvalue, operand, local -/
structure Stm where
  k : Int
  l : Int
  d : Bool
  f : Int
  r : Rv
  a : Opd
  n : Int
def Rv.no : Rv := ⟨0, Opd.no, Opd.no, 0, 0, 0, false, 0⟩
def stOf (us : List Value) : Stm := ⟨cellI us 0, cellI us 1, decide (cellI us 2 = 1), cellI us 3, rvAt us 4, opdAt us 20, cellI us 25⟩
end Go.Proofs.Ytbebbbclhgjcbaa.Am
namespace Go.Proofs.Ytbebbbclhgjcbaa.Am
open Go.RowKit
set_option linter.unusedSectionVars false
set_option linter.unusedVariables false
def insU (a : Int) : List Int → List Int
  | [] => [a]
  | b :: r => if a < b then a :: b :: r else if a = b then b :: r else b :: insU a r
def srtU : List Int → List Int
  | [] => []
  | a :: r => insU a (srtU r)
def opM (o : Opd) : List Int := if o.k = 3 then [o.l] else []
def rvM (r : Rv) : List Int := if r.k = 1 then opM r.a else if r.k = 2 ∨ r.k = 3 then srtU (opM r.a ++ opM r.b) else []
def stM (s : Stm) : List Int := if s.k = 1 then rvM s.r else if s.k = 3 then [] else opM s.a
theorem insU_mem {a b : Int} : ∀ {l : List Int}, b ∈ insU a l ↔ b = a ∨ b ∈ l
  | [] => by simp [insU]
  | c :: r => by
    have ih := insU_mem (a := a) (b := b) (l := r)
    unfold insU
    split
    · simp
    · split
      · rename_i h; subst h; simp
      · simp only [List.mem_cons, ih]
        constructor
        · rintro (h | h | h)
          · exact .inr (.inl h)
          · exact .inl h
          · exact .inr (.inr h)
        · rintro (h | h | h)
          · exact .inr (.inl h)
          · exact .inl h
          · exact .inr (.inr h)
theorem srtU_mem {b : Int} : ∀ {l : List Int}, b ∈ srtU l ↔ b ∈ l
  | [] => by simp [srtU]
  | a :: r => by simp only [srtU, insU_mem, srtU_mem, List.mem_cons]
section
variable [Know]
noncomputable def insX (a : N) : List N → Option (List N) := List.rec (some [a]) fun b r ih => ob (ltX a b) fun l => bif l then some (a :: b :: r) else ob (eqX a b) fun e => bif e then some (b :: r) else ob ih fun q => some (b :: q)
noncomputable def srtX : List N → Option (List N) := List.rec (some []) fun a _ ih => ob ih fun q => insX a q
noncomputable def numN (x : S) : Option N := match x with | .int .i64 n => some (.c n) | .xi .i64 i => some (.x i) | _ => none
noncomputable def opMX (xs : List S) (o : Nat) : Option (List N) := ob (nth xs o) fun k => ob (kindX k) fun k => bif decide (k = 3) then ob (nth xs (o + 2)) fun x => ob (numN x) fun n => some [n] else some []
noncomputable def rvMX (xs : List S) (o : Nat) : Option (List N) := ob (nth xs o) fun k => ob (kindX k) fun k =>
  bif decide (k = 1) then opMX xs (o + 3) else bif decide (k = 2) || decide (k = 3) then ob (opMX xs (o + 3)) fun a => ob (opMX xs (o + 8)) fun b => srtX (a ++ b) else some []
noncomputable def stMX (xs : List S) : Option (List N) := ob (nth xs 0) fun k => ob (kindX k) fun k => bif decide (k = 1) then rvMX xs 4 else bif decide (k = 3) then some [] else opMX xs 20
def numS : N → S
  | .c n => .int .i64 n
  | .x i => .xi .i64 i
end
section
variable [Base] {r : Ren} {xs : List S} {us : List Value}
theorem insX_cons (a b : N) (l : List N) : insX a (b :: l) = ob (ltX a b) fun q => bif q then some (a :: b :: l) else ob (eqX a b) fun e => bif e then some (b :: l) else ob (insX a l) fun q => some (b :: q) := rfl
theorem insX_ok {a : N} : ∀ {l q : List N}, insX a l = some q → q.map NV = insU (NV a) (l.map NV)
  | [], q, h => by cases h; rfl
  | b :: l, q, h => by
    rw [insX_cons] at h
    obtain ⟨c, hc, h⟩ := ob_some h
    have e := ltX_ok hc
    rw [List.map_cons, insU]
    cases c <;> simp only [cond_true, cond_false] at h
    · rw [if_neg (of_decide_eq_false e.symm)]
      obtain ⟨d, hd, h⟩ := ob_some h
      have e2 := eqX_ok hd
      cases d <;> simp only [cond_true, cond_false] at h
      · rw [if_neg (of_decide_eq_false e2.symm)]
        obtain ⟨q', hq, h⟩ := ob_some h
        cases h
        rw [List.map_cons, insX_ok hq]
      · rw [if_pos (of_decide_eq_true e2.symm)]
        cases h
        rfl
    · rw [if_pos (of_decide_eq_true e.symm)]
      cases h
      rfl
theorem srtX_ok : ∀ {l q : List N}, srtX l = some q → q.map NV = srtU (l.map NV)
  | [], q, h => by cases h; rfl
  | a :: l, q, h => by
    obtain ⟨p, hp, h⟩ := ob_some (show ob (srtX l) (fun q => insX a q) = some q from h)
    rw [insX_ok h, srtX_ok hp]
    rfl
theorem numN_ok {x : S} {n : N} (h : numN x = some n) {v : Value} (hv : VS r x v) : codeI v = NV n := by
  unfold numN at h
  split at h
  · cases h; cases hv; rfl
  · cases h; cases hv; rfl
  · cases h
theorem oneN (ha : All2 (VS r) xs us) {o : Nat} {q : List N} (h : (ob (nth xs o) fun x => ob (numN x) fun n => some [n]) = some q) : q.map NV = [cellI us o] := by
  obtain ⟨x, hx, h⟩ := ob_some h
  obtain ⟨n, hn, h⟩ := ob_some h
  cases h
  obtain ⟨u, _, hv, hc⟩ := cellX ha hx
  rw [hc, numN_ok hn hv]
  rfl
theorem opMX_ok (ha : All2 (VS r) xs us) {o : Nat} {q : List N} (h : opMX xs o = some q) : q.map NV = opM (opdAt us o) := by
  obtain ⟨x, hx, h⟩ := ob_some h
  obtain ⟨k, hk, h⟩ := ob_some h
  obtain ⟨u, k1, v1, c1⟩ := cellX ha hx
  rw [kindX_ok hk v1] at c1
  unfold opM
  rw [show (opdAt us o).k = k from c1]
  cases h1 : decide (k = 3) <;> rw [h1] at h <;> simp only [cond_true, cond_false] at h
  · rw [if_neg (of_decide_eq_false h1)]
    cases h
    rfl
  · rw [if_pos (of_decide_eq_true h1)]
    exact oneN ha h
theorem two_app {a b q : List N} {x y : List Int} (hq : srtX (a ++ b) = some q) (hx : a.map NV = x) (hy : b.map NV = y) : q.map NV = srtU (x ++ y) := by
  rw [srtX_ok hq, List.map_append, hx, hy]
theorem rvMX_ok (ha : All2 (VS r) xs us) {o : Nat} {q : List N} (h : rvMX xs o = some q) : q.map NV = rvM (rvAt us o) := by
  obtain ⟨x, hx, h⟩ := ob_some h
  obtain ⟨k, hk, h⟩ := ob_some h
  obtain ⟨u, k1, v1, c1⟩ := cellX ha hx
  rw [kindX_ok hk v1] at c1
  unfold rvM
  rw [show (rvAt us o).k = k from c1]
  cases h1 : decide (k = 1) <;> rw [h1] at h <;> simp only [cond_true, cond_false] at h
  · rw [if_neg (of_decide_eq_false h1)]
    cases h2 : (decide (k = 2) || decide (k = 3)) <;> rw [h2] at h <;> simp only [cond_true, cond_false] at h
    · simp only [Bool.or_eq_false_iff, decide_eq_false_iff_not] at h2
      rw [if_neg (by omega)]
      cases h
      rfl
    · simp only [Bool.or_eq_true, decide_eq_true_eq] at h2
      rw [if_pos h2]
      obtain ⟨a, hA, h⟩ := ob_some h
      obtain ⟨b, hB, h⟩ := ob_some h
      exact two_app h (opMX_ok ha hA) (opMX_ok ha hB)
  · rw [if_pos (of_decide_eq_true h1)]
    exact opMX_ok ha h
theorem stMX_ok (ha : All2 (VS r) xs us) {q : List N} (h : stMX xs = some q) : q.map NV = stM (stOf us) := by
  obtain ⟨x, hx, h⟩ := ob_some h
  obtain ⟨k, hk, h⟩ := ob_some h
  obtain ⟨u, k1, v1, c1⟩ := cellX ha hx
  rw [kindX_ok hk v1] at c1
  unfold stM
  rw [show (stOf us).k = k from c1]
  cases h1 : decide (k = 1) <;> rw [h1] at h <;> simp only [cond_true, cond_false] at h
  · rw [if_neg (of_decide_eq_false h1)]
    cases h2 : decide (k = 3) <;> rw [h2] at h <;> simp only [cond_true, cond_false] at h
    · rw [if_neg (of_decide_eq_false h2)]
      exact opMX_ok ha h
    · rw [if_pos (of_decide_eq_true h2)]
      cases h
      rfl
  · rw [if_pos (of_decide_eq_true h1)]
    exact rvMX_ok ha h
theorem numsS_ok : ∀ {q : List N} {vs : List Value}, All2 (VS r) (q.map numS) vs → vs = (q.map NV).map (Value.int .i64)
  | [], [], _ => rfl
  | .c n :: q, v :: vs, h => by
    have := numsS_ok h.2
    rw [this, show v = .int .i64 n from h.1]
    rfl
  | .x i :: q, v :: vs, h => by
    have := numsS_ok h.2
    rw [this, show v = .int .i64 (Base.rho i) from h.1]
    rfl
  | [], _ :: _, h => h.elim
  | .c _ :: _, [], h => h.elim
  | .x _ :: _, [], h => h.elim
end
def intsV (l : List Int) : List Value := l.map (Value.int .i64)
def ListsE (F : FuncId) (ks : List Kd) (e : E) (T : List Value → List Int) : Prop := ∀ us, All2 Kd.ok ks us → e.val us = true → Lists Try.prog TabOk F us (intsV (T us))
noncomputable def libL (ks : List Kd) (L : Lf) : Oracle := fun f a h fl => orR (tO 33 kSt okStE m8 (L.know (strsT 0 ks)) f a h fl) (valid4 (L.know (strsT 0 ks)) f a h fl)
noncomputable def runL (F : FuncId) (ks : List Kd) (L : Lf) : R := @runs (L.know (strsT 0 ks)) (tyOf Try.prog) (fnOf Try.prog) (libL ks L) 30 20 F [.g (cellsL ks L)] ⟨[], 0⟩ 0
/-- numbers that are each less than the next one, in a ring: no case -/
def cyc (L : Lf) : Bool := L.lt.any fun p => L.lt.any fun q => Nat.beq p.2 q.1 && (Nat.beq q.2 p.1 || L.lt.any fun t => Nat.beq q.2 t.1 && Nat.beq t.2 p.1)
theorem cyc_no {L : Lf} {rho : Nat → Int} {sig : Nat → List UInt8} (h : L.Holds rho sig) : cyc L = false := by
  unfold cyc
  rw [Bool.eq_false_iff]
  intro hc
  obtain ⟨p, hp, hc⟩ := List.any_eq_true.1 hc
  obtain ⟨q, hq, hc⟩ := List.any_eq_true.1 hc
  simp only [Bool.and_eq_true, Bool.or_eq_true] at hc
  obtain ⟨h1, h2⟩ := hc
  have e1 := Nat.eq_of_beq_eq_true h1
  have l1 := h.lt p.1 p.2 hp
  have l2 := h.lt q.1 q.2 hq
  rw [e1] at l1
  rcases h2 with h2 | h2
  · rw [Nat.eq_of_beq_eq_true h2] at l2
    omega
  · obtain ⟨t, ht, h3⟩ := List.any_eq_true.1 h2
    simp only [Bool.and_eq_true] at h3
    have l3 := h.lt t.1 t.2 ht
    rw [← Nat.eq_of_beq_eq_true h3.1, Nat.eq_of_beq_eq_true h3.2] at l3
    omega
noncomputable def listAt (e : E) (ks : List Kd) (exp : Option (List N)) (L : Lf) (r : R) : Bool :=
  Option.rec false (fun b => bif b then Option.rec false (fun q => Option.rec false (fun cs => sameL S.eqv (q.map numS) cs) (rowAt r)) exp else true) (@E.abs (L.know (strsT 0 ks)) ((cellsT 0 ks).map L.nS) e)
section
variable {F : FuncId} {T : List Value → List Int}
theorem lists_of (exp : Lf → List S → Option (List N))
    (hexp : ∀ (b0 : Base) (L : Lf) (r : Ren) (xs : List S) (us : List Value) (q : List N), b0.toKnow = L.know (strsT 0 kSt) → @All2 _ _ (@VS b0 r) xs us → exp L xs = some q → q.map (@NV b0) = T us) {sp : Sp}
    (hrun : ((sp.leaves (Lf.startB [(true, kSt)] [] [])).all fun L => cyc L || listAt (okStE) kSt (exp L (cellsL kSt L)) L (runL F kSt L)) = true) : ListsE F kSt (okStE) T := by
  intro us hk he w hw
  have hg : Gps [(true, kSt)] [.agg us.toArray] (us ++ []) := ⟨us, _, rfl, ⟨hk, .inl ⟨rfl, rfl⟩⟩, rfl⟩
  have hlen : (us ++ []).length = 26 := by rw [List.append_nil]; exact hk.len.symm
  have h0 : (Lf.startB [(true, kSt)] [] []).Holds (rhoOf (behind (us ++ []) [] [])) (sigOf (behind (us ++ []) [] [])) := Lf.startB_some hg (ivS := []) (ivI := []) (strs := []) trivial (i0 := []) rfl trivial
  obtain ⟨L, hm, hL⟩ := sp.cover h0
  have hp := List.all_eq_true.1 hrun L hm
  rw [cyc_no hL, Bool.false_or] at hp
  have hlens : Lens [] (rhoOf (behind (us ++ []) [] [])) (sigOf (behind (us ++ []) [] [])) := lens_behind (n := 26) (a := 0) hg rfl hlen rfl
  letI b0 : Base := base0 w (Lf.ok hL hlens)
  have e0 : behind (us ++ []) [] [] = [] ++ (us ++ ((([] : List (List UInt8)).map strV) ++ ([] : List Int).map (Value.int .i64))) := by
    unfold behind
    rw [List.append_nil, List.nil_append]
  have hus : All2 (VS r0) (cellsL kSt L) us := clL_ok hL rfl rfl e0 rfl hk
  have ha : All2 (VA r0) [.g (cellsL kSt L)] [.agg us.toArray] := ⟨⟨us, rfl, hus⟩, trivial⟩
  unfold listAt at hp
  cases hb : @E.abs (L.know (strsT 0 kSt)) ((cellsT 0 kSt).map L.nS) (okStE) with
  | none => rw [hb] at hp; cases hp
  | some b =>
    rw [hb] at hp
    have hbv := E.abs_ok hus hb
    rw [he] at hbv
    subst hbv
    have hp : (Option.rec false (fun q => Option.rec false (fun cs => sameL S.eqv (q.map numS) cs) (rowAt (runL F kSt L))) (exp L (cellsL kSt L)) : Bool) = true := hp
    cases hx : exp L (cellsL kSt L) with
    | none => rw [hx] at hp; cases hp
    | some q =>
      rw [hx] at hp
      have hp : (Option.rec false (fun cs => sameL S.eqv (q.map numS) cs) (rowAt (runL F kSt L)) : Bool) = true := hp
      cases hr : rowAt (runL F kSt L) with
      | none => rw [hr] at hp; cases hp
      | some cs =>
        rw [hr] at hp
        have hcs : q.map numS = cs := sameL_eq (fun _ _ => S.eqv_ok) hp
        subst hcs
        have hS : Sound Try.prog (@runs (L.know (strsT 0 kSt)) (tyOf Try.prog) (fnOf Try.prog) (libL kSt L) 30 20) :=
          @sound_runs w _ _ _ (Lf.ok hL hlens) _ (@sound_or b0 _ _ _ (sound_t8 b0 ⟨_, Try.func33, by kernel_rfl, by kernel_rfl⟩ stA_tests) (sound_valid4 b0)) 30 20
        refine (calls_row w hw.size (fun _ _ => rfl) hS ha hr).mono fun x w' ⟨u, vs, r', e1, e2, e3, e4⟩ => ⟨u, e1, ?_, e4⟩
        have hv := numsS_ok e3
        rw [hexp b0 L r0 _ _ _ rfl hus hx] at hv
        rw [hv] at e2
        exact e2
end
end Go.Proofs.Ytbebbbclhgjcbaa.Am
namespace Go.Proofs.Ytbebbbclhgjcbaa.Am
open Go.RowKit
set_option maxRecDepth 100000
noncomputable def tm0L : Lf := Lf.startB [(true, kSt)] [] []
noncomputable def tm1L : Lf := (tm0L.hi 0 (1 - 1))
def tm1T : Sp := .leaf
noncomputable def tm2L : Lf := (tm0L.lo 0 1)
noncomputable def tm3L : Lf := (tm2L.hi 0 (2 - 1))
noncomputable def tm4L : Lf := (tm3L.hi 1 (0 - 1))
def tm4T : Sp := .leaf
noncomputable def tm5L : Lf := (tm3L.lo 1 0)
noncomputable def tm6L : Lf := (tm5L.hi 1 (16 - 1))
noncomputable def tm7L : Lf := (tm6L.hi 3 (3 - 1))
noncomputable def tm8L : Lf := (tm7L.hi 4 (1 - 1))
def tm8T : Sp := .leaf
noncomputable def tm9L : Lf := (tm7L.lo 4 1)
noncomputable def tm10L : Lf := (tm9L.hi 4 (2 - 1))
noncomputable def tm11L : Lf := (tm10L.hi 7 (1 - 1))
def tm11T : Sp := .leaf
noncomputable def tm12L : Lf := (tm10L.lo 7 1)
noncomputable def tm13L : Lf := (tm12L.hi 7 (2 - 1))
def tm13T : Sp := (.conj [(9, 0), (10, 0), (11, 0)] (.conj [(12, 0), (13, 0), (14, 0), (15, 0), (16, 0)] (.conj [(17, 0), (18, 0), (19, 0)] (.cut 5 1 (.cut 6 1 (.conj [(20, 0), (21, 0), (22, 0), (23, 0), (24, 0)] (.cut 25 0 .leaf (.cut 25 1 .leaf .leaf)) .leaf) .leaf) .leaf) .leaf) .leaf) .leaf)
noncomputable def tm14L : Lf := (tm12L.lo 7 2)
def tm14T : Sp := (.cut 7 3 (.cut 8 0 .leaf (.cut 8 1 (.cut 9 0 .leaf (.cut 9 16 (.cut 11 3 (.conj [(12, 0), (13, 0), (14, 0), (15, 0), (16, 0)] (.conj [(17, 0), (18, 0), (19, 0)] (.cut 5 1 (.cut 6 1 (.conj [(20, 0), (21, 0), (22, 0), (23, 0), (24, 0)] (.cut 25 0 .leaf (.cut 25 1 .leaf .leaf)) .leaf) .leaf) .leaf) .leaf) .leaf) .leaf) .leaf)) .leaf)) (.cut 7 4 (.cut 8 0 .leaf (.cut 8 1 (.cut 9 0 .leaf (.cut 9 16 (.cut 11 3 (.conj [(12, 0), (13, 0), (14, 0), (15, 0), (16, 0)] (.conj [(17, 0), (18, 0), (19, 0)] (.cut 5 1 (.cut 6 1 (.conj [(20, 0), (21, 0), (22, 0), (23, 0), (24, 0)] (.cut 25 0 .leaf (.cut 25 1 .leaf .leaf)) .leaf) .leaf) .leaf) .leaf) .leaf) .leaf) .leaf)) .leaf)) .leaf))
def tm12T : Sp := .cut 7 2 tm13T tm14T
def tm10T : Sp := .cut 7 1 tm11T tm12T
noncomputable def tm15L : Lf := (tm9L.lo 4 2)
noncomputable def tm16L : Lf := (tm15L.hi 4 (3 - 1))
noncomputable def tm17L : Lf := (tm16L.hi 7 (1 - 1))
def tm17T : Sp := .leaf
noncomputable def tm18L : Lf := (tm16L.lo 7 1)
noncomputable def tm19L : Lf := (tm18L.hi 7 (2 - 1))
noncomputable def tm20L : Lf := (tm19L.all [(9, 0), (10, 0), (11, 0)])
noncomputable def tm21L : Lf := (tm20L.hi 12 (1 - 1))
def tm21T : Sp := .leaf
noncomputable def tm22L : Lf := (tm20L.lo 12 1)
noncomputable def tm23L : Lf := (tm22L.hi 12 (2 - 1))
def tm23T : Sp := (.conj [(14, 0), (15, 0), (16, 0)] (.conj [(17, 0), (18, 0), (19, 0)] (.cut 5 1 .leaf (.cut 5 7 (.cut 6 1 (.conj [(20, 0), (21, 0), (22, 0), (23, 0), (24, 0)] (.cut 25 0 .leaf (.cut 25 1 .leaf .leaf)) .leaf) .leaf) .leaf)) .leaf) .leaf)
noncomputable def tm24L : Lf := (tm22L.lo 12 2)
def tm24T : Sp := (.cut 12 3 (.cut 13 0 .leaf (.cut 13 1 (.cut 14 0 .leaf (.cut 14 16 (.cut 16 3 (.conj [(17, 0), (18, 0), (19, 0)] (.cut 5 1 .leaf (.cut 5 7 (.cut 6 1 (.conj [(20, 0), (21, 0), (22, 0), (23, 0), (24, 0)] (.cut 25 0 .leaf (.cut 25 1 .leaf .leaf)) .leaf) .leaf) .leaf)) .leaf) .leaf) .leaf)) .leaf)) (.cut 12 4 (.cut 13 0 .leaf (.cut 13 1 (.cut 14 0 .leaf (.cut 14 16 (.cut 16 3 (.conj [(17, 0), (18, 0), (19, 0)] (.cut 5 1 .leaf (.cut 5 7 (.cut 6 1 (.conj [(20, 0), (21, 0), (22, 0), (23, 0), (24, 0)] (.cut 25 0 .leaf (.cut 25 1 .leaf .leaf)) .leaf) .leaf) .leaf)) .leaf) .leaf) .leaf)) .leaf)) .leaf))
def tm22T : Sp := .cut 12 2 tm23T tm24T
def tm20T : Sp := .cut 12 1 tm21T tm22T
noncomputable def tm25L : Lf := { tm19L with cf := [(9, 0), (10, 0), (11, 0)] :: tm19L.cf }
def tm25T : Sp := .leaf
def tm19T : Sp := .conj [(9, 0), (10, 0), (11, 0)] tm20T tm25T
noncomputable def tm26L : Lf := (tm18L.lo 7 2)
noncomputable def tm27L : Lf := (tm26L.hi 7 (3 - 1))
noncomputable def tm28L : Lf := (tm27L.hi 8 (0 - 1))
def tm28T : Sp := .leaf
noncomputable def tm29L : Lf := (tm27L.lo 8 0)
noncomputable def tm30L : Lf := (tm29L.hi 8 (1 - 1))
noncomputable def tm31L : Lf := (tm30L.hi 9 (0 - 1))
def tm31T : Sp := .leaf
noncomputable def tm32L : Lf := (tm30L.lo 9 0)
noncomputable def tm33L : Lf := (tm32L.hi 9 (16 - 1))
noncomputable def tm34L : Lf := (tm33L.hi 11 (3 - 1))
noncomputable def tm35L : Lf := (tm34L.hi 12 (1 - 1))
def tm35T : Sp := .leaf
noncomputable def tm36L : Lf := (tm34L.lo 12 1)
noncomputable def tm37L : Lf := (tm36L.hi 12 (2 - 1))
def tm37T : Sp := (.conj [(14, 0), (15, 0), (16, 0)] (.conj [(17, 0), (18, 0), (19, 0)] (.cut 5 1 .leaf (.cut 5 7 (.cut 6 1 (.conj [(20, 0), (21, 0), (22, 0), (23, 0), (24, 0)] (.cut 25 0 .leaf (.cut 25 1 .leaf .leaf)) .leaf) .leaf) .leaf)) .leaf) .leaf)
noncomputable def tm38L : Lf := (tm36L.lo 12 2)
def tm38T : Sp := (.cut 12 3 (.cut 13 0 .leaf (.cut 13 1 (.cut 14 0 .leaf (.cut 14 16 (.cut 16 3 (.conj [(17, 0), (18, 0), (19, 0)] (.cut 5 1 .leaf (.cut 5 7 (.cut 6 1 (.conj [(20, 0), (21, 0), (22, 0), (23, 0), (24, 0)] (.cut 25 0 .leaf (.cut 25 1 .leaf .leaf)) .leaf) .leaf) .leaf)) .leaf) .leaf) .leaf)) .leaf)) (.cut 12 4 (.cut 13 0 .leaf (.cut 13 1 (.cut 14 0 .leaf (.cut 14 16 (.cut 16 3 (.conj [(17, 0), (18, 0), (19, 0)] (.cut 5 1 .leaf (.cut 5 7 (.cut 6 1 (.conj [(20, 0), (21, 0), (22, 0), (23, 0), (24, 0)] (.cut 25 0 .leaf (.cut 25 1 .leaf .leaf)) .leaf) .leaf) .leaf)) .leaf) .leaf) .leaf)) .leaf)) .leaf))
def tm36T : Sp := .cut 12 2 tm37T tm38T
def tm34T : Sp := .cut 12 1 tm35T tm36T
noncomputable def tm39L : Lf := (tm33L.lo 11 3)
def tm39T : Sp := .leaf
def tm33T : Sp := .cut 11 3 tm34T tm39T
noncomputable def tm40L : Lf := (tm32L.lo 9 16)
def tm40T : Sp := .leaf
def tm32T : Sp := .cut 9 16 tm33T tm40T
def tm30T : Sp := .cut 9 0 tm31T tm32T
noncomputable def tm41L : Lf := (tm29L.lo 8 1)
def tm41T : Sp := .leaf
def tm29T : Sp := .cut 8 1 tm30T tm41T
def tm27T : Sp := .cut 8 0 tm28T tm29T
noncomputable def tm42L : Lf := (tm26L.lo 7 3)
noncomputable def tm43L : Lf := (tm42L.hi 7 (4 - 1))
noncomputable def tm44L : Lf := (tm43L.hi 8 (0 - 1))
def tm44T : Sp := .leaf
noncomputable def tm45L : Lf := (tm43L.lo 8 0)
noncomputable def tm46L : Lf := (tm45L.hi 8 (1 - 1))
noncomputable def tm47L : Lf := (tm46L.hi 9 (0 - 1))
def tm47T : Sp := .leaf
noncomputable def tm48L : Lf := (tm46L.lo 9 0)
noncomputable def tm49L : Lf := (tm48L.hi 9 (16 - 1))
noncomputable def tm50L : Lf := (tm49L.hi 11 (3 - 1))
noncomputable def tm51L : Lf := (tm50L.hi 12 (1 - 1))
def tm51T : Sp := .leaf
noncomputable def tm52L : Lf := (tm50L.lo 12 1)
noncomputable def tm53L : Lf := (tm52L.hi 12 (2 - 1))
def tm53T : Sp := (.conj [(14, 0), (15, 0), (16, 0)] (.conj [(17, 0), (18, 0), (19, 0)] (.cut 5 1 .leaf (.cut 5 7 (.cut 6 1 (.conj [(20, 0), (21, 0), (22, 0), (23, 0), (24, 0)] (.cut 25 0 .leaf (.cut 25 1 .leaf .leaf)) .leaf) .leaf) .leaf)) .leaf) .leaf)
noncomputable def tm54L : Lf := (tm52L.lo 12 2)
def tm54T : Sp := (.cut 12 3 (.cut 13 0 .leaf (.cut 13 1 (.cut 14 0 .leaf (.cut 14 16 (.cut 16 3 (.conj [(17, 0), (18, 0), (19, 0)] (.cut 5 1 .leaf (.cut 5 7 (.cut 6 1 (.conj [(20, 0), (21, 0), (22, 0), (23, 0), (24, 0)] (.cut 25 0 .leaf (.cut 25 1 .leaf .leaf)) .leaf) .leaf) .leaf)) .leaf) .leaf) .leaf)) .leaf)) (.cut 12 4 (.cut 13 0 .leaf (.cut 13 1 (.cut 14 0 .leaf (.cut 14 16 (.cut 16 3 (.conj [(17, 0), (18, 0), (19, 0)] (.cut 5 1 .leaf (.cut 5 7 (.cut 6 1 (.conj [(20, 0), (21, 0), (22, 0), (23, 0), (24, 0)] (.cut 25 0 .leaf (.cut 25 1 (.tri 14 9 .leaf .leaf .leaf) .leaf)) .leaf) .leaf) .leaf)) .leaf) .leaf) .leaf)) .leaf)) .leaf))
def tm52T : Sp := .cut 12 2 tm53T tm54T
def tm50T : Sp := .cut 12 1 tm51T tm52T
noncomputable def tm55L : Lf := (tm49L.lo 11 3)
def tm55T : Sp := .leaf
def tm49T : Sp := .cut 11 3 tm50T tm55T
noncomputable def tm56L : Lf := (tm48L.lo 9 16)
def tm56T : Sp := .leaf
def tm48T : Sp := .cut 9 16 tm49T tm56T
def tm46T : Sp := .cut 9 0 tm47T tm48T
noncomputable def tm57L : Lf := (tm45L.lo 8 1)
def tm57T : Sp := .leaf
def tm45T : Sp := .cut 8 1 tm46T tm57T
def tm43T : Sp := .cut 8 0 tm44T tm45T
noncomputable def tm58L : Lf := (tm42L.lo 7 4)
def tm58T : Sp := .leaf
def tm42T : Sp := .cut 7 4 tm43T tm58T
def tm26T : Sp := .cut 7 3 tm27T tm42T
def tm18T : Sp := .cut 7 2 tm19T tm26T
def tm16T : Sp := .cut 7 1 tm17T tm18T
noncomputable def tm59L : Lf := (tm15L.lo 4 3)
noncomputable def tm60L : Lf := (tm59L.hi 4 (4 - 1))
noncomputable def tm61L : Lf := (tm60L.hi 7 (1 - 1))
def tm61T : Sp := .leaf
noncomputable def tm62L : Lf := (tm60L.lo 7 1)
noncomputable def tm63L : Lf := (tm62L.hi 7 (2 - 1))
noncomputable def tm64L : Lf := (tm63L.all [(9, 0), (10, 0), (11, 0)])
noncomputable def tm65L : Lf := (tm64L.hi 12 (1 - 1))
def tm65T : Sp := .leaf
noncomputable def tm66L : Lf := (tm64L.lo 12 1)
noncomputable def tm67L : Lf := (tm66L.hi 12 (2 - 1))
def tm67T : Sp := (.conj [(14, 0), (15, 0), (16, 0)] (.conj [(17, 0), (18, 0), (19, 0)] (.cut 5 1 (.cut 6 1 (.conj [(20, 0), (21, 0), (22, 0), (23, 0), (24, 0)] (.cut 25 0 .leaf (.cut 25 1 .leaf .leaf)) .leaf) .leaf) .leaf) .leaf) .leaf)
noncomputable def tm68L : Lf := (tm66L.lo 12 2)
def tm68T : Sp := (.cut 12 3 (.cut 13 0 .leaf (.cut 13 1 (.cut 14 0 .leaf (.cut 14 16 (.cut 16 3 (.conj [(17, 0), (18, 0), (19, 0)] (.cut 5 1 (.cut 6 1 (.conj [(20, 0), (21, 0), (22, 0), (23, 0), (24, 0)] (.cut 25 0 .leaf (.cut 25 1 .leaf .leaf)) .leaf) .leaf) .leaf) .leaf) .leaf) .leaf)) .leaf)) (.cut 12 4 (.cut 13 0 .leaf (.cut 13 1 (.cut 14 0 .leaf (.cut 14 16 (.cut 16 3 (.conj [(17, 0), (18, 0), (19, 0)] (.cut 5 1 (.cut 6 1 (.conj [(20, 0), (21, 0), (22, 0), (23, 0), (24, 0)] (.cut 25 0 .leaf (.cut 25 1 .leaf .leaf)) .leaf) .leaf) .leaf) .leaf) .leaf) .leaf)) .leaf)) .leaf))
def tm66T : Sp := .cut 12 2 tm67T tm68T
def tm64T : Sp := .cut 12 1 tm65T tm66T
noncomputable def tm69L : Lf := { tm63L with cf := [(9, 0), (10, 0), (11, 0)] :: tm63L.cf }
def tm69T : Sp := .leaf
def tm63T : Sp := .conj [(9, 0), (10, 0), (11, 0)] tm64T tm69T
noncomputable def tm70L : Lf := (tm62L.lo 7 2)
noncomputable def tm71L : Lf := (tm70L.hi 7 (3 - 1))
noncomputable def tm72L : Lf := (tm71L.hi 8 (0 - 1))
def tm72T : Sp := .leaf
noncomputable def tm73L : Lf := (tm71L.lo 8 0)
noncomputable def tm74L : Lf := (tm73L.hi 8 (1 - 1))
noncomputable def tm75L : Lf := (tm74L.hi 9 (0 - 1))
def tm75T : Sp := .leaf
noncomputable def tm76L : Lf := (tm74L.lo 9 0)
noncomputable def tm77L : Lf := (tm76L.hi 9 (16 - 1))
noncomputable def tm78L : Lf := (tm77L.hi 11 (3 - 1))
noncomputable def tm79L : Lf := (tm78L.hi 12 (1 - 1))
def tm79T : Sp := .leaf
noncomputable def tm80L : Lf := (tm78L.lo 12 1)
noncomputable def tm81L : Lf := (tm80L.hi 12 (2 - 1))
def tm81T : Sp := (.conj [(14, 0), (15, 0), (16, 0)] (.conj [(17, 0), (18, 0), (19, 0)] (.cut 5 1 (.cut 6 1 (.conj [(20, 0), (21, 0), (22, 0), (23, 0), (24, 0)] (.cut 25 0 .leaf (.cut 25 1 .leaf .leaf)) .leaf) .leaf) .leaf) .leaf) .leaf)
noncomputable def tm82L : Lf := (tm80L.lo 12 2)
def tm82T : Sp := (.cut 12 3 (.cut 13 0 .leaf (.cut 13 1 (.cut 14 0 .leaf (.cut 14 16 (.cut 16 3 (.conj [(17, 0), (18, 0), (19, 0)] (.cut 5 1 (.cut 6 1 (.conj [(20, 0), (21, 0), (22, 0), (23, 0), (24, 0)] (.cut 25 0 .leaf (.cut 25 1 .leaf .leaf)) .leaf) .leaf) .leaf) .leaf) .leaf) .leaf)) .leaf)) (.cut 12 4 (.cut 13 0 .leaf (.cut 13 1 (.cut 14 0 .leaf (.cut 14 16 (.cut 16 3 (.conj [(17, 0), (18, 0), (19, 0)] (.cut 5 1 (.cut 6 1 (.conj [(20, 0), (21, 0), (22, 0), (23, 0), (24, 0)] (.cut 25 0 .leaf (.cut 25 1 .leaf .leaf)) .leaf) .leaf) .leaf) .leaf) .leaf) .leaf)) .leaf)) .leaf))
def tm80T : Sp := .cut 12 2 tm81T tm82T
def tm78T : Sp := .cut 12 1 tm79T tm80T
noncomputable def tm83L : Lf := (tm77L.lo 11 3)
def tm83T : Sp := .leaf
def tm77T : Sp := .cut 11 3 tm78T tm83T
noncomputable def tm84L : Lf := (tm76L.lo 9 16)
def tm84T : Sp := .leaf
def tm76T : Sp := .cut 9 16 tm77T tm84T
def tm74T : Sp := .cut 9 0 tm75T tm76T
noncomputable def tm85L : Lf := (tm73L.lo 8 1)
def tm85T : Sp := .leaf
def tm73T : Sp := .cut 8 1 tm74T tm85T
def tm71T : Sp := .cut 8 0 tm72T tm73T
noncomputable def tm86L : Lf := (tm70L.lo 7 3)
noncomputable def tm87L : Lf := (tm86L.hi 7 (4 - 1))
noncomputable def tm88L : Lf := (tm87L.hi 8 (0 - 1))
def tm88T : Sp := .leaf
noncomputable def tm89L : Lf := (tm87L.lo 8 0)
noncomputable def tm90L : Lf := (tm89L.hi 8 (1 - 1))
noncomputable def tm91L : Lf := (tm90L.hi 9 (0 - 1))
def tm91T : Sp := .leaf
noncomputable def tm92L : Lf := (tm90L.lo 9 0)
noncomputable def tm93L : Lf := (tm92L.hi 9 (16 - 1))
noncomputable def tm94L : Lf := (tm93L.hi 11 (3 - 1))
noncomputable def tm95L : Lf := (tm94L.hi 12 (1 - 1))
def tm95T : Sp := .leaf
noncomputable def tm96L : Lf := (tm94L.lo 12 1)
noncomputable def tm97L : Lf := (tm96L.hi 12 (2 - 1))
def tm97T : Sp := (.conj [(14, 0), (15, 0), (16, 0)] (.conj [(17, 0), (18, 0), (19, 0)] (.cut 5 1 (.cut 6 1 (.conj [(20, 0), (21, 0), (22, 0), (23, 0), (24, 0)] (.cut 25 0 .leaf (.cut 25 1 .leaf .leaf)) .leaf) .leaf) .leaf) .leaf) .leaf)
noncomputable def tm98L : Lf := (tm96L.lo 12 2)
def tm98T : Sp := (.cut 12 3 (.cut 13 0 .leaf (.cut 13 1 (.cut 14 0 .leaf (.cut 14 16 (.cut 16 3 (.conj [(17, 0), (18, 0), (19, 0)] (.cut 5 1 (.cut 6 1 (.conj [(20, 0), (21, 0), (22, 0), (23, 0), (24, 0)] (.cut 25 0 .leaf (.cut 25 1 .leaf .leaf)) .leaf) .leaf) .leaf) .leaf) .leaf) .leaf)) .leaf)) (.cut 12 4 (.cut 13 0 .leaf (.cut 13 1 (.cut 14 0 .leaf (.cut 14 16 (.cut 16 3 (.conj [(17, 0), (18, 0), (19, 0)] (.cut 5 1 (.cut 6 1 (.conj [(20, 0), (21, 0), (22, 0), (23, 0), (24, 0)] (.cut 25 0 .leaf (.cut 25 1 (.tri 14 9 .leaf .leaf .leaf) .leaf)) .leaf) .leaf) .leaf) .leaf) .leaf) .leaf)) .leaf)) .leaf))
def tm96T : Sp := .cut 12 2 tm97T tm98T
def tm94T : Sp := .cut 12 1 tm95T tm96T
noncomputable def tm99L : Lf := (tm93L.lo 11 3)
def tm99T : Sp := .leaf
def tm93T : Sp := .cut 11 3 tm94T tm99T
noncomputable def tm100L : Lf := (tm92L.lo 9 16)
def tm100T : Sp := .leaf
def tm92T : Sp := .cut 9 16 tm93T tm100T
def tm90T : Sp := .cut 9 0 tm91T tm92T
noncomputable def tm101L : Lf := (tm89L.lo 8 1)
def tm101T : Sp := .leaf
def tm89T : Sp := .cut 8 1 tm90T tm101T
def tm87T : Sp := .cut 8 0 tm88T tm89T
noncomputable def tm102L : Lf := (tm86L.lo 7 4)
def tm102T : Sp := .leaf
def tm86T : Sp := .cut 7 4 tm87T tm102T
def tm70T : Sp := .cut 7 3 tm71T tm86T
def tm62T : Sp := .cut 7 2 tm63T tm70T
def tm60T : Sp := .cut 7 1 tm61T tm62T
noncomputable def tm103L : Lf := (tm59L.lo 4 4)
def tm103T : Sp := (.cut 4 5 (.conj [(7, 0), (8, 0), (9, 0), (10, 0), (11, 0)] (.conj [(12, 0), (13, 0), (14, 0), (15, 0), (16, 0)] (.cut 17 0 .leaf (.cut 17 16 (.cut 19 3 (.cut 5 1 (.cut 6 1 .leaf (.cut 6 4 (.conj [(20, 0), (21, 0), (22, 0), (23, 0), (24, 0)] (.cut 25 0 .leaf (.cut 25 1 .leaf .leaf)) .leaf) .leaf)) .leaf) .leaf) .leaf)) .leaf) .leaf) (.cut 4 6 (.conj [(7, 0), (8, 0), (9, 0), (10, 0), (11, 0)] (.conj [(12, 0), (13, 0), (14, 0), (15, 0), (16, 0)] (.cut 17 0 .leaf (.cut 17 16 (.cut 19 3 (.cut 5 1 (.cut 6 1 (.conj [(20, 0), (21, 0), (22, 0), (23, 0), (24, 0)] (.cut 25 0 .leaf (.cut 25 1 .leaf .leaf)) .leaf) .leaf) .leaf) .leaf) .leaf)) .leaf) .leaf) .leaf))
def tm59T : Sp := .cut 4 4 tm60T tm103T
def tm15T : Sp := .cut 4 3 tm16T tm59T
def tm9T : Sp := .cut 4 2 tm10T tm15T
def tm7T : Sp := .cut 4 1 tm8T tm9T
noncomputable def tm104L : Lf := (tm6L.lo 3 3)
def tm104T : Sp := .leaf
def tm6T : Sp := .cut 3 3 tm7T tm104T
noncomputable def tm105L : Lf := (tm5L.lo 1 16)
def tm105T : Sp := .leaf
def tm5T : Sp := .cut 1 16 tm6T tm105T
def tm3T : Sp := .cut 1 0 tm4T tm5T
noncomputable def tm106L : Lf := (tm2L.lo 0 2)
noncomputable def tm107L : Lf := (tm106L.hi 0 (3 - 1))
def tm107T : Sp := (.conj [(1, 0), (2, 0), (3, 0)] (.conj [(4, 0), (5, 0), (6, 0), (7, 0), (8, 0), (9, 0), (10, 0), (11, 0), (12, 0), (13, 0), (14, 0), (15, 0), (16, 0), (17, 0), (18, 0), (19, 0)] (.cut 20 1 .leaf (.cut 20 2 (.conj [(22, 0), (23, 0), (24, 0)] (.cut 25 0 .leaf (.cut 25 1 .leaf .leaf)) .leaf) (.cut 20 3 (.cut 21 0 .leaf (.cut 21 1 (.cut 22 0 .leaf (.cut 22 16 (.cut 24 3 (.cut 25 0 .leaf (.cut 25 1 .leaf .leaf)) .leaf) .leaf)) .leaf)) (.cut 20 4 (.cut 21 0 .leaf (.cut 21 1 (.cut 22 0 .leaf (.cut 22 16 (.cut 24 3 (.cut 25 0 .leaf (.cut 25 1 .leaf .leaf)) .leaf) .leaf)) .leaf)) .leaf)))) .leaf) .leaf)
noncomputable def tm108L : Lf := (tm106L.lo 0 3)
noncomputable def tm109L : Lf := (tm108L.hi 0 (4 - 1))
def tm109T : Sp := (.conj [(1, 0), (2, 0), (3, 0)] (.conj [(4, 0), (5, 0), (6, 0), (7, 0), (8, 0), (9, 0), (10, 0), (11, 0), (12, 0), (13, 0), (14, 0), (15, 0), (16, 0), (17, 0), (18, 0), (19, 0)] (.conj [(20, 0), (21, 0), (22, 0), (23, 0), (24, 0)] (.cut 25 0 .leaf (.cut 25 16 .leaf .leaf)) .leaf) .leaf) .leaf)
noncomputable def tm110L : Lf := (tm108L.lo 0 4)
def tm110T : Sp := (.cut 0 5 (.conj [(1, 0), (2, 0), (3, 0)] (.conj [(4, 0), (5, 0), (6, 0), (7, 0), (8, 0), (9, 0), (10, 0), (11, 0), (12, 0), (13, 0), (14, 0), (15, 0), (16, 0), (17, 0), (18, 0), (19, 0)] (.cut 20 1 .leaf (.cut 20 2 (.conj [(22, 0), (23, 0), (24, 0)] (.cut 25 0 .leaf (.cut 25 1 .leaf .leaf)) .leaf) (.cut 20 3 (.cut 21 0 .leaf (.cut 21 1 (.cut 22 0 .leaf (.cut 22 16 (.cut 24 3 (.cut 25 0 .leaf (.cut 25 1 .leaf .leaf)) .leaf) .leaf)) .leaf)) (.cut 20 4 (.cut 21 0 .leaf (.cut 21 1 (.cut 22 0 .leaf (.cut 22 16 (.cut 24 3 (.cut 25 0 .leaf (.cut 25 1 .leaf .leaf)) .leaf) .leaf)) .leaf)) .leaf)))) .leaf) .leaf) .leaf)
def tm108T : Sp := .cut 0 4 tm109T tm110T
def tm106T : Sp := .cut 0 3 tm107T tm108T
def tm2T : Sp := .cut 0 2 tm3T tm106T
def tm0T : Sp := .cut 0 1 tm1T tm2T
noncomputable def goodL_tmvA (L : Lf) : Bool := cyc L || listAt okStE kSt (@stMX (L.know (strsT 0 kSt)) (cellsL kSt L)) L (runL 22 kSt L)
end Go.Proofs.Ytbebbbclhgjcbaa.Am
namespace Go.Proofs.Ytbebbbclhgjcbaa.Am
open Go.RowKit
set_option maxRecDepth 100000
theorem tmvA_tm1 : (tm1T.leaves tm1L).all goodL_tmvA = true := by kernel_rfl
theorem tmvA_tm4 : (tm4T.leaves tm4L).all goodL_tmvA = true := by kernel_rfl
theorem tmvA_tm8 : (tm8T.leaves tm8L).all goodL_tmvA = true := by kernel_rfl
theorem tmvA_tm11 : (tm11T.leaves tm11L).all goodL_tmvA = true := by kernel_rfl
theorem tmvA_tm13 : (tm13T.leaves tm13L).all goodL_tmvA = true := by kernel_rfl
theorem tmvA_tm14 : (tm14T.leaves tm14L).all goodL_tmvA = true := by kernel_rfl
theorem tmvA_tm17 : (tm17T.leaves tm17L).all goodL_tmvA = true := by kernel_rfl
theorem tmvA_tm21 : (tm21T.leaves tm21L).all goodL_tmvA = true := by kernel_rfl
theorem tmvA_tm23 : (tm23T.leaves tm23L).all goodL_tmvA = true := by kernel_rfl
theorem tmvA_tm24 : (tm24T.leaves tm24L).all goodL_tmvA = true := by kernel_rfl
theorem tmvA_tm25 : (tm25T.leaves tm25L).all goodL_tmvA = true := by kernel_rfl
theorem tmvA_tm28 : (tm28T.leaves tm28L).all goodL_tmvA = true := by kernel_rfl
theorem tmvA_tm31 : (tm31T.leaves tm31L).all goodL_tmvA = true := by kernel_rfl
theorem tmvA_tm35 : (tm35T.leaves tm35L).all goodL_tmvA = true := by kernel_rfl
theorem tmvA_tm37 : (tm37T.leaves tm37L).all goodL_tmvA = true := by kernel_rfl
theorem tmvA_tm38 : (tm38T.leaves tm38L).all goodL_tmvA = true := by kernel_rfl
theorem tmvA_tm39 : (tm39T.leaves tm39L).all goodL_tmvA = true := by kernel_rfl
theorem tmvA_tm40 : (tm40T.leaves tm40L).all goodL_tmvA = true := by kernel_rfl
theorem tmvA_tm41 : (tm41T.leaves tm41L).all goodL_tmvA = true := by kernel_rfl
theorem tmvA_tm44 : (tm44T.leaves tm44L).all goodL_tmvA = true := by kernel_rfl
theorem tmvA_tm47 : (tm47T.leaves tm47L).all goodL_tmvA = true := by kernel_rfl
theorem tmvA_tm51 : (tm51T.leaves tm51L).all goodL_tmvA = true := by kernel_rfl
theorem tmvA_tm53 : (tm53T.leaves tm53L).all goodL_tmvA = true := by kernel_rfl
theorem tmvA_tm54 : (tm54T.leaves tm54L).all goodL_tmvA = true := by kernel_rfl
theorem tmvA_tm55 : (tm55T.leaves tm55L).all goodL_tmvA = true := by kernel_rfl
theorem tmvA_tm56 : (tm56T.leaves tm56L).all goodL_tmvA = true := by kernel_rfl
theorem tmvA_tm57 : (tm57T.leaves tm57L).all goodL_tmvA = true := by kernel_rfl
theorem tmvA_tm58 : (tm58T.leaves tm58L).all goodL_tmvA = true := by kernel_rfl
theorem tmvA_tm61 : (tm61T.leaves tm61L).all goodL_tmvA = true := by kernel_rfl
theorem tmvA_tm65 : (tm65T.leaves tm65L).all goodL_tmvA = true := by kernel_rfl
theorem tmvA_tm67 : (tm67T.leaves tm67L).all goodL_tmvA = true := by kernel_rfl
theorem tmvA_tm68 : (tm68T.leaves tm68L).all goodL_tmvA = true := by kernel_rfl
theorem tmvA_tm69 : (tm69T.leaves tm69L).all goodL_tmvA = true := by kernel_rfl
theorem tmvA_tm72 : (tm72T.leaves tm72L).all goodL_tmvA = true := by kernel_rfl
theorem tmvA_tm75 : (tm75T.leaves tm75L).all goodL_tmvA = true := by kernel_rfl
theorem tmvA_tm79 : (tm79T.leaves tm79L).all goodL_tmvA = true := by kernel_rfl
theorem tmvA_tm81 : (tm81T.leaves tm81L).all goodL_tmvA = true := by kernel_rfl
theorem tmvA_tm82 : (tm82T.leaves tm82L).all goodL_tmvA = true := by kernel_rfl
theorem tmvA_tm83 : (tm83T.leaves tm83L).all goodL_tmvA = true := by kernel_rfl
theorem tmvA_tm84 : (tm84T.leaves tm84L).all goodL_tmvA = true := by kernel_rfl
theorem tmvA_tm85 : (tm85T.leaves tm85L).all goodL_tmvA = true := by kernel_rfl
theorem tmvA_tm88 : (tm88T.leaves tm88L).all goodL_tmvA = true := by kernel_rfl
theorem tmvA_tm91 : (tm91T.leaves tm91L).all goodL_tmvA = true := by kernel_rfl
theorem tmvA_tm95 : (tm95T.leaves tm95L).all goodL_tmvA = true := by kernel_rfl
theorem tmvA_tm97 : (tm97T.leaves tm97L).all goodL_tmvA = true := by kernel_rfl
theorem tmvA_tm98 : (tm98T.leaves tm98L).all goodL_tmvA = true := by kernel_rfl
theorem tmvA_tm99 : (tm99T.leaves tm99L).all goodL_tmvA = true := by kernel_rfl
theorem tmvA_tm100 : (tm100T.leaves tm100L).all goodL_tmvA = true := by kernel_rfl
theorem tmvA_tm101 : (tm101T.leaves tm101L).all goodL_tmvA = true := by kernel_rfl
theorem tmvA_tm102 : (tm102T.leaves tm102L).all goodL_tmvA = true := by kernel_rfl
theorem tmvA_tm103 : (tm103T.leaves tm103L).all goodL_tmvA = true := by kernel_rfl
theorem tmvA_tm104 : (tm104T.leaves tm104L).all goodL_tmvA = true := by kernel_rfl
theorem tmvA_tm105 : (tm105T.leaves tm105L).all goodL_tmvA = true := by kernel_rfl
theorem tmvA_tm107 : (tm107T.leaves tm107L).all goodL_tmvA = true := by kernel_rfl
theorem tmvA_tm109 : (tm109T.leaves tm109L).all goodL_tmvA = true := by kernel_rfl
theorem tmvA_tm110 : (tm110T.leaves tm110L).all goodL_tmvA = true := by kernel_rfl
theorem tmvA_tm12 : (tm12T.leaves tm12L).all goodL_tmvA = true := by
  have e : tm12T.leaves tm12L = tm13T.leaves tm13L ++ tm14T.leaves tm14L := rfl
  rw [e]
  simp only [List.all_append, tmvA_tm13, tmvA_tm14, Bool.and_self]
theorem tmvA_tm10 : (tm10T.leaves tm10L).all goodL_tmvA = true := by
  have e : tm10T.leaves tm10L = tm11T.leaves tm11L ++ tm12T.leaves tm12L := rfl
  rw [e]
  simp only [List.all_append, tmvA_tm11, tmvA_tm12, Bool.and_self]
theorem tmvA_tm22 : (tm22T.leaves tm22L).all goodL_tmvA = true := by
  have e : tm22T.leaves tm22L = tm23T.leaves tm23L ++ tm24T.leaves tm24L := rfl
  rw [e]
  simp only [List.all_append, tmvA_tm23, tmvA_tm24, Bool.and_self]
theorem tmvA_tm20 : (tm20T.leaves tm20L).all goodL_tmvA = true := by
  have e : tm20T.leaves tm20L = tm21T.leaves tm21L ++ tm22T.leaves tm22L := rfl
  rw [e]
  simp only [List.all_append, tmvA_tm21, tmvA_tm22, Bool.and_self]
theorem tmvA_tm19 : (tm19T.leaves tm19L).all goodL_tmvA = true := by
  have e : tm19T.leaves tm19L = tm20T.leaves tm20L ++ tm25T.leaves tm25L := rfl
  rw [e]
  simp only [List.all_append, tmvA_tm20, tmvA_tm25, Bool.and_self]
theorem tmvA_tm36 : (tm36T.leaves tm36L).all goodL_tmvA = true := by
  have e : tm36T.leaves tm36L = tm37T.leaves tm37L ++ tm38T.leaves tm38L := rfl
  rw [e]
  simp only [List.all_append, tmvA_tm37, tmvA_tm38, Bool.and_self]
theorem tmvA_tm34 : (tm34T.leaves tm34L).all goodL_tmvA = true := by
  have e : tm34T.leaves tm34L = tm35T.leaves tm35L ++ tm36T.leaves tm36L := rfl
  rw [e]
  simp only [List.all_append, tmvA_tm35, tmvA_tm36, Bool.and_self]
theorem tmvA_tm33 : (tm33T.leaves tm33L).all goodL_tmvA = true := by
  have e : tm33T.leaves tm33L = tm34T.leaves tm34L ++ tm39T.leaves tm39L := rfl
  rw [e]
  simp only [List.all_append, tmvA_tm34, tmvA_tm39, Bool.and_self]
theorem tmvA_tm32 : (tm32T.leaves tm32L).all goodL_tmvA = true := by
  have e : tm32T.leaves tm32L = tm33T.leaves tm33L ++ tm40T.leaves tm40L := rfl
  rw [e]
  simp only [List.all_append, tmvA_tm33, tmvA_tm40, Bool.and_self]
theorem tmvA_tm30 : (tm30T.leaves tm30L).all goodL_tmvA = true := by
  have e : tm30T.leaves tm30L = tm31T.leaves tm31L ++ tm32T.leaves tm32L := rfl
  rw [e]
  simp only [List.all_append, tmvA_tm31, tmvA_tm32, Bool.and_self]
theorem tmvA_tm29 : (tm29T.leaves tm29L).all goodL_tmvA = true := by
  have e : tm29T.leaves tm29L = tm30T.leaves tm30L ++ tm41T.leaves tm41L := rfl
  rw [e]
  simp only [List.all_append, tmvA_tm30, tmvA_tm41, Bool.and_self]
theorem tmvA_tm27 : (tm27T.leaves tm27L).all goodL_tmvA = true := by
  have e : tm27T.leaves tm27L = tm28T.leaves tm28L ++ tm29T.leaves tm29L := rfl
  rw [e]
  simp only [List.all_append, tmvA_tm28, tmvA_tm29, Bool.and_self]
theorem tmvA_tm52 : (tm52T.leaves tm52L).all goodL_tmvA = true := by
  have e : tm52T.leaves tm52L = tm53T.leaves tm53L ++ tm54T.leaves tm54L := rfl
  rw [e]
  simp only [List.all_append, tmvA_tm53, tmvA_tm54, Bool.and_self]
theorem tmvA_tm50 : (tm50T.leaves tm50L).all goodL_tmvA = true := by
  have e : tm50T.leaves tm50L = tm51T.leaves tm51L ++ tm52T.leaves tm52L := rfl
  rw [e]
  simp only [List.all_append, tmvA_tm51, tmvA_tm52, Bool.and_self]
theorem tmvA_tm49 : (tm49T.leaves tm49L).all goodL_tmvA = true := by
  have e : tm49T.leaves tm49L = tm50T.leaves tm50L ++ tm55T.leaves tm55L := rfl
  rw [e]
  simp only [List.all_append, tmvA_tm50, tmvA_tm55, Bool.and_self]
theorem tmvA_tm48 : (tm48T.leaves tm48L).all goodL_tmvA = true := by
  have e : tm48T.leaves tm48L = tm49T.leaves tm49L ++ tm56T.leaves tm56L := rfl
  rw [e]
  simp only [List.all_append, tmvA_tm49, tmvA_tm56, Bool.and_self]
theorem tmvA_tm46 : (tm46T.leaves tm46L).all goodL_tmvA = true := by
  have e : tm46T.leaves tm46L = tm47T.leaves tm47L ++ tm48T.leaves tm48L := rfl
  rw [e]
  simp only [List.all_append, tmvA_tm47, tmvA_tm48, Bool.and_self]
theorem tmvA_tm45 : (tm45T.leaves tm45L).all goodL_tmvA = true := by
  have e : tm45T.leaves tm45L = tm46T.leaves tm46L ++ tm57T.leaves tm57L := rfl
  rw [e]
  simp only [List.all_append, tmvA_tm46, tmvA_tm57, Bool.and_self]
theorem tmvA_tm43 : (tm43T.leaves tm43L).all goodL_tmvA = true := by
  have e : tm43T.leaves tm43L = tm44T.leaves tm44L ++ tm45T.leaves tm45L := rfl
  rw [e]
  simp only [List.all_append, tmvA_tm44, tmvA_tm45, Bool.and_self]
theorem tmvA_tm42 : (tm42T.leaves tm42L).all goodL_tmvA = true := by
  have e : tm42T.leaves tm42L = tm43T.leaves tm43L ++ tm58T.leaves tm58L := rfl
  rw [e]
  simp only [List.all_append, tmvA_tm43, tmvA_tm58, Bool.and_self]
theorem tmvA_tm26 : (tm26T.leaves tm26L).all goodL_tmvA = true := by
  have e : tm26T.leaves tm26L = tm27T.leaves tm27L ++ tm42T.leaves tm42L := rfl
  rw [e]
  simp only [List.all_append, tmvA_tm27, tmvA_tm42, Bool.and_self]
theorem tmvA_tm18 : (tm18T.leaves tm18L).all goodL_tmvA = true := by
  have e : tm18T.leaves tm18L = tm19T.leaves tm19L ++ tm26T.leaves tm26L := rfl
  rw [e]
  simp only [List.all_append, tmvA_tm19, tmvA_tm26, Bool.and_self]
theorem tmvA_tm16 : (tm16T.leaves tm16L).all goodL_tmvA = true := by
  have e : tm16T.leaves tm16L = tm17T.leaves tm17L ++ tm18T.leaves tm18L := rfl
  rw [e]
  simp only [List.all_append, tmvA_tm17, tmvA_tm18, Bool.and_self]
theorem tmvA_tm66 : (tm66T.leaves tm66L).all goodL_tmvA = true := by
  have e : tm66T.leaves tm66L = tm67T.leaves tm67L ++ tm68T.leaves tm68L := rfl
  rw [e]
  simp only [List.all_append, tmvA_tm67, tmvA_tm68, Bool.and_self]
theorem tmvA_tm64 : (tm64T.leaves tm64L).all goodL_tmvA = true := by
  have e : tm64T.leaves tm64L = tm65T.leaves tm65L ++ tm66T.leaves tm66L := rfl
  rw [e]
  simp only [List.all_append, tmvA_tm65, tmvA_tm66, Bool.and_self]
theorem tmvA_tm63 : (tm63T.leaves tm63L).all goodL_tmvA = true := by
  have e : tm63T.leaves tm63L = tm64T.leaves tm64L ++ tm69T.leaves tm69L := rfl
  rw [e]
  simp only [List.all_append, tmvA_tm64, tmvA_tm69, Bool.and_self]
theorem tmvA_tm80 : (tm80T.leaves tm80L).all goodL_tmvA = true := by
  have e : tm80T.leaves tm80L = tm81T.leaves tm81L ++ tm82T.leaves tm82L := rfl
  rw [e]
  simp only [List.all_append, tmvA_tm81, tmvA_tm82, Bool.and_self]
theorem tmvA_tm78 : (tm78T.leaves tm78L).all goodL_tmvA = true := by
  have e : tm78T.leaves tm78L = tm79T.leaves tm79L ++ tm80T.leaves tm80L := rfl
  rw [e]
  simp only [List.all_append, tmvA_tm79, tmvA_tm80, Bool.and_self]
theorem tmvA_tm77 : (tm77T.leaves tm77L).all goodL_tmvA = true := by
  have e : tm77T.leaves tm77L = tm78T.leaves tm78L ++ tm83T.leaves tm83L := rfl
  rw [e]
  simp only [List.all_append, tmvA_tm78, tmvA_tm83, Bool.and_self]
theorem tmvA_tm76 : (tm76T.leaves tm76L).all goodL_tmvA = true := by
  have e : tm76T.leaves tm76L = tm77T.leaves tm77L ++ tm84T.leaves tm84L := rfl
  rw [e]
  simp only [List.all_append, tmvA_tm77, tmvA_tm84, Bool.and_self]
theorem tmvA_tm74 : (tm74T.leaves tm74L).all goodL_tmvA = true := by
  have e : tm74T.leaves tm74L = tm75T.leaves tm75L ++ tm76T.leaves tm76L := rfl
  rw [e]
  simp only [List.all_append, tmvA_tm75, tmvA_tm76, Bool.and_self]
theorem tmvA_tm73 : (tm73T.leaves tm73L).all goodL_tmvA = true := by
  have e : tm73T.leaves tm73L = tm74T.leaves tm74L ++ tm85T.leaves tm85L := rfl
  rw [e]
  simp only [List.all_append, tmvA_tm74, tmvA_tm85, Bool.and_self]
theorem tmvA_tm71 : (tm71T.leaves tm71L).all goodL_tmvA = true := by
  have e : tm71T.leaves tm71L = tm72T.leaves tm72L ++ tm73T.leaves tm73L := rfl
  rw [e]
  simp only [List.all_append, tmvA_tm72, tmvA_tm73, Bool.and_self]
theorem tmvA_tm96 : (tm96T.leaves tm96L).all goodL_tmvA = true := by
  have e : tm96T.leaves tm96L = tm97T.leaves tm97L ++ tm98T.leaves tm98L := rfl
  rw [e]
  simp only [List.all_append, tmvA_tm97, tmvA_tm98, Bool.and_self]
theorem tmvA_tm94 : (tm94T.leaves tm94L).all goodL_tmvA = true := by
  have e : tm94T.leaves tm94L = tm95T.leaves tm95L ++ tm96T.leaves tm96L := rfl
  rw [e]
  simp only [List.all_append, tmvA_tm95, tmvA_tm96, Bool.and_self]
theorem tmvA_tm93 : (tm93T.leaves tm93L).all goodL_tmvA = true := by
  have e : tm93T.leaves tm93L = tm94T.leaves tm94L ++ tm99T.leaves tm99L := rfl
  rw [e]
  simp only [List.all_append, tmvA_tm94, tmvA_tm99, Bool.and_self]
theorem tmvA_tm92 : (tm92T.leaves tm92L).all goodL_tmvA = true := by
  have e : tm92T.leaves tm92L = tm93T.leaves tm93L ++ tm100T.leaves tm100L := rfl
  rw [e]
  simp only [List.all_append, tmvA_tm93, tmvA_tm100, Bool.and_self]
theorem tmvA_tm90 : (tm90T.leaves tm90L).all goodL_tmvA = true := by
  have e : tm90T.leaves tm90L = tm91T.leaves tm91L ++ tm92T.leaves tm92L := rfl
  rw [e]
  simp only [List.all_append, tmvA_tm91, tmvA_tm92, Bool.and_self]
theorem tmvA_tm89 : (tm89T.leaves tm89L).all goodL_tmvA = true := by
  have e : tm89T.leaves tm89L = tm90T.leaves tm90L ++ tm101T.leaves tm101L := rfl
  rw [e]
  simp only [List.all_append, tmvA_tm90, tmvA_tm101, Bool.and_self]
theorem tmvA_tm87 : (tm87T.leaves tm87L).all goodL_tmvA = true := by
  have e : tm87T.leaves tm87L = tm88T.leaves tm88L ++ tm89T.leaves tm89L := rfl
  rw [e]
  simp only [List.all_append, tmvA_tm88, tmvA_tm89, Bool.and_self]
theorem tmvA_tm86 : (tm86T.leaves tm86L).all goodL_tmvA = true := by
  have e : tm86T.leaves tm86L = tm87T.leaves tm87L ++ tm102T.leaves tm102L := rfl
  rw [e]
  simp only [List.all_append, tmvA_tm87, tmvA_tm102, Bool.and_self]
theorem tmvA_tm70 : (tm70T.leaves tm70L).all goodL_tmvA = true := by
  have e : tm70T.leaves tm70L = tm71T.leaves tm71L ++ tm86T.leaves tm86L := rfl
  rw [e]
  simp only [List.all_append, tmvA_tm71, tmvA_tm86, Bool.and_self]
theorem tmvA_tm62 : (tm62T.leaves tm62L).all goodL_tmvA = true := by
  have e : tm62T.leaves tm62L = tm63T.leaves tm63L ++ tm70T.leaves tm70L := rfl
  rw [e]
  simp only [List.all_append, tmvA_tm63, tmvA_tm70, Bool.and_self]
theorem tmvA_tm60 : (tm60T.leaves tm60L).all goodL_tmvA = true := by
  have e : tm60T.leaves tm60L = tm61T.leaves tm61L ++ tm62T.leaves tm62L := rfl
  rw [e]
  simp only [List.all_append, tmvA_tm61, tmvA_tm62, Bool.and_self]
theorem tmvA_tm59 : (tm59T.leaves tm59L).all goodL_tmvA = true := by
  have e : tm59T.leaves tm59L = tm60T.leaves tm60L ++ tm103T.leaves tm103L := rfl
  rw [e]
  simp only [List.all_append, tmvA_tm60, tmvA_tm103, Bool.and_self]
theorem tmvA_tm15 : (tm15T.leaves tm15L).all goodL_tmvA = true := by
  have e : tm15T.leaves tm15L = tm16T.leaves tm16L ++ tm59T.leaves tm59L := rfl
  rw [e]
  simp only [List.all_append, tmvA_tm16, tmvA_tm59, Bool.and_self]
theorem tmvA_tm9 : (tm9T.leaves tm9L).all goodL_tmvA = true := by
  have e : tm9T.leaves tm9L = tm10T.leaves tm10L ++ tm15T.leaves tm15L := rfl
  rw [e]
  simp only [List.all_append, tmvA_tm10, tmvA_tm15, Bool.and_self]
theorem tmvA_tm7 : (tm7T.leaves tm7L).all goodL_tmvA = true := by
  have e : tm7T.leaves tm7L = tm8T.leaves tm8L ++ tm9T.leaves tm9L := rfl
  rw [e]
  simp only [List.all_append, tmvA_tm8, tmvA_tm9, Bool.and_self]
theorem tmvA_tm6 : (tm6T.leaves tm6L).all goodL_tmvA = true := by
  have e : tm6T.leaves tm6L = tm7T.leaves tm7L ++ tm104T.leaves tm104L := rfl
  rw [e]
  simp only [List.all_append, tmvA_tm7, tmvA_tm104, Bool.and_self]
theorem tmvA_tm5 : (tm5T.leaves tm5L).all goodL_tmvA = true := by
  have e : tm5T.leaves tm5L = tm6T.leaves tm6L ++ tm105T.leaves tm105L := rfl
  rw [e]
  simp only [List.all_append, tmvA_tm6, tmvA_tm105, Bool.and_self]
theorem tmvA_tm3 : (tm3T.leaves tm3L).all goodL_tmvA = true := by
  have e : tm3T.leaves tm3L = tm4T.leaves tm4L ++ tm5T.leaves tm5L := rfl
  rw [e]
  simp only [List.all_append, tmvA_tm4, tmvA_tm5, Bool.and_self]
theorem tmvA_tm108 : (tm108T.leaves tm108L).all goodL_tmvA = true := by
  have e : tm108T.leaves tm108L = tm109T.leaves tm109L ++ tm110T.leaves tm110L := rfl
  rw [e]
  simp only [List.all_append, tmvA_tm109, tmvA_tm110, Bool.and_self]
theorem tmvA_tm106 : (tm106T.leaves tm106L).all goodL_tmvA = true := by
  have e : tm106T.leaves tm106L = tm107T.leaves tm107L ++ tm108T.leaves tm108L := rfl
  rw [e]
  simp only [List.all_append, tmvA_tm107, tmvA_tm108, Bool.and_self]
theorem tmvA_tm2 : (tm2T.leaves tm2L).all goodL_tmvA = true := by
  have e : tm2T.leaves tm2L = tm3T.leaves tm3L ++ tm106T.leaves tm106L := rfl
  rw [e]
  simp only [List.all_append, tmvA_tm3, tmvA_tm106, Bool.and_self]
theorem tmvA_tm0 : (tm0T.leaves tm0L).all goodL_tmvA = true := by
  have e : tm0T.leaves tm0L = tm1T.leaves tm1L ++ tm2T.leaves tm2L := rfl
  rw [e]
  simp only [List.all_append, tmvA_tm1, tmvA_tm2, Bool.and_self]
theorem tmvA_lists : ListsE 22 kSt okStE (fun us => stM (stOf us)) := lists_of (fun L xs => @stMX (L.know (strsT 0 kSt)) xs) (fun b0 L r xs us q hK ha h => by rw [← hK] at h; exact @stMX_ok b0 r xs us ha q h) (sp := tm0T) tmvA_tm0
end Go.Proofs.Ytbebbbclhgjcbaa.Am
