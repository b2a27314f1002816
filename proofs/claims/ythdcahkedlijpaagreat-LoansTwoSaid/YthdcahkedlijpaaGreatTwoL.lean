/- LoansTwo, plain: the list of loans. -/
import Derived.Test.YthdcahkedlijpaaGreatTwoC
import Derived.Test.YthdcahkedlijpaaGreatTwosL
namespace Go.Proofs.YthdcahkedlijpaaGreat.ltwo
open Go.RowKit Go.Proofs.YthdcahkedlijpaaGreat Go.Proofs.YthdcahkedlijpaaGreat.Am Go.Proofs.YthdcahkedlijpaaGreat.loan
set_option maxRecDepth 100000
set_option linter.unusedVariables false
set_option linter.unusedSectionVars false
theorem lns_idx {bs : List BlkD} : ∀ {N m : Nat} {x : List Value}, (lns bs N)[m]? = some x → ∃ n, n < N ∧ lnN bs n = some x ∧ (lns bs n).length = m
  | 0, m, x, h => by rw [lns_zero] at h; simp at h
  | N + 1, m, x, h => by
    cases hx : lnN bs N with
    | none =>
      rw [lns_none hx] at h
      obtain ⟨n, h1, h2, h3⟩ := lns_idx h
      exact ⟨n, by omega, h2, h3⟩
    | some y =>
      rw [lns_some hx] at h
      by_cases hm : m < (lns bs N).length
      · rw [List.getElem?_append_left hm] at h
        obtain ⟨n, h1, h2, h3⟩ := lns_idx h
        exact ⟨n, by omega, h2, h3⟩
      · rw [List.getElem?_append_right (by omega)] at h
        have he : m - (lns bs N).length = 0 := by
          have := (List.getElem?_eq_some_iff.1 h).1
          simpa using this
        rw [he] at h
        have h : some y = some x := h
        cases h
        exact ⟨N, by omega, hx, by omega⟩
theorem ln_of {bs : List BlkD} {n : Nat} {x : List Value} (h : lnN bs n = some x) : ∃ st, stN bs n = some st ∧ isRef st = true ∧ x = lnS n st := by
  unfold lnN at h
  cases hs : stN bs n with
  | none => rw [hs] at h; cases h
  | some st =>
    rw [hs] at h
    have h : (if isRef st = true then some (lnS n st) else none) = some x := h
    cases hr : isRef st with
    | true => rw [if_pos hr] at h; cases h; exact ⟨st, rfl, hr, rfl⟩
    | false => rw [if_neg (by rw [hr]; decide)] at h; cases h
def boT (x : List Value) : Bool := decide (cellI x 4 = 3)
theorem ref_two {st : List Value} (hr : isRef st = true) : twos.twoB st = decide (cellI st 6 = 3) := by
  rw [two_is]
  unfold isRef at hr
  simp only [Bool.and_eq_true, decide_eq_true_eq] at hr
  rw [decide_eq_true hr.1, decide_eq_true hr.2]
  rfl
theorem bits_i (D : FnD) {j : Nat} (hj : j < 16) : (twosL.bits D)[j]? = some ((twos.Ct.fn D).i j) := by
  unfold twosL.bits
  rw [List.getElem?_map, List.getElem?_range hj]
  rfl
theorem incr_mem : ∀ (bs : List Bool) (i j : Nat), bs[j]? = some true → ((i + j : Nat) : Int) ∈ incr i bs
  | b :: bs, i, 0, h => by
    simp only [List.getElem?_cons_zero, Option.some.injEq] at h
    subst h
    simp [incr]
  | b :: bs, i, j + 1, h => by
    have := incr_mem bs (i + 1) j (by simpa using h)
    rw [show i + 1 + j = i + (j + 1) by omega] at this
    exact List.mem_append_right _ this
  | [], i, j, h => by simp at h
theorem incr_acc : ∀ (bs : List Bool) (i : Nat), ((incr i bs).length : Int) = acc b2i bs
  | [], _ => rfl
  | b :: bs, i => by
    have := incr_acc bs (i + 1)
    show (((bif b then [(i : Int)] else []) ++ incr (i + 1) bs).length : Int) = b2i b + acc b2i bs
    rw [List.length_append, ← this]
    cases b
    · show ((0 + _ : Nat) : Int) = 0 + _; omega
    · show ((1 + _ : Nat) : Int) = 1 + _; omega
theorem acc_fm {α : Type} (f : List Value → Int) (g : α → Option (List Value)) : ∀ l : List α, acc f (l.filterMap g) = acc (fun x => opt f (g x)) l
  | [] => rfl
  | x :: l => by
    have ih := acc_fm f g l
    cases hg : g x with
    | none =>
      rw [List.filterMap_cons_none hg, ih]
      show _ = opt f (g x) + _
      rw [hg]
      show _ = (0 : Int) + _
      omega
    | some y =>
      rw [List.filterMap_cons_some hg]
      show f y + acc f (l.filterMap g) = opt f (g x) + _
      rw [hg, ih]
      rfl
theorem one_j {x : Int} (h0 : 0 ≤ x) (h1 : x < 16) : acc (fun j : Nat => b2i (decide (x = (j : Int)))) (List.range 16) = 1 := by
  have : ∀ z : Fin 16, acc (fun j : Nat => b2i (decide (((z.val : Nat) : Int) = (j : Int)))) (List.range 16) = 1 := by decide
  have hz := this ⟨x.toNat, by omega⟩
  rwa [show ((x.toNat : Nat) : Int) = x by omega] at hz
def Yes (w : World) (e : Ending) (w' : World) : Prop := e = .returned (.bool true) ∧ Below w.heap.size w w'
theorem st_mem {D : FnD} {n : Nat} {el : List Value} (h : stN D.bs n = some el) : ∃ b ∈ D.bs, el ∈ b.st := by
  unfold stN at h
  cases hp : (ptsTo D.bs D.bs.length)[n]? with
  | none => rw [hp] at h; cases h
  | some p =>
    rw [hp] at h
    have hs : (D.bs.getD p.1 b0).st[p.2]? = some el := h
    rcases get_or (l := D.bs) (i := p.1) (d := b0) with k | k
    · exact ⟨_, k, List.mem_of_getElem? hs⟩
    · have k : D.bs.getD p.1 b0 = b0 := k
      rw [k] at hs
      have : b0.st = [] := rfl
      rw [this] at hs
      simp at hs
section
variable {w : World} {v : Value} {D : FnD} (h : FnOk' w v D)
include h
theorem ln_open {n : Nat} {x : List Value} (hx : lnN D.bs n = some x) : ∃ b, b ∈ D.bs ∧ ∃ st, st ∈ b.st ∧ ∃ (a c d e : Int) (u : Bool), stN D.bs n = some st ∧ isRef st = true ∧ x = [.int .i64 (n : Nat), .int .i64 a, .bool u, .int .u8 c, .int .u8 d, .int .i64 e] ∧ d = cellI st 6 ∧ e = if whole st then cellI st 1 else -1 := by
  obtain ⟨st, h1, h2, rfl⟩ := ln_of hx
  obtain ⟨b, hb, hs⟩ := st_mem h1
  obtain ⟨x0, x1, x3, x4, x6, x17, x19, d2, d18, v5, v7, v8, v9, v10, v11, v12, v13, v14, v15, v16, v20, v21, v22, v23, v24, v25, hel, _⟩ := stm_open ((h.blk b hb).skd st hs)
  refine ⟨b, hb, st, hs, x17, x19, x6, if whole st then cellI st 1 else -1, d18, h1, h2, ?_, by rw [hel]; rfl, rfl⟩
  have e : lnS n st = [.int .i64 n, cel st 17, cel st 18, cel st 19, cel st 6, .int .i64 (if whole st then cellI st 1 else -1)] := rfl
  rw [e]
  have e17 : cel st 17 = .int .i64 x17 := by rw [hel]; rfl
  have e18 : cel st 18 = .bool d18 := by rw [hel]; rfl
  have e19 : cel st 19 = .int .u8 x19 := by rw [hel]; rfl
  have e6 : cel st 6 = .int .u8 x6 := by rw [hel]; rfl
  rw [e17, e18, e19, e6]
theorem two_loan (hc : check.chkF D = 0) {n : Nat} {x : List Value} (hx : lnN D.bs n = some x) (h3 : boT x = true) : ∃ j : Nat, j < 16 ∧ cellI x 5 = (j : Int) ∧ 1 ≤ j ∧ (j : Int) ∈ twosL.locs D ∧ (twos.Ct.fn D).i j = true := by
  obtain ⟨b, hb, st, hs, a, c, d, e, u, h1, h2, rfl, hd, he⟩ := ln_open h hx
  have hd3 : d = 3 := of_decide_eq_true h3
  have ht : twos.twoB st = true := by rw [ref_two h2]; exact decide_eq_true (by omega)
  obtain ⟨j, q1, q2, q3, q4, q5, q6, _⟩ := two_j h hc hb hs ht
  refine ⟨j, q1, ?_, ?_, ?_, q4⟩
  · show e = (j : Int)
    rw [he, q5, if_pos rfl, q2]
  · have hp : 0 ≤ D.p := by
      have hm := (size.of_chk hc).2.1
      unfold made.madeF head.headF head.guard at hm
      simp only [Bool.and_eq_true, decide_eq_true_eq, Bool.not_eq_true'] at hm
      omega
    omega
  · have := incr_mem (twosL.bits D) 0 j (by rw [bits_i D q1, q4])
    rw [Nat.zero_add] at this
    exact this
theorem two_alone (hc : check.chkF D = 0) {N k i : Nat} (hN : N ≤ sizeN D) {x y : List Value} (hx : (lns D.bs N)[k]? = some x) (hy : (lns D.bs N)[i]? = some y) (hik : i ≠ k) (h3 : boT x = true) : cellI y 5 ≠ cellI x 5 := by
  intro heq
  obtain ⟨n1, p1, p2, p3⟩ := lns_idx hx
  obtain ⟨n2, r1, r2, r3⟩ := lns_idx hy
  have hne : n1 ≠ n2 := fun e => by subst e; omega
  obtain ⟨j, q1, q2, _, _, q4⟩ := two_loan h hc p2 h3
  obtain ⟨b1, hb1, st1, hs1, a1, c1, d1, e1, u1, s1, s2, rfl, _, he1⟩ := ln_open h p2
  obtain ⟨b2, hb2, st2, hs2, a2, c2, d2, e2, u2, t1, t2, rfl, _, he2⟩ := ln_open h r2
  have g1 : e1 = (j : Int) := q2
  have g2 : e2 = (j : Int) := heq.trans q2
  have isw : ∀ (st : List Value) (e : Int), isRef st = true → e = (if whole st then cellI st 1 else -1) → e = (j : Int) → refW st j = true := fun st e hr he hj => by
    unfold refW
    cases hw : whole st with
    | true => rw [hw, if_pos rfl] at he; rw [hr, ← he, hj]; simp
    | false => rw [hw, if_neg (by decide)] at he; omega
  have hr := ((law_two h hc q1).1 q4).2.1
  have hsum := sum_pts (fun st => b2i (refW st j)) D
  have h2 := two_pts (f := fun n => opt (fun st => b2i (refW st j)) (stN D.bs n)) (fun n => by
    cases hs : stN D.bs n with
    | none => exact Int.le_refl _
    | some st => exact (b01 _).1) (N := sizeN D) (by omega) (by omega) hne
    (by show 1 ≤ opt _ (stN D.bs n1); rw [s1]; show 1 ≤ b2i (refW st1 j); rw [isw st1 e1 s2 he1 g1]; decide)
    (by show 1 ≤ opt _ (stN D.bs n2); rw [t1]; show 1 ≤ b2i (refW st2 j); rw [isw st2 e2 t2 he2 g2]; decide)
  rw [hsum] at h2
  unfold refF at hr
  omega
theorem two_count (hc : check.chkF D = 0) : acc (fun x => b2i (boT x)) (lns D.bs (sizeN D)) = ((twosL.locs D).length : Int) := by
  unfold lns twosL.locs
  rw [incr_acc, acc_fm]
  have e1 : acc (fun n => opt (fun x => b2i (boT x)) (lnN D.bs n)) (List.range (sizeN D)) = acc (fun n => opt (fun st => b2i (twos.twoB st)) (stN D.bs n)) (List.range (sizeN D)) := by
    refine acc_eq fun n _ => ?_
    cases hs : stN D.bs n with
    | none => rw [ln_none hs]; rfl
    | some st =>
      cases hr : isRef st with
      | false =>
        rw [ln_no hs hr]
        show (0 : Int) = b2i (twos.twoB st)
        have : twos.twoB st = false := by
          rw [two_is]
          unfold isRef at hr
          cases h1 : decide (cellI st 0 = 1) <;> cases h4 : decide (cellI st 4 = 4) <;> rw [h1, h4] at hr <;> first | rfl | cases hr
        rw [this]
        rfl
      | true =>
        have hl := ln_some hs hr
        obtain ⟨b, hb, st', hs', a, c, d, e, u, h1, h2, hx, hd, he⟩ := ln_open h hl
        rw [hs] at h1
        cases h1
        rw [hl, hx]
        show b2i (decide (d = 3)) = b2i (twos.twoB st)
        rw [ref_two hr, hd]
  rw [e1, sum_pts]
  have e2 : acc (fun b : BlkD => acc (fun st => b2i (twos.twoB st)) b.st) D.bs = acc (fun b : BlkD => acc (fun j => borB b j) (List.range 16)) D.bs := by
    refine acc_eq fun b hb => ?_
    have : acc (fun j => borB b j) (List.range 16) = acc (fun st => acc (fun j => b2i (twos.isS st j)) (List.range 16)) b.st := acc_swap (fun st j => b2i (twos.isS st j)) b.st (List.range 16)
    rw [this]
    refine acc_eq fun st hs => ?_
    have r := st_range ((h.blk b hb).skd st hs) (stms_ok hc b hb st hs) (c := 1) (by simp)
    have hi : ∀ j, twos.isS st j = (twos.twoB st && decide (cellI st 1 = (j : Int))) := fun _ => rfl
    cases ht : twos.twoB st with
    | false =>
      have : acc (fun j => b2i (twos.isS st j)) (List.range 16) = acc (fun j => (0 : Int)) (List.range 16) := acc_eq fun j _ => by rw [hi, ht]; rfl
      rw [this]
      decide
    | true =>
      have : acc (fun j => b2i (twos.isS st j)) (List.range 16) = acc (fun j : Nat => b2i (decide (cellI st 1 = (j : Int)))) (List.range 16) := acc_eq fun j _ => by rw [hi, ht, Bool.true_and]
      rw [this, one_j (by omega) (by omega)]
      rfl
  rw [e2, ← acc_swap (fun b j => borB b j) D.bs (List.range 16)]
  unfold twosL.bits
  rw [acc_map']
  refine acc_eq fun j hj => ?_
  have hj := List.mem_range.1 hj
  have hl := law_two h hc hj
  show borF D j = _
  cases hi : (twos.Ct.fn D).i j with
  | true => rw [(hl.1 hi).1]; rfl
  | false => rw [hl.2 hi]; rfl
theorem locs_less (hc : check.chkF D = 0) : (twosL.locs D).length ≤ D.ls.length := by
  have key : ∀ m : Nat, acc (fun j : Nat => b2i (decide (j < D.ls.length))) (List.range m) ≤ D.ls.length ∧ acc (fun j : Nat => b2i (decide (j < D.ls.length))) (List.range m) ≤ m := fun m => by
    induction m with
    | zero => exact ⟨by show (0 : Int) ≤ _; omega, Int.le_refl _⟩
    | succ m ih =>
      rw [List.range_succ, acc_app]
      show _ + (b2i (decide (m < D.ls.length)) + 0) ≤ _ ∧ _ + (b2i (decide (m < D.ls.length)) + 0) ≤ _
      by_cases hm : m < D.ls.length
      · rw [decide_eq_true hm]
        show _ + ((1 : Int) + 0) ≤ _ ∧ _ + ((1 : Int) + 0) ≤ _
        omega
      · rw [decide_eq_false hm]
        show _ + ((0 : Int) + 0) ≤ _ ∧ _ + ((0 : Int) + 0) ≤ _
        omega
  have hi := incr_acc (twosL.bits D) 0
  have hm : acc b2i (twosL.bits D) ≤ acc (fun j : Nat => b2i (decide (j < D.ls.length))) (List.range 16) := by
    unfold twosL.bits
    rw [acc_map']
    refine acc_mono fun j hj => ?_
    show b2i ((twos.Ct.fn D).i j) ≤ b2i (decide (j < D.ls.length))
    cases hi : (twos.Ct.fn D).i j with
    | false => exact (b01 _).1
    | true =>
      rw [(ct_is D j).2.2.2] at hi
      obtain ⟨b, hb, hi⟩ := List.any_eq_true.1 hi
      obtain ⟨st, hs, hi⟩ := List.any_eq_true.1 hi
      have hi2 : (twos.twoB st && decide (cellI st 1 = (j : Int))) = true := hi
      rw [Bool.and_eq_true, decide_eq_true_eq] at hi2
      obtain ⟨j', _, q2, _, _, _, _, q7⟩ := two_j h hc hb hs hi2.1
      rw [decide_eq_true (by omega : j < D.ls.length)]
      exact Int.le_refl _
  have := (key 16).1
  unfold twosL.locs
  omega
end
def fnd (L : List (List Value)) (k : Nat) : Int := acc (fun x => b2i (boT x)) (L.take k)
theorem fnd_next {L : List (List Value)} {k : Nat} {x : List Value} (h : L[k]? = some x) : fnd L (k + 1) = fnd L k + b2i (boT x) := by
  unfold fnd
  rw [List.take_add_one, h, acc_app]
  show _ + (b2i (boT x) + 0) = _
  omega
theorem fnd_le {L : List (List Value)} (k : Nat) : 0 ≤ fnd L k ∧ fnd L k ≤ acc (fun x => b2i (boT x)) L ∧ fnd L k ≤ k := by
  refine ⟨acc_zero fun x _ => (b01 _).1, ?_, ?_⟩
  · have e : acc (fun x => b2i (boT x)) L = acc (fun x => b2i (boT x)) (L.take k) + acc (fun x => b2i (boT x)) (L.drop k) := by rw [← acc_app, List.take_append_drop]
    have := acc_zero (f := fun x => b2i (boT x)) (l := L.drop k) fun x _ => (b01 _).1
    unfold fnd
    omega
  · have h1 := acc_mono (f := fun x => b2i (boT x)) (g := fun _ => (1 : Int)) (l := L.take k) fun x _ => (b01 _).2
    have h2 : ∀ l : List (List Value), acc (fun _ => (1 : Int)) l = (l.length : Int) := fun l => by
      induction l with
      | nil => rfl
      | cons x l ih => show (1 : Int) + _ = _; rw [ih, List.length_cons]; omega
    rw [h2, List.length_take] at h1
    unfold fnd
    omega
end Go.Proofs.YthdcahkedlijpaaGreat.ltwo
