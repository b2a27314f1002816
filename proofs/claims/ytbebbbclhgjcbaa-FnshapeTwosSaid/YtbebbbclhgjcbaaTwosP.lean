/- FnshapeTwos, plain: how often a two-phase local is borrowed and moved; and a function whose two-phase borrows are mutable ones. -/
import Derived.Test.YtbebbbclhgjcbaaStM
import Derived.Test.YtbebbbclhgjcbaaJump4C
import Derived.Test.YtbebbbclhgjcbaaMoreA
import Derived.Test.YtbebbbclhgjcbaaOwn
namespace Go.Proofs.Ytbebbbclhgjcbaa.two
open Go.RowKit Go.Proofs.Ytbebbbclhgjcbaa Go.Proofs.Ytbebbbclhgjcbaa.Am
set_option maxRecDepth 100000
set_option linter.unusedVariables false
set_option linter.unusedSectionVars false
set_option linter.unusedSimpArgs false
def mvS (st : List Value) : List Int := stM (stOf st)
def mvJ (b : BlkD) : List Int := incT (movesJ b.pre b.ops b.post)
theorem b01 (b : Bool) : 0 ≤ b2i b ∧ b2i b ≤ 1 := b2i_le b
theorem cnt_cons (a : Int) (l : List Int) (j : Nat) : cnt (a :: l) j = b2i (decide (a = (j : Int))) + cnt l j := rfl
theorem cnt_nil (j : Nat) : cnt [] j = 0 := rfl
theorem cnt_app (a b : List Int) (j : Nat) : cnt (a ++ b) j = cnt a j + cnt b j := acc_app _ a b
theorem cnt_ge (l : List Int) (j : Nat) : 0 ≤ cnt l j := by
  induction l with
  | nil => exact Int.le_refl _
  | cons a l ih => rw [cnt_cons]; have := b01 (decide (a = (j : Int))); omega
theorem cnt_insU (a : Int) (j : Nat) : ∀ l : List Int, cnt (insU a l) j ≤ b2i (decide (a = (j : Int))) + cnt l j
  | [] => Int.le_refl _
  | b :: r => by
    have ih := cnt_insU a j r
    have h1 := b01 (decide (a = (j : Int)))
    unfold insU
    split
    · rw [cnt_cons]; exact Int.le_refl _
    · split
      · omega
      · rw [cnt_cons, cnt_cons]; omega
theorem cnt_srtU (j : Nat) : ∀ l : List Int, cnt (srtU l) j ≤ cnt l j
  | [] => Int.le_refl _
  | a :: r => by
    have ih := cnt_srtU j r
    have := cnt_insU a j (srtU r)
    show cnt (insU a (srtU r)) j ≤ _
    rw [cnt_cons]
    omega
theorem cnt_take (j n : Nat) : ∀ l : List Int, cnt (l.take n) j ≤ cnt l j := fun l => by
  have := cnt_app (l.take n) (l.drop n) j
  rw [List.take_append_drop] at this
  have := cnt_ge (l.drop n) j
  omega
/-! statements -/
theorem two_is (st : List Value) : twos.twoB st = (decide (cellI st 0 = 1) && (decide (cellI st 4 = 4) && decide (cellI st 6 = 3))) := by
  unfold twos.twoB
  simp only [twos.twoE, ands, isE, E.num, List.all_cons, List.all_nil, Bool.and_true]
theorem pass_is (st : List Value) : twos.passB st = (decide (cellI st 0 = 1) && (decide (cellI st 4 = 1) && (decide (cellI st 7 = 3) && (decide (cellI st 10 = 0) && decide (cellI st 11 = 0))))) := by
  unfold twos.passB
  simp only [twos.passE, ands, isE, E.num, List.all_cons, List.all_nil, Bool.and_true]
theorem mvS_is (st : List Value) : mvS st = if cellI st 0 = 1 then (if cellI st 4 = 1 then (if cellI st 7 = 3 then [cellI st 9] else []) else if cellI st 4 = 2 ∨ cellI st 4 = 3 then srtU ((if cellI st 7 = 3 then [cellI st 9] else []) ++ (if cellI st 12 = 3 then [cellI st 14] else [])) else []) else if cellI st 0 = 3 then [] else if cellI st 20 = 3 then [cellI st 22] else [] := rfl
theorem st_k0 {st : List Value} (hv : okStE.val st = true) : cellI st 0 = 1 ∨ cellI st 0 = 2 ∨ cellI st 0 = 3 ∨ cellI st 0 = 4 := by
  simp only [okStE, E.ands, E.val, List.all_cons, List.all_nil, Bool.and_true, Bool.or_eq_true, Bool.and_eq_true, decide_eq_true_eq] at hv
  rcases hv with h | h | h
  · exact .inl h.1
  · rcases h.1 with h | h
    · exact .inr (.inl h)
    · exact .inr (.inr (.inr h))
  · exact .inr (.inr (.inl h.1))
structure StSum (st : List Value) (j : Nat) : Prop where
  bor : b2i (twos.isS st j) + twos.passS st j ≤ twos.occS st j
  mov : cnt (mvS st) j + twos.setS st j ≤ twos.occS st j
  pas : twos.passS st j ≤ cnt (mvS st) j
  set : twos.setS st j ≤ b2i (twos.isS st j)
theorem st_sum {st : List Value} (h : All2 Kd.ok kS26 st) (hv : okStE.val st = true) (j : Nat) : StSum st j := by
  have kd := refC.st_kind h hv
  have h1 := b01 (decide (cellI st 1 = (j : Int)))
  have h9 := b01 (decide (cellI st 9 = (j : Int)))
  have h14 := b01 (decide (cellI st 14 = (j : Int)))
  have h17 := b01 (decide (cellI st 17 = (j : Int)))
  have h22 := b01 (decide (cellI st 22 = (j : Int)))
  have h25 := b01 (decide (cellI st 25 = (j : Int)))
  have e0 : b2i false = 0 := rfl
  have hset : twos.setS st j ≤ b2i (twos.isS st j) := by
    unfold twos.setS twos.isS twos.setB
    cases twos.twoB st <;> cases decide (cellI st 1 = (j : Int)) <;> simp [b2i] <;> generalize (decide (cellI st 2 = 0) && (decide (cellI st 3 = 0) && !decide (cellI st 17 = cellI st 1))) = x <;> cases x <;> decide
  have hsrt := cnt_srtU j ((if cellI st 7 = 3 then [cellI st 9] else []) ++ (if cellI st 12 = 3 then [cellI st 14] else []))
  have key : b2i (twos.isS st j) + twos.passS st j ≤ twos.occS st j ∧ cnt (mvS st) j + b2i (twos.isS st j) ≤ twos.occS st j ∧ twos.passS st j ≤ cnt (mvS st) j := by
    have hocc : twos.occS st j = cnt ((twos.locsOf (twos.stState st)).map (cellI st)) j := rfl
    have hpas : twos.passS st j = b2i (twos.passB st && decide (cellI st 9 = (j : Int))) := rfl
    have his : twos.isS st j = (twos.twoB st && decide (cellI st 1 = (j : Int))) := rfl
    rw [hocc, hpas, his, refC.state_is, two_is, pass_is, mvS_is]
    rcases st_k0 hv with k | k | k | k
    · obtain ⟨k1, k2⟩ := kd k
      have h4 : cellI st 4 = 1 ∨ cellI st 4 = 2 ∨ cellI st 4 = 3 ∨ cellI st 4 = 4 ∨ cellI st 4 = 5 := by omega
      rcases h4 with h4 | h4 | h4 | h4 | h4
      · by_cases h7 : cellI st 7 = 1
        · simp [k, h4, h7, twos.stateOf, twos.locsOf, cnt_cons, cnt_nil, e0]; omega
        · by_cases h73 : cellI st 7 = 3
          · cases decide (cellI st 10 = 0) <;> cases decide (cellI st 11 = 0) <;> simp [k, h4, h73, twos.stateOf, twos.locsOf, cnt_cons, cnt_nil, e0] <;> omega
          · simp [k, h4, h7, h73, twos.stateOf, twos.locsOf, cnt_cons, cnt_nil, e0]; omega
      · rw [if_pos k, if_neg (by omega), if_pos (by omega)]
        have hS0 := cnt_ge (srtU ((if cellI st 7 = 3 then [cellI st 9] else []) ++ (if cellI st 12 = 3 then [cellI st 14] else []))) j
        generalize cnt (srtU ((if cellI st 7 = 3 then [cellI st 9] else []) ++ (if cellI st 12 = 3 then [cellI st 14] else []))) j = S at hsrt hS0 ⊢
        by_cases h7 : cellI st 7 = 1 <;> by_cases h12 : cellI st 12 = 1 <;> by_cases h73 : cellI st 7 = 3 <;> by_cases h123 : cellI st 12 = 3 <;> first | (exfalso; omega) | (simp [k, h4, h7, h12, h73, h123, twos.stateOf, twos.locsOf, cnt_cons, cnt_nil, e0] at hsrt ⊢; omega)
      · rw [if_pos k, if_neg (by omega), if_pos (by omega)]
        have hS0 := cnt_ge (srtU ((if cellI st 7 = 3 then [cellI st 9] else []) ++ (if cellI st 12 = 3 then [cellI st 14] else []))) j
        generalize cnt (srtU ((if cellI st 7 = 3 then [cellI st 9] else []) ++ (if cellI st 12 = 3 then [cellI st 14] else []))) j = S at hsrt hS0 ⊢
        by_cases h7 : cellI st 7 = 1 <;> by_cases h12 : cellI st 12 = 1 <;> by_cases h73 : cellI st 7 = 3 <;> by_cases h123 : cellI st 12 = 3 <;> first | (exfalso; omega) | (simp [k, h4, h7, h12, h73, h123, twos.stateOf, twos.locsOf, cnt_cons, cnt_nil, e0] at hsrt ⊢; omega)
      · cases decide (cellI st 6 = 3) <;> simp [k, h4, twos.stateOf, twos.locsOf, cnt_cons, cnt_nil, e0] <;> omega
      · simp [k, h4, twos.stateOf, twos.locsOf, cnt_cons, cnt_nil, e0]; omega
    · by_cases h20 : cellI st 20 = 1
      · simp [k, h20, twos.stateOf, twos.locsOf, cnt_cons, cnt_nil, e0]
      · by_cases h3 : cellI st 20 = 3 <;> simp [k, h20, h3, twos.stateOf, twos.locsOf, cnt_cons, cnt_nil, e0] <;> omega
    · simp [k, twos.stateOf, twos.locsOf, cnt_cons, cnt_nil, e0]; omega
    · by_cases h20 : cellI st 20 = 1
      · simp [k, h20, twos.stateOf, twos.locsOf, cnt_cons, cnt_nil, e0]
      · by_cases h3 : cellI st 20 = 3 <;> simp [k, h20, h3, twos.stateOf, twos.locsOf, cnt_cons, cnt_nil, e0] <;> omega
  exact ⟨key.1, by omega, key.2.2, hset⟩
/-! jumps -/
def jA (b : BlkD) (j : Nat) : Int := if cellI b.pre 0 = 2 then (if cellI b.pre 1 = 1 then 0 else b2i (decide (cellI b.pre 3 = (j : Int)))) else if cellI b.pre 0 = 4 then b2i (decide (cellI b.post 0 = (j : Int))) + acc (fun op => twos.opOcc op j) b.ops else 0
def jP (b : BlkD) (j : Nat) : Int := if cellI b.pre 0 = 2 then 0 else if cellI b.pre 0 = 4 then acc (fun op => twos.opPass op j) b.ops else 0
theorem acc_mono {α : Type} {f g : α → Int} : ∀ {l : List α}, (∀ x ∈ l, f x ≤ g x) → acc f l ≤ acc g l
  | [], _ => Int.le_refl _
  | x :: l, h => by
    have h1 := h x (by simp)
    have h2 := acc_mono (f := f) (g := g) (l := l) fun y hy => h y (by simp [hy])
    show f x + acc f l ≤ g x + acc g l
    omega
theorem acc_plus {α : Type} (f g : α → Int) : ∀ l : List α, acc (fun x => f x + g x) l = acc f l + acc g l
  | [] => rfl
  | x :: l => by
    have := acc_plus f g l
    show f x + g x + acc _ l = f x + acc f l + (g x + acc g l)
    omega
theorem acc_zero {α : Type} {f : α → Int} : ∀ {l : List α}, (∀ x ∈ l, 0 ≤ f x) → 0 ≤ acc f l
  | [], _ => Int.le_refl _
  | x :: l, h => by
    have h1 := h x (by simp)
    have h2 := acc_zero (f := f) (l := l) fun y hy => h y (by simp [hy])
    show 0 ≤ f x + acc f l
    omega
theorem acc_some {α : Type} {f : α → Int} : ∀ {l : List α}, 0 < acc f l → ∃ x ∈ l, 0 < f x
  | [], h => absurd h (Int.lt_irrefl 0)
  | x :: l, h => by
    have h : 0 < f x + acc f l := h
    rcases Int.lt_or_le 0 (f x) with hx | hx
    · exact ⟨x, by simp, hx⟩
    · obtain ⟨y, hy, e⟩ := acc_some (f := f) (l := l) (by omega)
      exact ⟨y, by simp [hy], e⟩
theorem acc_of {α : Type} {f : α → Int} : ∀ {l : List α} {x : α}, (∀ x ∈ l, 0 ≤ f x) → x ∈ l → 0 < f x → 0 < acc f l
  | [], _, _, h, _ => by cases h
  | y :: l, x, h0, hm, hx => by
    have h1 := h0 y (by simp)
    have h2 := acc_zero (f := f) (l := l) fun z hz => h0 z (by simp [hz])
    show 0 < f y + acc f l
    rcases List.mem_cons.1 hm with rfl | hm
    · omega
    · have := acc_of (f := f) (l := l) (fun z hz => h0 z (by simp [hz])) hm hx
      omega
theorem cnt_incr (j : Nat) : ∀ (bs : List Bool) (i : Nat), cnt (incr i bs) j = if i ≤ j then b2i (bs.getD (j - i) false) else 0
  | [], i => by simp [incr, cnt_nil, b2i]
  | b :: t, i => by
    have ih := cnt_incr j t (i + 1)
    have e : incr i (b :: t) = (bif b then [(i : Int)] else []) ++ incr (i + 1) t := rfl
    have e0 : b2i false = 0 := rfl
    rw [e, cnt_app, ih]
    by_cases h : i = j
    · subst h
      rw [if_neg (by omega), if_pos (Nat.le_refl _)]
      cases b <;> simp [cnt_cons, cnt_nil, b2i]
    · have hd : decide ((i : Int) = (j : Int)) = false := decide_eq_false (by omega)
      have h0 : cnt (bif b then [(i : Int)] else []) j = 0 := by cases b <;> simp [cnt_cons, cnt_nil, hd, e0]
      rw [h0]
      by_cases h2 : i ≤ j
      · rw [if_pos h2, if_pos (by omega), show j - i = (j - (i + 1)) + 1 by omega, List.getD_cons_succ]
        omega
      · rw [if_neg h2, if_neg (by omega)]
        rfl
theorem mvJ_cnt (b : BlkD) {j : Nat} (hj : j < 16) : cnt (mvJ b) j = b2i (decide ((j : Int) ∈ movesJ b.pre b.ops b.post)) := by
  unfold mvJ incT
  rw [cnt_incr, if_pos (Nat.zero_le _), Nat.sub_zero, List.getD_eq_getElem?_getD, boolsT_at hj]
  rfl
theorem told_cnt {sel : Int → Bool} (j : Nat) (l : List (List Value)) (h : (j : Int) ∈ toldL sel l) : ∃ op ∈ l, sel (cellI op 0) = true ∧ cellI op 2 = (j : Int) := by
  unfold toldL at h
  obtain ⟨op, hop, hm⟩ := List.mem_flatMap.1 h
  refine ⟨op, hop, ?_⟩
  cases hs : sel (cellI op 0) with
  | false => rw [hs] at hm; cases hm
  | true =>
    rw [hs] at hm
    exact ⟨rfl, (List.mem_singleton.1 hm).symm⟩
structure JmSum (b : BlkD) (j : Nat) : Prop where
  mov : cnt (mvJ b) j ≤ jA b j
  pas : 0 < jP b j → 0 < cnt (mvJ b) j
  les : jP b j ≤ jA b j
  pos : 0 ≤ cnt (mvJ b) j
theorem opPass_le (op : List Value) (j : Nat) : 0 ≤ twos.opPass op j ∧ twos.opPass op j ≤ twos.opOcc op j := by
  unfold twos.opPass twos.opOcc twos.opPassB
  by_cases h3 : cellI op 0 = 3
  · cases decide (cellI op 2 = (j : Int)) <;> cases decide (cellI op 3 = 0) <;> cases decide (cellI op 4 = 0) <;> simp [h3, b2i]
  · simp only [decide_eq_false h3, Bool.false_and]
    have := b01 (!decide (cellI op 0 = 1) && decide (cellI op 2 = (j : Int)))
    have e0 : b2i false = 0 := rfl
    omega
theorem drop_at {pre : List Value} (hl : pre.length = 9) (i : Nat) (hi : i < 5) : cellI ((pre.drop 1).take 5) i = cellI pre (1 + i) := by
  unfold cellI
  rw [List.getElem?_take, if_pos hi, List.getElem?_drop]
theorem jm_sum {b : BlkD} (hl : b.pre.length = 9) (hm : cellI b.pre 0 ≠ 2 → cellI b.pre 0 ≠ 4 → b.ops = []) {j : Nat} (hj : j < 16) : JmSum b j := by
  have e1 := mvJ_cnt b hj
  have hb := b01 (decide ((j : Int) ∈ movesJ b.pre b.ops b.post))
  have hoA := acc_zero (f := fun op => twos.opOcc op j) (l := b.ops) fun op _ => by have := opPass_le op j; show 0 ≤ twos.opOcc op j; omega
  have hpA := acc_mono (f := fun op => twos.opPass op j) (g := fun op => twos.opOcc op j) (l := b.ops) fun op _ => (opPass_le op j).2
  have hd := b01 (decide (cellI b.post 0 = (j : Int)))
  have ht : b2i true = 1 := rfl
  have hf : b2i false = 0 := rfl
  by_cases h2 : cellI b.pre 0 = 2
  · have hA : jA b j = if cellI b.pre 1 = 1 then 0 else b2i (decide (cellI b.pre 3 = (j : Int))) := if_pos h2
    have hP : jP b j = 0 := if_pos h2
    have h3 := b01 (decide (cellI b.pre 3 = (j : Int)))
    have hA0 : 0 ≤ jA b j := by rw [hA]; split <;> omega
    refine ⟨?_, fun h => absurd h (by omega), by omega, by omega⟩
    cases hm' : decide ((j : Int) ∈ movesJ b.pre b.ops b.post) with
    | false => rw [e1, hm']; omega
    | true =>
      have hmem := of_decide_eq_true hm'
      unfold movesJ partsJ at hmem
      rw [if_pos h2] at hmem
      obtain ⟨op, hop, s1, s2⟩ := told_cnt j _ hmem
      obtain rfl := List.mem_singleton.1 hop
      rw [drop_at hl 0 (by decide)] at s1
      rw [drop_at hl 2 (by decide)] at s2
      have s1 : cellI b.pre 1 = 3 := by simpa [selM] using s1
      have s2 : cellI b.pre 3 = (j : Int) := s2
      rw [e1, hm', hA, if_neg (by omega), decide_eq_true s2]
      exact Int.le_refl _
  · by_cases h4 : cellI b.pre 0 = 4
    · have hA : jA b j = b2i (decide (cellI b.post 0 = (j : Int))) + acc (fun op => twos.opOcc op j) b.ops := by unfold jA; rw [if_neg h2, if_pos h4]
      have hP : jP b j = acc (fun op => twos.opPass op j) b.ops := by unfold jP; rw [if_neg h2, if_pos h4]
      have hM : movesJ b.pre b.ops b.post = toldL selM b.ops := by unfold movesJ partsJ; rw [if_neg h2]
      refine ⟨?_, fun h => ?_, by omega, by omega⟩
      · cases hm' : decide ((j : Int) ∈ movesJ b.pre b.ops b.post) with
        | false => rw [e1, hm']; omega
        | true =>
          have hmem := of_decide_eq_true hm'
          rw [hM] at hmem
          obtain ⟨op, hop, s1, s2⟩ := told_cnt j _ hmem
          have s1 : cellI op 0 = 3 := by simpa [selM] using s1
          have : 0 < acc (fun op => twos.opOcc op j) b.ops := acc_of (fun op _ => by have := opPass_le op j; show 0 ≤ twos.opOcc op j; omega) hop (by
            show 0 < twos.opOcc op j
            unfold twos.opOcc
            rw [s1, decide_eq_true s2]
            decide)
          rw [e1, hm']
          omega
      · rw [hP] at h
        obtain ⟨op, hop, e⟩ := acc_some h
        have e : 0 < twos.opPass op j := e
        unfold twos.opPass twos.opPassB at e
        have e' : (decide (cellI op 0 = 3) && (decide (cellI op 3 = 0) && decide (cellI op 4 = 0)) && decide (cellI op 2 = (j : Int))) = true := by
          cases hx : (decide (cellI op 0 = 3) && (decide (cellI op 3 = 0) && decide (cellI op 4 = 0)) && decide (cellI op 2 = (j : Int))) with
          | true => rfl
          | false => rw [hx, hf] at e; omega
        simp only [Bool.and_eq_true, decide_eq_true_eq] at e'
        have hmem : (j : Int) ∈ movesJ b.pre b.ops b.post := by
          rw [hM]
          unfold toldL
          refine List.mem_flatMap.2 ⟨op, hop, ?_⟩
          rw [e'.1.1]
          show (j : Int) ∈ [cellI op 2]
          rw [e'.2]
          simp
        rw [e1, decide_eq_true hmem]
        omega
    · have ho := hm h2 h4
      have hA : jA b j = 0 := by unfold jA; rw [if_neg h2, if_neg h4]
      have hP : jP b j = 0 := by unfold jP; rw [if_neg h2, if_neg h4]
      have hM : movesJ b.pre b.ops b.post = [] := by unfold movesJ partsJ; rw [if_neg h2, ho]; rfl
      rw [hM] at e1
      have e2 : decide ((j : Int) ∈ ([] : List Int)) = false := by simp
      rw [e2] at e1
      refine ⟨by omega, fun h => absurd h (by omega), by omega, by omega⟩
/-! functions -/
def borB (b : BlkD) (j : Nat) : Int := acc (fun st => b2i (twos.isS st j)) b.st
def movB (b : BlkD) (j : Nat) : Int := acc (fun st => cnt (mvS st) j) b.st + cnt (mvJ b) j
def borF (D : FnD) (j : Nat) : Int := acc (fun b => borB b j) D.bs
def movF (D : FnD) (j : Nat) : Int := acc (fun b => movB b j) D.bs
def aB (b : BlkD) (j : Nat) : Int := acc (fun st => twos.occS st j) b.st + jA b j
def pB (b : BlkD) (j : Nat) : Int := acc (fun st => twos.passS st j) b.st + jP b j
def sB (b : BlkD) (j : Nat) : Int := acc (fun st => twos.setS st j) b.st
structure BlkSum (b : BlkD) (j : Nat) : Prop where
  bor : borB b j + pB b j ≤ aB b j
  mov : movB b j + sB b j ≤ aB b j
  set : sB b j ≤ borB b j
  pas : 0 < pB b j → 0 < movB b j
  posM : 0 ≤ movB b j
  posB : 0 ≤ borB b j
theorem blk_sum {b : BlkD} {j : Nat} (h1 : ∀ st ∈ b.st, StSum st j) (h2 : JmSum b j) : BlkSum b j := by
  have pB0 : 0 ≤ borB b j := acc_zero fun st _ => (b01 _).1
  have pM0 : 0 ≤ acc (fun st => cnt (mvS st) j) b.st := acc_zero fun st _ => cnt_ge _ _
  have k1 := acc_mono (f := fun st => b2i (twos.isS st j) + twos.passS st j) (g := fun st => twos.occS st j) (l := b.st) fun st hs => (h1 st hs).bor
  have k2 := acc_mono (f := fun st => cnt (mvS st) j + twos.setS st j) (g := fun st => twos.occS st j) (l := b.st) fun st hs => (h1 st hs).mov
  have k3 := acc_mono (f := fun st => twos.setS st j) (g := fun st => b2i (twos.isS st j)) (l := b.st) fun st hs => (h1 st hs).set
  have k4 := acc_mono (f := fun st => twos.passS st j) (g := fun st => cnt (mvS st) j) (l := b.st) fun st hs => (h1 st hs).pas
  rw [acc_plus] at k1 k2
  have q1 := h2.les
  have q2 := h2.mov
  have q3 := h2.pos
  have q4 := h2.pas
  unfold borB at pB0
  refine ⟨?_, ?_, k3, ?_, ?_, pB0⟩
  · unfold borB pB aB; omega
  · unfold movB sB aB; omega
  · unfold pB movB
    intro h
    rcases Int.lt_or_le 0 (jP b j) with hp | hp
    · have := q4 hp; omega
    · omega
  · unfold movB; omega
theorem jmp_a (C : twos.Ct) (b : BlkD) (j : Nat) : (C.jmp b).a j = C.a j + jA b j := by
  unfold twos.Ct.jmp jA
  split
  · split
    · omega
    · rfl
  · split
    · show bump C.a (cellI b.post 0) j + acc (fun op => twos.opOcc op j) b.ops = _
      unfold bump
      omega
    · omega
theorem jmp_p (C : twos.Ct) (b : BlkD) (j : Nat) : (C.jmp b).p j = C.p j + jP b j := by
  unfold twos.Ct.jmp jP
  split
  · split
    · omega
    · show C.p j = _; omega
  · split
    · rfl
    · omega
theorem jmp_s (C : twos.Ct) (b : BlkD) : (C.jmp b).s = C.s ∧ (C.jmp b).i = C.i := by
  unfold twos.Ct.jmp
  split
  · split <;> exact ⟨rfl, rfl⟩
  · split <;> exact ⟨rfl, rfl⟩
theorem fold_is (j : Nat) : ∀ (l : List BlkD) (C : twos.Ct), (l.foldl twos.Ct.blk C).a j = C.a j + acc (fun b => aB b j) l ∧ (l.foldl twos.Ct.blk C).p j = C.p j + acc (fun b => pB b j) l ∧ (l.foldl twos.Ct.blk C).s j = C.s j + acc (fun b => sB b j) l ∧ (l.foldl twos.Ct.blk C).i j = (C.i j || l.any fun b => b.st.any fun st => twos.isS st j)
  | [], C => ⟨(Int.add_zero _).symm, (Int.add_zero _).symm, (Int.add_zero _).symm, (Bool.or_false _).symm⟩
  | b :: l, C => by
    obtain ⟨h1, h2, h3, h4⟩ := fold_is j l (C.blk b)
    have e1 : (C.blk b).a j = C.a j + acc (fun st => twos.occS st j) b.st + jA b j := jmp_a _ b j
    have e2 : (C.blk b).p j = C.p j + acc (fun st => twos.passS st j) b.st + jP b j := jmp_p _ b j
    have e3 : (C.blk b).s j = C.s j + acc (fun st => twos.setS st j) b.st := congrFun (jmp_s (C.stm b.st) b).1 j
    have e4 : (C.blk b).i j = (C.i j || b.st.any fun st => twos.isS st j) := congrFun (jmp_s (C.stm b.st) b).2 j
    refine ⟨?_, ?_, ?_, ?_⟩
    · show (l.foldl twos.Ct.blk (C.blk b)).a j = C.a j + (aB b j + acc (fun b => aB b j) l)
      rw [h1, e1]; unfold aB; omega
    · show (l.foldl twos.Ct.blk (C.blk b)).p j = C.p j + (pB b j + acc (fun b => pB b j) l)
      rw [h2, e2]; unfold pB; omega
    · show (l.foldl twos.Ct.blk (C.blk b)).s j = C.s j + (sB b j + acc (fun b => sB b j) l)
      rw [h3, e3]; unfold sB; omega
    · show (l.foldl twos.Ct.blk (C.blk b)).i j = _
      rw [h4, e4, List.any_cons, Bool.or_assoc]
theorem ct_is (D : FnD) (j : Nat) : (twos.Ct.fn D).a j = acc (fun b => aB b j) D.bs ∧ (twos.Ct.fn D).p j = acc (fun b => pB b j) D.bs ∧ (twos.Ct.fn D).s j = acc (fun b => sB b j) D.bs ∧ (twos.Ct.fn D).i j = D.bs.any fun b => b.st.any fun st => twos.isS st j := by
  obtain ⟨h1, h2, h3, h4⟩ := fold_is j D.bs twos.Ct.nought
  have z : (0 : Int) + acc (fun b => aB b j) D.bs = acc (fun b => aB b j) D.bs := Int.zero_add _
  exact ⟨h1.trans (Int.zero_add _), h2.trans (Int.zero_add _), h3.trans (Int.zero_add _), h4.trans (Bool.false_or _)⟩
theorem bor_pos {D : FnD} {j : Nat} : 0 < borF D j ↔ (twos.Ct.fn D).i j = true := by
  rw [(ct_is D j).2.2.2, List.any_eq_true]
  constructor
  · intro h
    obtain ⟨b, hb, e⟩ := acc_some h
    obtain ⟨st, hs, e2⟩ := acc_some e
    refine ⟨b, hb, List.any_eq_true.2 ⟨st, hs, ?_⟩⟩
    cases hx : twos.isS st j with
    | true => rfl
    | false =>
      have e2 : 0 < b2i (twos.isS st j) := e2
      rw [hx] at e2
      exact absurd e2 (by decide)
  · rintro ⟨b, hb, e⟩
    obtain ⟨st, hs, e2⟩ := List.any_eq_true.1 e
    refine acc_of (fun b _ => acc_zero fun st _ => (b01 _).1) hb (acc_of (fun st _ => (b01 _).1) hs ?_)
    show 0 < b2i (twos.isS st j)
    rw [e2]
    decide
/-- how a local that is two-phase has been counted, and one that is none -/
theorem law_two {w : World} {v : Value} {D : FnD} (h : FnOk' w v D) (hc : check.chkF D = 0) {j : Nat} (hj : j < 16) :
    ((twos.Ct.fn D).i j = true → borF D j = 1 ∧ movF D j = 1 ∧ D.p < j) ∧ ((twos.Ct.fn D).i j = false → borF D j = 0) := by
  obtain ⟨_, hm, ht⟩ := size.of_chk hc
  have hok := check.okB_of hm
  have hb : ∀ b ∈ D.bs, BlkSum b j := fun b hb => by
    have ho := hok b hb
    unfold made.okB at ho
    rw [Bool.and_eq_true] at ho
    obtain ⟨i, hi⟩ := List.getElem?_of_mem hb
    have hl := (List.getElem?_eq_some_iff.1 hi).1
    have e : D.blk i = b := by unfold FnD.blk; rw [List.getD_eq_getElem?_getD, hi]; rfl
    have hjm := jump_is h hl
    rw [e] at hjm
    have hk := h.blk b hb
    exact blk_sum (fun st hs => st_sum (hk.skd st hs) (List.all_eq_true.1 ho.1 st hs) j) (jm_sum hk.prek.len.symm (fun _ h4 => (jm_more hjm ho.2).2.2 h4) hj)
  obtain ⟨c1, c2, c3, c4⟩ := ct_is D j
  have s1 := acc_mono (f := fun b => borB b j + pB b j) (g := fun b => aB b j) (l := D.bs) fun b hb' => (hb b hb').bor
  have s2 := acc_mono (f := fun b => movB b j + sB b j) (g := fun b => aB b j) (l := D.bs) fun b hb' => (hb b hb').mov
  have s3 := acc_mono (f := fun b => sB b j) (g := fun b => borB b j) (l := D.bs) fun b hb' => (hb b hb').set
  have s4 : 0 ≤ borF D j := acc_zero fun b hb' => (hb b hb').posB
  have s5 : 0 < acc (fun b => pB b j) D.bs → 0 < movF D j := fun hp => by
    obtain ⟨b, hb', e⟩ := acc_some hp
    exact acc_of (fun b hb'' => (hb b hb'').posM) hb' ((hb b hb').pas e)
  rw [acc_plus] at s1 s2
  constructor
  · intro hi
    have hp := bor_pos.2 hi
    have hg := List.all_eq_true.1 ht j (List.mem_range.2 hj)
    unfold twos.goodB at hg
    rw [hi, Bool.not_true, Bool.false_or] at hg
    simp only [Bool.and_eq_true, decide_eq_true_eq] at hg
    obtain ⟨g1, g2, g3, g4⟩ := hg
    rw [c1] at g2
    rw [c2] at g3
    rw [c3] at g4
    have g5 := s5 (by omega)
    unfold borF movF at *
    exact ⟨by omega, by omega, g1⟩
  · intro hi
    rcases Int.lt_or_le 0 (borF D j) with hp | hp
    · rw [bor_pos.1 hp] at hi; cases hi
    · omega
/-! the locals in order -/
theorem incr_app' : ∀ (a b : List Bool) (i : Nat), incr i (a ++ b) = incr i a ++ incr (i + a.length) b
  | [], b, i => by simp [incr]
  | c :: t, b, i => by
    have := incr_app' t b (i + 1)
    show (bif c then [(i : Int)] else []) ++ incr (i + 1) (t ++ b) = (bif c then [(i : Int)] else []) ++ incr (i + 1) t ++ _
    rw [this, List.append_assoc, List.length_cons, show i + 1 + t.length = i + (t.length + 1) by omega]
theorem locs_at {bs : List Bool} {t : Nat} (h : bs[t]? = some true) : (incr 0 bs)[(incr 0 (bs.take t)).length]? = some (t : Int) := by
  have hl := (List.getElem?_eq_some_iff.1 h).1
  have e : bs = bs.take t ++ (true :: bs.drop (t + 1)) := by
    conv => lhs; rw [← List.take_append_drop t bs]
    congr 1
    rw [List.drop_eq_getElem_cons hl]
    congr 1
    exact (List.getElem?_eq_some_iff.1 h).2
  have e2 : incr 0 bs = incr 0 (bs.take t) ++ (incr (0 + (bs.take t).length) (true :: bs.drop (t + 1))) := by
    conv => lhs; rw [e]
    exact incr_app' _ _ _
  rw [e2, List.getElem?_append_right (Nat.le_refl _), Nat.sub_self, List.length_take, Nat.min_eq_left (by omega), Nat.zero_add]
  rfl
/-! mutable ones in place of two-phase borrows -/
open own in
def mutS (st : List Value) : List Value := bif twos.twoB st then putL st 6 [u8 2] else st
def mutB (b : BlkD) : BlkD := { b with st := b.st.map mutS }
def mutF (D : FnD) : FnD := { D with bs := D.bs.map mutB }
theorem cell_put {st : List Value} (hl : st.length = 26) (c : Nat) : cellI (own.putL st 6 [u8 2]) c = if c = 6 then 2 else cellI st c := by
  unfold cellI own.putL
  by_cases h : c < 6
  · rw [if_neg (by omega), List.getElem?_append_left (by simp; omega), List.getElem?_take, if_pos h]
  · by_cases h6 : c = 6
    · subst h6
      rw [if_pos rfl, List.getElem?_append_right (by simp; omega), List.length_take, hl]
      rfl
    · rw [if_neg h6, List.getElem?_append_right (by simp; omega), List.length_take, hl, List.getElem?_append_right (by simp; omega), List.getElem?_drop]
      congr 2
      simp
      omega
theorem mut_two (st : List Value) (hl : st.length = 26) : twos.twoB (mutS st) = false := by
  unfold mutS
  cases h : twos.twoB st with
  | false => exact h
  | true =>
    rw [cond_true, two_is, cell_put hl, cell_put hl, cell_put hl]
    simp
theorem mut_near (nL : Int) (st : List Value) (hl : st.length = 26) : nearS nL (mutS st) = nearS nL st := by
  unfold mutS
  cases h : twos.twoB st with
  | false => rfl
  | true =>
    rw [cond_true, refC.near_is, refC.near_is]
    simp only [cell_put hl]
    rfl
theorem mut_ok (st : List Value) (hl : st.length = 26) (hv : okStE.val st = true) : okStE.val (mutS st) = true := by
  unfold mutS
  cases h : twos.twoB st with
  | false => exact hv
  | true =>
    rw [cond_true]
    rw [two_is] at h
    simp only [Bool.and_eq_true, decide_eq_true_eq] at h
    obtain ⟨k0, k4, k6⟩ := h
    simp [okStE, okRvE, okPlE, okOpE, zs, E.ands, E.val, k0, k4, k6, List.range, List.range.loop, cell_put hl] at hv ⊢
    exact hv
theorem mut_kind {st : List Value} (h : All2 Kd.ok kS26 st) : All2 Kd.ok kS26 (mutS st) := by
  unfold mutS
  cases twos.twoB st with
  | false => exact h
  | true =>
    obtain ⟨v0, l0, rfl, q0, h⟩ := all2_cons' h
    obtain ⟨v1, l1, rfl, q1, h⟩ := all2_cons' h
    obtain ⟨v2, l2, rfl, q2, h⟩ := all2_cons' h
    obtain ⟨v3, l3, rfl, q3, h⟩ := all2_cons' h
    obtain ⟨v4, l4, rfl, q4, h⟩ := all2_cons' h
    obtain ⟨v5, l5, rfl, q5, h⟩ := all2_cons' h
    obtain ⟨v6, l6, rfl, q6, h⟩ := all2_cons' h
    exact ⟨q0, q1, q2, q3, q4, q5, ⟨2, rfl, by decide, by decide⟩, h⟩
theorem isS_mut (st : List Value) (hl : st.length = 26) (j : Nat) : twos.isS (mutS st) j = false := by
  unfold twos.isS
  rw [mut_two st hl]
  rfl
theorem mut_i {D : FnD} (hl : ∀ b ∈ D.bs, ∀ st ∈ b.st, st.length = 26) (j : Nat) : (twos.Ct.fn (mutF D)).i j = false := by
  rw [(ct_is _ j).2.2.2]
  show (D.bs.map mutB).any _ = false
  rw [List.any_map, List.any_eq_false]
  intro b hb
  show ¬ (b.st.map mutS).any _ = true
  rw [List.any_map, Bool.not_eq_true, List.any_eq_false]
  intro st hs
  show ¬ twos.isS (mutS st) j = true
  rw [isS_mut st (hl b hb st hs)]
  simp
theorem mut_chk {D : FnD} (hl : ∀ b ∈ D.bs, ∀ st ∈ b.st, st.length = 26) (hc : check.chkF D = 0) : check.chkF (mutF D) = 0 := by
  obtain ⟨h1, h2, h3⟩ := size.of_chk hc
  obtain ⟨m1, m2, m3⟩ := many_not h1
  have hlen : (mutF D).bs.length = D.bs.length := by simp [mutF]
  refine chk_0 (many_mk m1 (by rw [hlen]; exact m2) ?_) ?_ ?_
  · show (D.bs.map mutB).all _ = true
    rw [List.all_map, List.all_eq_true]
    intro b hb
    have := List.all_eq_true.1 m3 b hb
    simp only [decide_eq_true_eq] at this
    show decide ((b.st.map mutS).length ≤ 24) = true
    rw [List.length_map]
    exact decide_eq_true this
  · unfold made.madeF at h2 ⊢
    simp only [Bool.and_eq_true] at h2 ⊢
    obtain ⟨g1, g2, g3, g4⟩ := h2
    refine ⟨g1, by rw [hlen]; exact g2, ?_, ?_⟩
    · show (D.bs.map mutB).all _ = true
      rw [List.all_map, List.all_eq_true]
      intro b hb
      have := List.all_eq_true.1 g3 b hb
      unfold made.okB at this
      rw [Bool.and_eq_true] at this
      show ((b.st.map mutS).all _ && okJF b) = true
      rw [List.all_map, Bool.and_eq_true]
      exact ⟨List.all_eq_true.2 fun st hs => mut_ok st (hl b hb st hs) (List.all_eq_true.1 this.1 st hs), this.2⟩
    · rw [hlen]
      show (D.bs.map mutB).all _ = true
      rw [List.all_map, List.all_eq_true]
      intro b hb
      have := List.all_eq_true.1 g4 b hb
      unfold made.outB at this
      rw [Bool.and_eq_true] at this
      show ((b.st.map mutS).all (nearS D.ls.length) && made.jumpF D.ls.length D.bs.length b) = true
      rw [List.all_map, Bool.and_eq_true]
      exact ⟨List.all_eq_true.2 fun st hs => (mut_near _ st (hl b hb st hs)).trans (List.all_eq_true.1 this.1 st hs), this.2⟩
  · unfold twos.twosF
    rw [List.all_eq_true]
    intro t _
    unfold twos.goodB
    rw [mut_i hl]
    rfl
theorem incr_no : ∀ (l : List Nat) (i : Nat), incr i (l.map fun _ => false) = []
  | [], _ => rfl
  | _ :: l, i => incr_no l (i + 1)
theorem mut_locs {D : FnD} (hl : ∀ b ∈ D.bs, ∀ st ∈ b.st, st.length = 26) : twosL.locs (mutF D) = [] := by
  unfold twosL.locs twosL.bits
  rw [show (List.range 16).map (fun j => (twos.Ct.fn (mutF D)).i j) = (List.range 16).map fun _ => false from List.map_congr_left fun j _ => mut_i hl j]
  exact incr_no _ _
/-! what can be counted fits -/
theorem cnt_len (l : List Int) (j : Nat) : cnt l j ≤ l.length := by
  induction l with
  | nil => exact Int.le_refl _
  | cons a l ih => rw [cnt_cons, List.length_cons]; have := b01 (decide (a = (j : Int))); omega
end Go.Proofs.Ytbebbbclhgjcbaa.two
