/- LoansTwo, plain: how often a two-phase local is the Local of a loan, and how many two-phase loans there are. -/
import Derived.Test.YthdcahkedlijpaaGreatLoanF
namespace Go.Proofs.YthdcahkedlijpaaGreat.ltwo
open Go.RowKit Go.Proofs.YthdcahkedlijpaaGreat Go.Proofs.YthdcahkedlijpaaGreat.Am Go.Proofs.YthdcahkedlijpaaGreat.loan
set_option maxRecDepth 100000
set_option linter.unusedVariables false
set_option linter.unusedSectionVars false
set_option linter.unusedSimpArgs false
theorem b01 (b : Bool) : 0 ≤ b2i b ∧ b2i b ≤ 1 := b2i_le b
theorem two_is (st : List Value) : twos.twoB st = (decide (cellI st 0 = 1) && (decide (cellI st 4 = 4) && decide (cellI st 6 = 3))) := by
  unfold twos.twoB
  simp only [twos.twoE, ands, isE, E.num, List.all_cons, List.all_nil, Bool.and_true]
theorem pass_is (st : List Value) : twos.passB st = (decide (cellI st 0 = 1) && (decide (cellI st 4 = 1) && (decide (cellI st 7 = 3) && (decide (cellI st 10 = 0) && decide (cellI st 11 = 0))))) := by
  unfold twos.passB
  simp only [twos.passE, ands, isE, E.num, List.all_cons, List.all_nil, Bool.and_true]
theorem st_k0 {st : List Value} (hv : okStE.val st = true) : cellI st 0 = 1 ∨ cellI st 0 = 2 ∨ cellI st 0 = 3 ∨ cellI st 0 = 4 := by
  simp only [okStE, E.ands, E.val, List.all_cons, List.all_nil, Bool.and_true, Bool.or_eq_true, Bool.and_eq_true, decide_eq_true_eq] at hv
  rcases hv with h | h | h
  · exact .inl h.1
  · rcases h.1 with h | h
    · exact .inr (.inl h)
    · exact .inr (.inr (.inr h))
  · exact .inr (.inr (.inl h.1))
theorem cnt_cons (a : Int) (l : List Int) (j : Nat) : cnt (a :: l) j = b2i (decide (a = (j : Int))) + cnt l j := rfl
theorem cnt_nil (j : Nat) : cnt [] j = 0 := rfl
theorem cnt_ge (l : List Int) (j : Nat) : 0 ≤ cnt l j := by
  induction l with
  | nil => exact Int.le_refl _
  | cons a l ih => rw [cnt_cons]; have := b01 (decide (a = (j : Int))); omega
def jA (b : BlkD) (j : Nat) : Int := if cellI b.pre 0 = 2 then (if cellI b.pre 1 = 1 then 0 else b2i (decide (cellI b.pre 3 = (j : Int)))) else if cellI b.pre 0 = 4 then b2i (decide (cellI b.post 0 = (j : Int))) + acc (fun op => twos.opOcc op j) b.ops else 0
def jP (b : BlkD) (j : Nat) : Int := if cellI b.pre 0 = 2 then 0 else if cellI b.pre 0 = 4 then acc (fun op => twos.opPass op j) b.ops else 0
theorem acc_mono {α : Type} {f g : α → Int} : ∀ {l : List α}, (∀ x ∈ l, f x ≤ g x) → acc f l ≤ acc g l
  | [], _ => Int.le_refl _
  | x :: l, h => by
    have h1 := h x (by simp)
    have h2 := acc_mono (f := f) (g := g) (l := l) fun y hy => h y (by simp [hy])
    show f x + acc f l ≤ g x + acc g l
    omega
theorem acc_plus {α : Type} (f g : α → Int) : ∀ l : List α, acc (fun x => f x + g x) l = acc f l + acc g l
  | [] => rfl
  | x :: l => by
    have := acc_plus f g l
    show f x + g x + acc _ l = f x + acc f l + (g x + acc g l)
    omega
theorem acc_zero {α : Type} {f : α → Int} : ∀ {l : List α}, (∀ x ∈ l, 0 ≤ f x) → 0 ≤ acc f l
  | [], _ => Int.le_refl _
  | x :: l, h => by
    have h1 := h x (by simp)
    have h2 := acc_zero (f := f) (l := l) fun y hy => h y (by simp [hy])
    show 0 ≤ f x + acc f l
    omega
theorem acc_some {α : Type} {f : α → Int} : ∀ {l : List α}, 0 < acc f l → ∃ x ∈ l, 0 < f x
  | [], h => absurd h (Int.lt_irrefl 0)
  | x :: l, h => by
    have h : 0 < f x + acc f l := h
    rcases Int.lt_or_le 0 (f x) with hx | hx
    · exact ⟨x, by simp, hx⟩
    · obtain ⟨y, hy, e⟩ := acc_some (f := f) (l := l) (by omega)
      exact ⟨y, by simp [hy], e⟩
theorem acc_of {α : Type} {f : α → Int} : ∀ {l : List α} {x : α}, (∀ x ∈ l, 0 ≤ f x) → x ∈ l → 0 < f x → 0 < acc f l
  | [], _, _, h, _ => by cases h
  | y :: l, x, h0, hm, hx => by
    have h1 := h0 y (by simp)
    have h2 := acc_zero (f := f) (l := l) fun z hz => h0 z (by simp [hz])
    show 0 < f y + acc f l
    rcases List.mem_cons.1 hm with rfl | hm
    · omega
    · have := acc_of (f := f) (l := l) (fun z hz => h0 z (by simp [hz])) hm hx
      omega
theorem opPass_le (op : List Value) (j : Nat) : 0 ≤ twos.opPass op j ∧ twos.opPass op j ≤ twos.opOcc op j := by
  unfold twos.opPass twos.opOcc twos.opPassB
  by_cases h3 : cellI op 0 = 3
  · cases decide (cellI op 2 = (j : Int)) <;> cases decide (cellI op 3 = 0) <;> cases decide (cellI op 4 = 0) <;> simp [h3, b2i]
  · simp only [decide_eq_false h3, Bool.false_and]
    have := b01 (!decide (cellI op 0 = 1) && decide (cellI op 2 = (j : Int)))
    have e0 : b2i false = 0 := rfl
    omega
def borB (b : BlkD) (j : Nat) : Int := acc (fun st => b2i (twos.isS st j)) b.st
def borF (D : FnD) (j : Nat) : Int := acc (fun b => borB b j) D.bs
def aB (b : BlkD) (j : Nat) : Int := acc (fun st => twos.occS st j) b.st + jA b j
def pB (b : BlkD) (j : Nat) : Int := acc (fun st => twos.passS st j) b.st + jP b j
def sB (b : BlkD) (j : Nat) : Int := acc (fun st => twos.setS st j) b.st
theorem jmp_a (C : twos.Ct) (b : BlkD) (j : Nat) : (C.jmp b).a j = C.a j + jA b j := by
  unfold twos.Ct.jmp jA
  split
  · split
    · omega
    · rfl
  · split
    · show bump C.a (cellI b.post 0) j + acc (fun op => twos.opOcc op j) b.ops = _
      unfold bump
      omega
    · omega
theorem jmp_p (C : twos.Ct) (b : BlkD) (j : Nat) : (C.jmp b).p j = C.p j + jP b j := by
  unfold twos.Ct.jmp jP
  split
  · split
    · omega
    · show C.p j = _; omega
  · split
    · rfl
    · omega
theorem jmp_s (C : twos.Ct) (b : BlkD) : (C.jmp b).s = C.s ∧ (C.jmp b).i = C.i := by
  unfold twos.Ct.jmp
  split
  · split <;> exact ⟨rfl, rfl⟩
  · split <;> exact ⟨rfl, rfl⟩
theorem fold_is (j : Nat) : ∀ (l : List BlkD) (C : twos.Ct), (l.foldl twos.Ct.blk C).a j = C.a j + acc (fun b => aB b j) l ∧ (l.foldl twos.Ct.blk C).p j = C.p j + acc (fun b => pB b j) l ∧ (l.foldl twos.Ct.blk C).s j = C.s j + acc (fun b => sB b j) l ∧ (l.foldl twos.Ct.blk C).i j = (C.i j || l.any fun b => b.st.any fun st => twos.isS st j)
  | [], C => ⟨(Int.add_zero _).symm, (Int.add_zero _).symm, (Int.add_zero _).symm, (Bool.or_false _).symm⟩
  | b :: l, C => by
    obtain ⟨h1, h2, h3, h4⟩ := fold_is j l (C.blk b)
    have e1 : (C.blk b).a j = C.a j + acc (fun st => twos.occS st j) b.st + jA b j := jmp_a _ b j
    have e2 : (C.blk b).p j = C.p j + acc (fun st => twos.passS st j) b.st + jP b j := jmp_p _ b j
    have e3 : (C.blk b).s j = C.s j + acc (fun st => twos.setS st j) b.st := congrFun (jmp_s (C.stm b.st) b).1 j
    have e4 : (C.blk b).i j = (C.i j || b.st.any fun st => twos.isS st j) := congrFun (jmp_s (C.stm b.st) b).2 j
    refine ⟨?_, ?_, ?_, ?_⟩
    · show (l.foldl twos.Ct.blk (C.blk b)).a j = C.a j + (aB b j + acc (fun b => aB b j) l)
      rw [h1, e1]; unfold aB; omega
    · show (l.foldl twos.Ct.blk (C.blk b)).p j = C.p j + (pB b j + acc (fun b => pB b j) l)
      rw [h2, e2]; unfold pB; omega
    · show (l.foldl twos.Ct.blk (C.blk b)).s j = C.s j + (sB b j + acc (fun b => sB b j) l)
      rw [h3, e3]; unfold sB; omega
    · show (l.foldl twos.Ct.blk (C.blk b)).i j = _
      rw [h4, e4, List.any_cons, Bool.or_assoc]
theorem ct_is (D : FnD) (j : Nat) : (twos.Ct.fn D).a j = acc (fun b => aB b j) D.bs ∧ (twos.Ct.fn D).p j = acc (fun b => pB b j) D.bs ∧ (twos.Ct.fn D).s j = acc (fun b => sB b j) D.bs ∧ (twos.Ct.fn D).i j = D.bs.any fun b => b.st.any fun st => twos.isS st j := by
  obtain ⟨h1, h2, h3, h4⟩ := fold_is j D.bs twos.Ct.nought
  have z : (0 : Int) + acc (fun b => aB b j) D.bs = acc (fun b => aB b j) D.bs := Int.zero_add _
  exact ⟨h1.trans (Int.zero_add _), h2.trans (Int.zero_add _), h3.trans (Int.zero_add _), h4.trans (Bool.false_or _)⟩
theorem bor_pos {D : FnD} {j : Nat} : 0 < borF D j ↔ (twos.Ct.fn D).i j = true := by
  rw [(ct_is D j).2.2.2, List.any_eq_true]
  constructor
  · intro h
    obtain ⟨b, hb, e⟩ := acc_some h
    obtain ⟨st, hs, e2⟩ := acc_some e
    refine ⟨b, hb, List.any_eq_true.2 ⟨st, hs, ?_⟩⟩
    cases hx : twos.isS st j with
    | true => rfl
    | false =>
      have e2 : 0 < b2i (twos.isS st j) := e2
      rw [hx] at e2
      exact absurd e2 (by decide)
  · rintro ⟨b, hb, e⟩
    obtain ⟨st, hs, e2⟩ := List.any_eq_true.1 e
    refine acc_of (fun b _ => acc_zero fun st _ => (b01 _).1) hb (acc_of (fun st _ => (b01 _).1) hs ?_)
    show 0 < b2i (twos.isS st j)
    rw [e2]
    decide
theorem acc_lt {α : Type} {f g : α → Int} : ∀ {l : List α} {x : α}, (∀ x ∈ l, f x ≤ g x) → x ∈ l → f x < g x → acc f l < acc g l
  | y :: l, x, h, hx, hl => by
    have h1 := h y (List.mem_cons_self ..)
    have h2 := acc_mono (l := l) fun z hz => h z (List.mem_cons_of_mem _ hz)
    show f y + acc f l < g y + acc g l
    rcases List.mem_cons.1 hx with rfl | hx
    · omega
    · have := acc_lt (fun z hz => h z (List.mem_cons_of_mem _ hz)) hx hl
      omega
theorem acc_eq {α : Type} {f g : α → Int} {l : List α} (h : ∀ x ∈ l, f x = g x) : acc f l = acc g l :=
  Int.le_antisymm (acc_mono fun x hx => Int.le_of_eq (h x hx)) (acc_mono fun x hx => Int.le_of_eq (h x hx).symm)
theorem acc_map' {α β : Type} (f : β → Int) (g : α → β) : ∀ l : List α, acc f (l.map g) = acc (fun x => f (g x)) l
  | [] => rfl
  | x :: l => by show f (g x) + acc f (l.map g) = f (g x) + _; rw [acc_map' f g l]
theorem acc_swap {α β : Type} (f : α → β → Int) (l : List α) : ∀ m : List β, acc (fun y => acc (fun x => f x y) l) m = acc (fun x => acc (fun y => f x y) m) l
  | [] => by
    have : ∀ l : List α, acc (fun x => acc (fun y => f x y) ([] : List β)) l = 0 := fun l => by
      induction l with
      | nil => rfl
      | cons x l ih => show (0 : Int) + _ = 0; rw [ih]; rfl
    exact (this l).symm
  | y :: m => by
    have e : (fun x => acc (fun y => f x y) (y :: m)) = fun x => f x y + acc (fun y => f x y) m := rfl
    rw [e, acc_plus, ← acc_swap f l m]
    rfl
theorem jp_le (b : BlkD) (j : Nat) : jP b j ≤ jA b j := by
  have hoA := acc_zero (f := fun op => twos.opOcc op j) (l := b.ops) fun op _ => by have := opPass_le op j; show 0 ≤ twos.opOcc op j; omega
  have hpA := acc_mono (f := fun op => twos.opPass op j) (g := fun op => twos.opOcc op j) (l := b.ops) fun op _ => (opPass_le op j).2
  have hd := b01 (decide (cellI b.post 0 = (j : Int)))
  have h3 := b01 (decide (cellI b.pre 3 = (j : Int)))
  unfold jP jA
  split
  · split <;> omega
  · split <;> omega
def refW (st : List Value) (j : Nat) : Bool := isRef st && (whole st && decide (cellI st 1 = (j : Int)))
structure StS (st : List Value) (j : Nat) : Prop where
  ref : b2i (refW st j) + twos.passS st j ≤ twos.occS st j
  bor : b2i (twos.isS st j) + twos.passS st j ≤ twos.occS st j
  set : twos.setS st j ≤ b2i (twos.isS st j)
theorem st_s {st : List Value} (h : All2 Kd.ok kS26 st) (hv : okStE.val st = true) (j : Nat) : StS st j := by
  have kd := refC.st_kind h hv
  have h1 := b01 (decide (cellI st 1 = (j : Int)))
  have h9 := b01 (decide (cellI st 9 = (j : Int)))
  have h14 := b01 (decide (cellI st 14 = (j : Int)))
  have h17 := b01 (decide (cellI st 17 = (j : Int)))
  have h22 := b01 (decide (cellI st 22 = (j : Int)))
  have h25 := b01 (decide (cellI st 25 = (j : Int)))
  have e0 : b2i false = 0 := rfl
  have hset : twos.setS st j ≤ b2i (twos.isS st j) := by
    unfold twos.setS twos.isS twos.setB
    cases twos.twoB st <;> cases decide (cellI st 1 = (j : Int)) <;> simp [b2i] <;> generalize (decide (cellI st 2 = 0) && (decide (cellI st 3 = 0) && !decide (cellI st 17 = cellI st 1))) = x <;> cases x <;> decide
  have hib : b2i (twos.isS st j) ≤ b2i (isRef st && decide (cellI st 1 = (j : Int))) := by
    have : twos.isS st j = (twos.twoB st && decide (cellI st 1 = (j : Int))) := rfl
    rw [this, two_is]
    unfold isRef
    cases decide (cellI st 0 = 1) <;> cases decide (cellI st 4 = 4) <;> cases decide (cellI st 6 = 3) <;> cases decide (cellI st 1 = (j : Int)) <;> decide
  have hrb : b2i (refW st j) ≤ b2i (isRef st && decide (cellI st 1 = (j : Int))) := by
    unfold refW
    cases isRef st <;> cases whole st <;> cases decide (cellI st 1 = (j : Int)) <;> decide
  have key : b2i (isRef st && decide (cellI st 1 = (j : Int))) + twos.passS st j ≤ twos.occS st j := by
    have hocc : twos.occS st j = cnt ((twos.locsOf (twos.stState st)).map (cellI st)) j := rfl
    have hpas : twos.passS st j = b2i (twos.passB st && decide (cellI st 9 = (j : Int))) := rfl
    have hisr : isRef st = (decide (cellI st 0 = 1) && decide (cellI st 4 = 4)) := rfl
    rw [hocc, hpas, hisr, refC.state_is, pass_is]
    rcases st_k0 hv with k | k | k | k
    · obtain ⟨k1, k2⟩ := kd k
      have h4 : cellI st 4 = 1 ∨ cellI st 4 = 2 ∨ cellI st 4 = 3 ∨ cellI st 4 = 4 ∨ cellI st 4 = 5 := by omega
      rcases h4 with h4 | h4 | h4 | h4 | h4
      · by_cases h7 : cellI st 7 = 1
        · simp [k, h4, h7, twos.stateOf, twos.locsOf, cnt_cons, cnt_nil, e0]; omega
        · by_cases h73 : cellI st 7 = 3
          · cases decide (cellI st 10 = 0) <;> cases decide (cellI st 11 = 0) <;> simp [k, h4, h73, twos.stateOf, twos.locsOf, cnt_cons, cnt_nil, e0] <;> omega
          · simp [k, h4, h7, h73, twos.stateOf, twos.locsOf, cnt_cons, cnt_nil, e0]; omega
      · by_cases h7 : cellI st 7 = 1 <;> by_cases h12 : cellI st 12 = 1 <;> simp [k, h4, h7, h12, twos.stateOf, twos.locsOf, cnt_cons, cnt_nil, e0] <;> omega
      · by_cases h7 : cellI st 7 = 1 <;> by_cases h12 : cellI st 12 = 1 <;> simp [k, h4, h7, h12, twos.stateOf, twos.locsOf, cnt_cons, cnt_nil, e0] <;> omega
      · simp [k, h4, twos.stateOf, twos.locsOf, cnt_cons, cnt_nil, e0]; omega
      · simp [k, h4, twos.stateOf, twos.locsOf, cnt_cons, cnt_nil, e0]; omega
    · by_cases h20 : cellI st 20 = 1
      · simp [k, h20, twos.stateOf, twos.locsOf, cnt_cons, cnt_nil, e0]
      · simp [k, h20, twos.stateOf, twos.locsOf, cnt_cons, cnt_nil, e0]; omega
    · simp [k, twos.stateOf, twos.locsOf, cnt_cons, cnt_nil, e0]; omega
    · by_cases h20 : cellI st 20 = 1
      · simp [k, h20, twos.stateOf, twos.locsOf, cnt_cons, cnt_nil, e0]
      · simp [k, h20, twos.stateOf, twos.locsOf, cnt_cons, cnt_nil, e0]; omega
  exact ⟨by omega, by omega, hset⟩
def refF (D : FnD) (j : Nat) : Int := acc (fun b => acc (fun st => b2i (refW st j)) b.st) D.bs
def setF (D : FnD) (j : Nat) : Int := acc (fun b => sB b j) D.bs
theorem stms_ok {D : FnD} (hc : check.chkF D = 0) : ∀ b ∈ D.bs, ∀ st ∈ b.st, okStE.val st = true := fun b hb st hs => by
  have := check.okB_of (size.of_chk hc).2.1 b hb
  unfold made.okB at this
  rw [Bool.and_eq_true] at this
  exact List.all_eq_true.1 this.1 st hs
theorem law_two {w : World} {v : Value} {D : FnD} (h : FnOk' w v D) (hc : check.chkF D = 0) {j : Nat} (hj : j < 16) :
    ((twos.Ct.fn D).i j = true → borF D j = 1 ∧ refF D j ≤ 1 ∧ setF D j = 1 ∧ D.p < j) ∧ ((twos.Ct.fn D).i j = false → borF D j = 0) := by
  obtain ⟨_, hm, ht⟩ := size.of_chk hc
  have hst : ∀ b ∈ D.bs, ∀ st ∈ b.st, StS st j := fun b hb st hs => st_s ((h.blk b hb).skd st hs) (stms_ok hc b hb st hs) j
  obtain ⟨c1, c2, c3, c4⟩ := ct_is D j
  have s1 := acc_mono (f := fun b => borB b j + pB b j) (g := fun b => aB b j) (l := D.bs) fun b hb' => by
    have := acc_mono (f := fun st => b2i (twos.isS st j) + twos.passS st j) (g := fun st => twos.occS st j) (l := b.st) fun st hs => (hst b hb' st hs).bor
    have q := jp_le b j
    rw [acc_plus] at this
    show acc _ b.st + (acc _ b.st + jP b j) ≤ acc _ b.st + jA b j
    omega
  have s2 := acc_mono (f := fun b => acc (fun st => b2i (refW st j)) b.st + pB b j) (g := fun b => aB b j) (l := D.bs) fun b hb' => by
    have := acc_mono (f := fun st => b2i (refW st j) + twos.passS st j) (g := fun st => twos.occS st j) (l := b.st) fun st hs => (hst b hb' st hs).ref
    have q := jp_le b j
    rw [acc_plus] at this
    show acc _ b.st + (acc _ b.st + jP b j) ≤ acc _ b.st + jA b j
    omega
  rw [acc_plus] at s1 s2
  have s4 : 0 ≤ borF D j := acc_zero fun b _ => acc_zero fun st _ => (b01 _).1
  constructor
  · intro hi
    have hp := bor_pos.2 hi
    have hg := List.all_eq_true.1 ht j (List.mem_range.2 hj)
    unfold twos.goodB at hg
    rw [hi, Bool.not_true, Bool.false_or] at hg
    simp only [Bool.and_eq_true, decide_eq_true_eq] at hg
    obtain ⟨g1, g2, g3, g4⟩ := hg
    rw [c1] at g2
    rw [c2] at g3
    rw [c3] at g4
    unfold borF refF setF at *
    exact ⟨by omega, by omega, g4, g1⟩
  · intro hi
    rcases Int.lt_or_le 0 (borF D j) with hp | hp
    · rw [bor_pos.1 hp] at hi; cases hi
    · omega
theorem two_near {D : FnD} (hc : check.chkF D = 0) {b : BlkD} (hb : b ∈ D.bs) {st : List Value} (hs : st ∈ b.st) (h0 : cellI st 0 = 1) : cellI st 1 < D.ls.length := by
  have hm := (size.of_chk hc).2.1
  unfold made.madeF at hm
  simp only [Bool.and_eq_true] at hm
  have h1 := List.all_eq_true.1 hm.2.2.2 b hb
  unfold made.outB at h1
  rw [Bool.and_eq_true] at h1
  have h2 := List.all_eq_true.1 h1.1 st hs
  unfold nearS nearE at h2
  simp only [ands, isE, imp, E.num, List.all_cons, List.all_nil, Bool.and_true, Bool.and_eq_true, Bool.or_eq_true, Bool.not_eq_true', decide_eq_true_eq, decide_eq_false_iff_not] at h2
  have e0 : stV (D.ls.length : Int) st 0 = cellI st 0 := rfl
  have e27 : stV (D.ls.length : Int) st 27 = ltI' (cellI st 1) D.ls.length := rfl
  rw [e0, e27] at h2
  rcases h2.2.2 with k | k
  · exact absurd h0 k
  · exact (one_iff _).1 k.1
theorem isS_set {w : World} {v : Value} {D : FnD} (h : FnOk' w v D) (hc : check.chkF D = 0) {j : Nat} (hj : j < 16) {b : BlkD} (hb : b ∈ D.bs) {st : List Value} (hs : st ∈ b.st) (hi : twos.isS st j = true) : twos.setS st j = 1 := by
  have hi2 : (twos.Ct.fn D).i j = true := by rw [(ct_is D j).2.2.2]; exact List.any_eq_true.2 ⟨b, hb, List.any_eq_true.2 ⟨st, hs, hi⟩⟩
  obtain ⟨l1, _, l3, _⟩ := (law_two h hc hj).1 hi2
  have hle : ∀ b ∈ D.bs, ∀ st ∈ b.st, twos.setS st j ≤ b2i (twos.isS st j) := fun b hb st hs => (st_s ((h.blk b hb).skd st hs) (stms_ok hc b hb st hs) j).set
  have h01 : 0 ≤ twos.setS st j ∧ twos.setS st j ≤ 1 := b01 _
  rcases Int.lt_or_le (twos.setS st j) 1 with hx | hx
  · exfalso
    have k1 : sB b j < borB b j := acc_lt (fun st hs => hle b hb st hs) hs (by rw [hi]; exact hx)
    have k2 : setF D j < borF D j := acc_lt (f := fun b => sB b j) (g := fun b => borB b j) (fun b hb => acc_mono fun st hs => hle b hb st hs) hb k1
    omega
  · omega
theorem two_j {w : World} {v : Value} {D : FnD} (h : FnOk' w v D) (hc : check.chkF D = 0) {b : BlkD} (hb : b ∈ D.bs) {st : List Value} (hs : st ∈ b.st) (ht : twos.twoB st = true) :
    ∃ j : Nat, j < 16 ∧ cellI st 1 = (j : Int) ∧ twos.isS st j = true ∧ (twos.Ct.fn D).i j = true ∧ whole st = true ∧ D.p < j ∧ (j : Int) < D.ls.length := by
  have r := st_range ((h.blk b hb).skd st hs) (stms_ok hc b hb st hs) (c := 1) (by simp)
  have ej : cellI st 1 = ((cellI st 1).toNat : Int) := by omega
  refine ⟨(cellI st 1).toNat, by omega, ej, ?_⟩
  generalize (cellI st 1).toNat = j at ej
  have hj : j < 16 := by omega
  have hi : twos.isS st j = true := by show (twos.twoB st && decide (cellI st 1 = (j : Int))) = true; rw [ht, ej]; simp
  have hi2 : (twos.Ct.fn D).i j = true := by rw [(ct_is D j).2.2.2]; exact List.any_eq_true.2 ⟨b, hb, List.any_eq_true.2 ⟨st, hs, hi⟩⟩
  have hset := isS_set h hc hj hb hs hi
  have hsb : twos.setB st = true := by
    have : twos.setS st j = b2i (twos.setB st && decide (cellI st 1 = (j : Int))) := rfl
    rw [this] at hset
    cases hx : twos.setB st with
    | true => rfl
    | false => rw [hx] at hset; cases hset
  unfold twos.setB at hsb
  simp only [Bool.and_eq_true, decide_eq_true_eq] at hsb
  rw [two_is] at ht
  simp only [Bool.and_eq_true, decide_eq_true_eq] at ht
  refine ⟨hi, hi2, ?_, ((law_two h hc hj).1 hi2).2.2.2, ?_⟩
  · unfold whole
    rw [decide_eq_true hsb.2.1, decide_eq_true hsb.2.2.1]
    rfl
  · have := two_near hc hb hs ht.1
    omega
def opt (g : List Value → Int) (o : Option (List Value)) : Int := match o with | some st => g st | none => 0
theorem row_acc (g : List Value → Int) (l : List (List Value)) : acc (fun k => opt g l[k]?) (List.range (l.length + 1)) = acc g l := by
  have key : ∀ n, n ≤ l.length → acc (fun k => opt g l[k]?) (List.range n) = acc g (l.take n) := fun n => by
    induction n with
    | zero => intro _; rfl
    | succ n ih =>
      intro hn
      obtain ⟨x, hx⟩ : ∃ x, l[n]? = some x := ⟨_, List.getElem?_eq_getElem hn⟩
      rw [List.range_succ, acc_app, ih (by omega), List.take_add_one, hx, acc_app]
      show _ + (opt g l[n]? + 0) = _ + (g x + 0)
      rw [hx]
      rfl
  rw [List.range_succ, acc_app, key _ (Nat.le_refl _), List.take_length]
  show _ + (opt g l[l.length]? + 0) = _
  rw [List.getElem?_eq_none (Nat.le_refl _)]
  show _ + ((0 : Int) + 0) = _
  omega
theorem pts_acc (g : List Value → Int) (bs : List BlkD) : ∀ i, i ≤ bs.length → acc (fun p => opt g (stP bs p)) (ptsTo bs i) = acc (fun b => acc g b.st) (bs.take i)
  | 0, _ => rfl
  | i + 1, hi => by
    obtain ⟨b, hb⟩ : ∃ b, bs[i]? = some b := ⟨_, List.getElem?_eq_getElem hi⟩
    have e : acc (fun p => opt g (stP bs p)) (rowPts i (lenB bs i + 1)) = acc g b.st := by
      unfold rowPts
      rw [acc_map', lenB_of hb, ← row_acc g b.st]
      refine acc_eq fun k _ => ?_
      show opt g (bs.getD i b0).st[k]? = _
      rw [getD_mem hb]
    show acc _ (ptsTo bs i ++ rowPts i (lenB bs i + 1)) = _
    rw [acc_app, pts_acc g bs i (by omega), e, List.take_add_one, hb, acc_app]
    show _ = _ + (acc g b.st + 0)
    omega
theorem sum_pts (g : List Value → Int) (D : FnD) : acc (fun n => opt g (stN D.bs n)) (List.range (sizeN D)) = acc (fun b => acc g b.st) D.bs := by
  have h := pts_acc g D.bs D.bs.length (Nat.le_refl _)
  rw [List.take_length] at h
  rw [← h]
  have hl : (ptsTo D.bs D.bs.length).length = sizeN D := to_len _ _
  have key : ∀ l : List (Nat × Nat), acc (fun n => opt g ((l[n]?).bind (stP D.bs))) (List.range l.length) = acc (fun p => opt g (stP D.bs p)) l := fun l => by
    have : ∀ n, n ≤ l.length → acc (fun n => opt g ((l[n]?).bind (stP D.bs))) (List.range n) = acc (fun p => opt g (stP D.bs p)) (l.take n) := fun n => by
      induction n with
      | zero => intro _; rfl
      | succ n ih =>
        intro hn
        obtain ⟨x, hx⟩ : ∃ x, l[n]? = some x := ⟨_, List.getElem?_eq_getElem hn⟩
        rw [List.range_succ, acc_app, ih (by omega), List.take_add_one, hx, acc_app]
        show _ + (opt g ((l[n]?).bind (stP D.bs)) + 0) = _ + (opt g (stP D.bs x) + 0)
        rw [hx]
        rfl
    have := this _ (Nat.le_refl _)
    rwa [List.take_length] at this
  have := key (ptsTo D.bs D.bs.length)
  rw [hl] at this
  exact this
theorem two_pts {f : Nat → Int} (h0 : ∀ n, 0 ≤ f n) {N a b : Nat} (ha : a < N) (hb : b < N) (hab : a ≠ b) (h1 : 1 ≤ f a) (h2 : 1 ≤ f b) : 2 ≤ acc f (List.range N) := by
  have one : ∀ N a, a < N → 1 ≤ f a → 1 ≤ acc f (List.range N) := fun N a ha h => by
    have := acc_of (l := List.range N) (fun n _ => h0 n) (List.mem_range.2 ha) (by omega : 0 < f a)
    omega
  induction N with
  | zero => omega
  | succ N ih =>
    rw [List.range_succ, acc_app]
    show 2 ≤ _ + (f N + 0)
    have := h0 N
    by_cases e1 : a = N
    · subst e1
      have := one a b (by omega) h2
      omega
    · by_cases e2 : b = N
      · subst e2
        have := one b a (by omega) h1
        omega
      · have := ih (by omega) (by omega)
        omega
end Go.Proofs.YthdcahkedlijpaaGreat.ltwo
