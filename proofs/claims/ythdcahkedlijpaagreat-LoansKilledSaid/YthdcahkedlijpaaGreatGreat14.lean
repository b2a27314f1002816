/- What fnshape.Check and the reference's Check answer is the same. (No run of the program.) Great and Size. pawnshopref14.GreatFunc, as the machine runs it. -/
import Derived.Test.YthdcahkedlijpaaGreatFn25
namespace Go.Proofs.YthdcahkedlijpaaGreat.refC
open Go.RowKit Go.Proofs.YthdcahkedlijpaaGreat.Am
set_option maxRecDepth 100000
set_option linter.unusedVariables false
set_option linter.unusedSectionVars false
open twos (Ct)
theorem far_of {F : Nat → Int} {ls : List Int} {c : Nat} (hr : ∀ l ∈ ls, 0 ≤ l ∧ l ≤ 15) (hF : ∀ j : Nat, 1 ≤ F j ↔ (j : Int) ∈ ls) : far.farF F c = ls.any fun l => !decide (l < c) := by
  unfold far.farF
  rw [Bool.eq_iff_iff, List.any_eq_true, List.any_eq_true]
  constructor
  · rintro ⟨j, hj, e⟩
    simp only [Bool.and_eq_true, decide_eq_true_eq, Bool.not_eq_true', decide_eq_false_iff_not] at e
    exact ⟨j, (hF j).1 (by omega), by rw [Bool.not_eq_true', decide_eq_false_iff_not]; omega⟩
  · rintro ⟨l, hl, e⟩
    rw [Bool.not_eq_true', decide_eq_false_iff_not] at e
    have h := hr l hl
    refine ⟨l.toNat, List.mem_range.2 (by omega), ?_⟩
    have hp := (hF l.toNat).2 (by rw [show ((l.toNat : Nat) : Int) = l by omega]; exact hl)
    simp only [Bool.and_eq_true, decide_eq_true_eq, Bool.not_eq_true', decide_eq_false_iff_not]
    omega
theorem acc_pos {α : Type} {f : α → Bool} : ∀ l : List α, (0 ≤ acc (fun x => b2i (f x)) l) ∧ (1 ≤ acc (fun x => b2i (f x)) l ↔ ∃ x ∈ l, f x = true)
  | [] => ⟨Int.le_refl _, by simp [acc]⟩
  | x :: l => by
    obtain ⟨h1, h2⟩ := acc_pos (f := f) l
    show 0 ≤ b2i (f x) + acc _ l ∧ (1 ≤ b2i (f x) + acc _ l ↔ _)
    cases hx : f x with
    | true =>
      have : b2i true = 1 := rfl
      exact ⟨by omega, ⟨fun _ => ⟨x, by simp, hx⟩, fun _ => by omega⟩⟩
    | false =>
      have : b2i false = 0 := rfl
      refine ⟨by omega, ⟨fun h => ?_, fun ⟨y, hy, e⟩ => ?_⟩⟩
      · obtain ⟨y, hy, e⟩ := h2.1 (by omega)
        exact ⟨y, by simp [hy], e⟩
      · rcases List.mem_cons.1 hy with rfl | hy
        · rw [hx] at e; cases e
        · have := h2.2 ⟨y, hy, e⟩; omega
theorem cnt_pos (ls : List Int) (j : Nat) : 1 ≤ cnt ls j ↔ (j : Int) ∈ ls := by
  unfold cnt
  rw [(acc_pos (f := fun l : Int => decide (l = (j : Int))) ls).2]
  constructor
  · rintro ⟨x, hx, e⟩
    rw [decide_eq_true_iff] at e
    rwa [← e]
  · exact fun h => ⟨_, h, decide_eq_true rfl⟩
theorem all_congr {α : Type} {l : List α} {p q : α → Bool} (h : ∀ x ∈ l, p x = q x) : l.all p = l.all q := by
  induction l with
  | nil => rfl
  | cons x l ih => rw [List.all_cons, List.all_cons, h x (by simp), ih fun y hy => h y (by simp [hy])]
theorem st_4 : (autoB (noT [(okStE, true)]) .leaf (((Lf.of (ivU 26)).pin 0 1).hi 4 0) && autoB (noT [(okStE, true)]) .leaf (((Lf.of (ivU 26)).pin 0 1).lo 4 6)) = true := by kernel_rfl
theorem st_kind {st : List Value} (h : All2 Kd.ok kS26 st) (hv : okStE.val st = true) (h1 : cellI st 0 = 1) : 1 ≤ cellI st 4 ∧ cellI st 4 ≤ 5 := by
  have h0 : (Lf.of (ivU 26)).Holds (cellI st) (fun _ => []) := ivU_ok h rfl
  have r := st_4
  rw [Bool.and_eq_true] at r
  have hg : ∀ p ∈ [(okStE, true)], p.1.num (cellI st) = p.2 := fun p hp => by
    obtain rfl := List.mem_singleton.1 hp
    exact (E.val_num _ _).symm.trans hv
  constructor
  · apply Decidable.byContradiction; intro hc; exact cannot r.1 ((h0.pin (i := 0) (c := 1) h1).hi (i := 4) (c := 0) (by omega)) hg
  · apply Decidable.byContradiction; intro hc; exact cannot r.2 ((h0.pin (i := 0) (c := 1) h1).lo (i := 4) (c := 6) (by omega)) hg
theorem near_is (nL : Int) (st : List Value) : nearS nL st = ((!decide (cellI st 0 = 3) || decide (cellI st 25 < nL)) && ((!(decide (cellI st 0 = 2) || decide (cellI st 0 = 4)) || (decide (cellI st 20 = 1) || decide (cellI st 22 < nL))) &&
    (!decide (cellI st 0 = 1) || (decide (cellI st 1 < nL) && ((!(decide (cellI st 4 = 4) || decide (cellI st 4 = 5)) || decide (cellI st 17 < nL)) && ((!!(decide (cellI st 4 = 4) || decide (cellI st 4 = 5)) || (decide (cellI st 7 = 1) || decide (cellI st 9 < nL))) && (!(decide (cellI st 4 = 2) || decide (cellI st 4 = 3)) || (decide (cellI st 12 = 1) || decide (cellI st 14 < nL))))))))) := by
  have s : ∀ i, i < 26 → stV nL st i = cellI st i := fun i hi => by unfold stV; rw [if_pos hi]
  have s26 : stV nL st 26 = b2i (decide (cellI st 25 < nL)) := rfl
  have s27 : stV nL st 27 = b2i (decide (cellI st 1 < nL)) := rfl
  have s28 : stV nL st 28 = b2i (decide (cellI st 9 < nL)) := rfl
  have s29 : stV nL st 29 = b2i (decide (cellI st 14 < nL)) := rfl
  have s30 : stV nL st 30 = b2i (decide (cellI st 17 < nL)) := rfl
  have s31 : stV nL st 31 = b2i (decide (cellI st 22 < nL)) := rfl
  unfold nearS
  simp only [nearE, ands, imp, isE, E.num, List.all_cons, List.all_nil, Bool.and_true, s 0 (by decide), s 4 (by decide), s 7 (by decide), s 12 (by decide), s 20 (by decide), s26, s27, s28, s29, s30, s31, made.dec_b2i]
theorem state_is (st : List Value) : twos.stState st = twos.stateOf [decide (cellI st 0 = 3), (decide (cellI st 0 = 2) || decide (cellI st 0 = 4)) && !decide (cellI st 20 = 1), decide (cellI st 0 = 1), decide (cellI st 0 = 1) && (decide (cellI st 4 = 4) || decide (cellI st 4 = 5)),
    decide (cellI st 0 = 1) && (!(decide (cellI st 4 = 4) || decide (cellI st 4 = 5)) && !decide (cellI st 7 = 1)), decide (cellI st 0 = 1) && (!(decide (cellI st 4 = 1) || (decide (cellI st 4 = 4) || decide (cellI st 4 = 5))) && !decide (cellI st 12 = 1))] := by
  unfold twos.stState
  simp only [twos.placeE, List.map_cons, List.map_nil, ands, isE, E.num, List.all_cons, List.all_nil, Bool.and_true]
theorem far_S {st : List Value} (h : All2 Kd.ok kS26 st) (hv : okStE.val st = true) (nL : Nat) : (!far.farF (twos.occS st) nL) = nearS nL st := by
  have rg := fun c hc => st_range h hv (c := c) hc
  have hl : ∀ l ∈ (twos.locsOf (twos.stState st)).map (cellI st), 0 ≤ l ∧ l ≤ 15 := fun l hl => by
    obtain ⟨c, hc, rfl⟩ := List.mem_map.1 hl
    refine rg c ?_
    unfold twos.locsOf at hc
    split at hc <;> simp only [List.mem_cons, List.not_mem_nil, or_false] at hc ⊢ <;> omega
  rw [far_of (F := twos.occS st) hl (fun j => cnt_pos _ j), near_is, state_is]
  have kd := st_kind h hv
  by_cases h1 : cellI st 0 = 1
  · obtain ⟨k1, k2⟩ := kd h1
    have h4 : cellI st 4 = 1 ∨ cellI st 4 = 2 ∨ cellI st 4 = 3 ∨ cellI st 4 = 4 ∨ cellI st 4 = 5 := by omega
    rcases h4 with h4 | h4 | h4 | h4 | h4 <;> by_cases h7 : cellI st 7 = 1 <;> by_cases h12 : cellI st 12 = 1 <;> simp [h1, h4, h7, h12, twos.stateOf, twos.locsOf]
  · by_cases h3 : cellI st 0 = 3
    · simp [h3, twos.stateOf, twos.locsOf]
    · by_cases h2 : cellI st 0 = 2
      · by_cases h20 : cellI st 20 = 1 <;> simp [h2, h20, twos.stateOf, twos.locsOf]
      · by_cases h4 : cellI st 0 = 4
        · by_cases h20 : cellI st 20 = 1 <;> simp [h4, h20, twos.stateOf, twos.locsOf]
        · simp [h1, h2, h3, h4, twos.stateOf, twos.locsOf]
theorem far_J {w : World} {v : Value} {D : FnD} (h : FnOk' w v D) {i : Nat} (hi : i < D.bs.length) (hok : okJF (D.blk i) = true) : (!far.farF (occJump.occJ (D.blk i)) D.ls.length && block.ledB D.bs.length (D.blk i)) = made.jumpF D.ls.length D.bs.length (D.blk i) := by
  have hj := jump_is h hi
  obtain ⟨p3, q0, jo⟩ := jm_facts hj hok
  obtain ⟨_, _, m3⟩ := jm_more hj hok
  have ops : ∀ op ∈ (D.blk i).ops, 0 ≤ cellI op 2 ∧ cellI op 2 ≤ 15 := fun op hop => by
    obtain ⟨k, hk⟩ := List.getElem?_of_mem hop
    have hl := (List.getElem?_eq_some_iff.1 hk).1
    obtain ⟨o1, o2⟩ := opd_is h hi hl
    obtain rfl : op = D.opd i k := Option.some.inj (hk.symm.trans o2)
    refine op_range o1 ?_
    rcases jo with e | e
    · exact List.all_eq_true.1 e _ hop
    · omega
  generalize D.blk i = b at *
  unfold made.jumpF block.ledB
  by_cases h2 : cellI b.pre 0 = 2
  · by_cases h1 : cellI b.pre 1 = 1
    · have e : far.farF (occJump.occJ b) D.ls.length = false := by
        rw [far_of (ls := []) (fun l hl => by cases hl) (fun j => by unfold occJump.occJ; rw [if_pos h2, if_pos h1]; simp)]
        rfl
      rw [e]
      simp [h2, h1]
    · have e : far.farF (occJump.occJ b) D.ls.length = !decide (cellI b.pre 3 < D.ls.length) := by
        rw [far_of (ls := [cellI b.pre 3]) (fun l hl => by obtain rfl := List.mem_singleton.1 hl; exact p3) (fun j => by
          unfold occJump.occJ
          rw [if_pos h2, if_neg h1, List.mem_singleton]
          show 1 ≤ (0 : Int) + b2i (decide (cellI b.pre 3 = (j : Int))) ↔ _
          by_cases e : cellI b.pre 3 = (j : Int)
          · rw [decide_eq_true e]; exact ⟨fun _ => e.symm, fun _ => by decide⟩
          · rw [decide_eq_false e]; exact ⟨fun k => absurd k (by decide), fun k => absurd k.symm e⟩)]
        simp
      rw [e]
      simp [h2, h1]
  · by_cases h4 : cellI b.pre 0 = 4
    · have e : far.farF (occJump.occJ b) D.ls.length = (!decide (cellI b.post 0 < D.ls.length) || b.ops.any fun op => !decide (cellI op 0 = 1) && !decide (cellI op 2 < D.ls.length)) := by
        rw [far_of (ls := cellI b.post 0 :: (b.ops.filter fun op => !decide (cellI op 0 = 1)).map fun op => cellI op 2) (fun l hl => by
            rcases List.mem_cons.1 hl with rfl | hl
            · exact q0
            · obtain ⟨op, hop, rfl⟩ := List.mem_map.1 hl
              exact ops op (List.mem_filter.1 hop).1) (fun j => by
          unfold occJump.occJ
          rw [if_neg h2, if_pos h4]
          obtain ⟨a1, a2⟩ := acc_pos (f := fun op => !decide (cellI op 0 = 1) && decide (cellI op 2 = (j : Int))) b.ops
          show 1 ≤ acc (fun op => b2i (!decide (cellI op 0 = 1) && decide (cellI op 2 = (j : Int)))) b.ops + b2i (decide (cellI b.post 0 = (j : Int))) ↔ _
          by_cases e : cellI b.post 0 = (j : Int)
          · rw [decide_eq_true e]
            have : b2i true = 1 := rfl
            exact ⟨fun _ => by rw [e]; simp, fun _ => by omega⟩
          · rw [decide_eq_false e]
            have : b2i false = 0 := rfl
            rw [show acc (fun op => b2i (!decide (cellI op 0 = 1) && decide (cellI op 2 = (j : Int)))) b.ops + b2i false = acc (fun op => b2i (!decide (cellI op 0 = 1) && decide (cellI op 2 = (j : Int)))) b.ops by omega, a2]
            constructor
            · rintro ⟨op, hop, e⟩
              rw [Bool.and_eq_true, decide_eq_true_iff] at e
              exact List.mem_cons_of_mem _ (List.mem_map.2 ⟨op, List.mem_filter.2 ⟨hop, e.1⟩, e.2⟩)
            · intro hm
              rcases List.mem_cons.1 hm with hm | hm
              · exact absurd hm.symm e
              · obtain ⟨op, hop, e⟩ := List.mem_map.1 hm
                obtain ⟨k1, k2⟩ := List.mem_filter.1 hop
                exact ⟨op, k1, by rw [Bool.and_eq_true, decide_eq_true_iff]; exact ⟨k2, e⟩⟩)]
        rw [List.any_cons, List.any_map, List.any_filter]
        rfl
      rw [e]
      have eo : (b.ops.all (opNear D.ls.length)) = !(b.ops.any fun op => !decide (cellI op 0 = 1) && !decide (cellI op 2 < D.ls.length)) := by
        rw [List.not_any_eq_all_not]
        refine all_congr fun op _ => ?_
        unfold opNear
        cases decide (cellI op 0 = 1) <;> cases decide (cellI op 2 < D.ls.length) <;> rfl
      rw [eo]
      simp [h4]
    · have e : far.farF (occJump.occJ b) D.ls.length = false := by
        rw [far_of (ls := []) (fun l hl => by cases hl) (fun j => by unfold occJump.occJ occJump.accA; rw [if_neg h2, if_neg h4, m3 h4]; simp [acc])]
        rfl
      rw [e]
      simp [h2, h4]
theorem block_eq {w : World} {v : Value} {D : FnD} (h : FnOk' w v D) {i : Nat} (hi : i < D.bs.length) : block.okB D (D.blk i) = (made.okB (D.blk i) && made.outB D.ls.length D.bs.length (D.blk i)) := by
  have e1 : (D.blk i).st.all (block.okS D) = ((D.blk i).st.all (fun st => okStE.val st) && (D.blk i).st.all (nearS D.ls.length)) := by
    rw [Bool.eq_iff_iff, Bool.and_eq_true, List.all_eq_true, List.all_eq_true, List.all_eq_true]
    have key : ∀ st ∈ (D.blk i).st, okStE.val st = true → (!far.farF (twos.occS st) D.ls.length) = nearS D.ls.length st := fun st hst hv => by
      obtain ⟨k, hk⟩ := List.getElem?_of_mem hst
      have hl := (List.getElem?_eq_some_iff.1 hk).1
      obtain ⟨o1, o2⟩ := stm_is h hi hl
      obtain rfl : st = D.stm i k := Option.some.inj (hk.symm.trans o2)
      exact far_S o1 hv _
    constructor
    · intro ha
      have ha' : ∀ st ∈ (D.blk i).st, okStE.val st = true ∧ (!far.farF (twos.occS st) D.ls.length) = true := fun st hst => by
        have := ha st hst
        unfold block.okS at this
        rwa [Bool.and_eq_true] at this
      exact ⟨fun st hst => (ha' st hst).1, fun st hst => (key st hst (ha' st hst).1) ▸ (ha' st hst).2⟩
    · rintro ⟨a, b⟩ st hst
      unfold block.okS
      rw [key st hst (a st hst), a st hst, b st hst]
      rfl
  unfold block.okB made.okB made.outB
  rw [e1]
  cases hv : okJF (D.blk i) with
  | false => rw [Bool.false_and, Bool.and_false, Bool.and_false, Bool.false_and]
  | true =>
    rw [Bool.true_and, Bool.and_true, far_J h hi hv, Bool.and_assoc]
theorem made_eq {w : World} {v : Value} {D : FnD} (h : FnOk' w v D) (hm : many.manyF D = false) : madeR.madeRF D = made.madeF D := by
  have e : D.bs.all (block.okB D) = (D.bs.all made.okB && D.bs.all (made.outB D.ls.length D.bs.length)) := by
    have key : ∀ b ∈ D.bs, block.okB D b = (made.okB b && made.outB D.ls.length D.bs.length b) := fun b hb => by
      obtain ⟨i, hi⟩ := List.getElem?_of_mem hb
      have hl := (List.getElem?_eq_some_iff.1 hi).1
      have : D.blk i = b := by unfold FnD.blk; rw [List.getD_eq_getElem?_getD, hi]; rfl
      rw [← this]
      exact block_eq h hl
    rw [all_congr key, Bool.eq_iff_iff, Bool.and_eq_true, List.all_eq_true, List.all_eq_true, List.all_eq_true]
    simp only [Bool.and_eq_true]
    exact ⟨fun k => ⟨fun b hb => (k b hb).1, fun b hb => (k b hb).2⟩, fun k b hb => ⟨k.1 b hb, k.2 b hb⟩⟩
  unfold madeR.madeRF made.madeF head.headF madeR.guard head.guard
  rw [hm, e]
  cases decide (0 < D.ls.length) <;> cases decide (0 < D.bs.length) <;> cases decide (0 ≤ D.p) <;> cases decide (D.p ≤ 8) <;> cases decide (D.p < D.ls.length) <;> cases D.ls.all okTy <;> cases head.ptr0 D <;> rfl
theorem ref_eq {w : World} {v : Value} {D : FnD} (h : FnOk' w v D) : refF D = check.chkF D := by
  unfold refF check.chkF
  cases hm : many.manyF D with
  | true => rfl
  | false =>
    rw [made_eq h hm, show twosR D = twos.twosF D from all_congr fun t _ => good_eq D t]
theorem check_same {w : World} {v : Value} {D : FnD} (h : FnOk' w v D) : Answers f [v] w (.int .i64 (check.chkF D)) := ref_eq h ▸ ref_ans h
end Go.Proofs.YthdcahkedlijpaaGreat.refC
namespace Go.Proofs.YthdcahkedlijpaaGreat.great
open Go.RowKit Go.Proofs.YthdcahkedlijpaaGreat.Am
set_option maxRecDepth 100000
set_option linter.unusedVariables false
set_option linter.unusedSectionVars false
noncomputable def keep : List (Nat × S) := [(1, .ptr 0 0), (2, .bool false)]
def hp : Hp := [(0, ⟨fnCells, true⟩)]
def bigE : E := .or (.not (.lt 7 31)) (.not (.lt 17 13))
def bigT : HT := .by 7 31 (.by 17 13 .leaf .leaf) .leaf
noncomputable def L1 : Lf := (Lf.of (fnIv ++ [])).pin 6 1
noncomputable def L0 : Lf := (Lf.of (fnIv ++ [])).pin 6 0
def topE : E := .or (.not (.lt 2 31)) (.not (.lt 3 31))
noncomputable def LG : Lf := Lf.of (fnIv ++ [])
def topT : HT := .by 2 31 (.by 3 31 .leaf .leaf) .leaf
def bigB (b : BlkD) : Bool := !decide ((b.st.length : Int) < 31) || !decide ((b.ops.length : Int) < 13)
def topB (D : FnD) : Bool := !decide ((D.ls.length : Int) < 31) || !decide ((D.bs.length : Int) < 31)
def greatF (D : FnD) : Bool := topB D || D.bs.any bigB
section
variable {w : World} {v : Value} {D : FnD} (h : FnOk' w v D)
include h
end
end Go.Proofs.YthdcahkedlijpaaGreat.great
namespace Go.Proofs.YthdcahkedlijpaaGreat.size
open Go.RowKit Go.Proofs.YthdcahkedlijpaaGreat.Am
set_option maxRecDepth 100000
set_option linter.unusedVariables false
set_option linter.unusedSectionVars false
def xi (n : Nat) : S := .xi .i64 n
noncomputable def keep (n : Nat) : List (Nat × S) := [(1, .ptr 0 0), (5, xi n), (17, .rv 1), (18, xi 3)]
def hp : Hp := [(0, ⟨fnCells, true⟩)]
noncomputable def L1 : Lf := (Lf.of (fnIv ++ [])).pin 6 1
noncomputable def L0 : Lf := (Lf.of (fnIv ++ [])).pin 6 0
def fx : Fx := ⟨[], { fnFx.xt with sm := [(77, 7, 78)] }⟩
noncomputable def lib : Know → Oracle := fun _ => rowG check.f [.g fnCells] (V.s (.int .i64 0))
noncomputable def LG : Lf := Lf.of (fnIv ++ [])
def sizeK (D : FnD) (i : Nat) : Int := D.bs.length + acc (fun b : BlkD => (b.st.length : Int)) (D.bs.take i)
def sizeF (D : FnD) : Int := D.bs.length + acc (fun b : BlkD => (b.st.length : Int)) D.bs
def mk (D : FnD) (i : Nat) : List Int := [sizeK D i, sizeK D i + (D.blk i).st.length]
def mF (D : FnD) : List Int := [0, 0, sizeF D]
theorem of_chk {D : FnD} (h : check.chkF D = 0) : many.manyF D = false ∧ made.madeF D = true ∧ twos.twosF D = true := by
  unfold check.chkF at h
  cases h1 : many.manyF D <;> cases h2 : made.madeF D <;> cases h3 : twos.twosF D <;> simp [h1, h2, h3] at h ⊢
section
variable {w : World} {v : Value} {D : FnD} (h : FnOk' w v D)
include h
theorem sm (hc : check.chkF D = 0) : twos.Sm D := by
  obtain ⟨h1, h2, _⟩ := of_chk hc
  exact check.sm_of h h1 h2
end
end Go.Proofs.YthdcahkedlijpaaGreat.size
namespace Go.Proofs.YthdcahkedlijpaaGreat.great14
open Go.RowKit Go.Proofs.YthdcahkedlijpaaGreat.Am
set_option maxRecDepth 100000
set_option linter.unusedVariables false
set_option linter.unusedSectionVars false
noncomputable def f : FuncId := 10
noncomputable def F : Func := Tryz.f10
noncomputable def code : Code := loopAt F 0
noncomputable def keep : List (Nat × S) := [(1, .ptr 0 0), (2, .bool false)]
def hp : Hp := [(0, ⟨fnCells, true⟩)]
noncomputable def hd : St := ⟨frOf F.ntmps (keep ++ [(3, .xi .i64 4)]), ⟨hp, 1⟩⟩
noncomputable def sN : St := ⟨frOf F.ntmps keep, ⟨hp, 1⟩⟩
noncomputable def sR : St := ⟨frOf F.ntmps [(2, .bool true)], ⟨[], 1⟩⟩
def bigE : E := .or (.not (.lt 7 31)) (.not (.lt 17 13))
def bigT : HT := .by 7 31 (.by 17 13 .leaf .leaf) .leaf
noncomputable def L1 : Lf := (Lf.of (fnIv ++ [])).pin 6 1
noncomputable def L0 : Lf := (Lf.of (fnIv ++ [])).pin 6 0
noncomputable def turn (tb : Tabs) (giv : List (E × Bool)) (us : List Upd) (x : X) (s1 : St) : Lf → Bool := turnT (rigP libN tb noLoops) f fnFx giv us ⟨4, 0, 3⟩ code hd x s1
theorem step : autoB (turn (tabF.app tabB) [(bigE, false)] [isU (.xi .i64 4) (.xi .i64 5)] .normal hd) bigT L1 = true := by kernel_rfl
theorem bad : autoB (turn (tabF.app tabB) [(bigE, true)] [] .ret sR) bigT L1 = true := by kernel_rfl
theorem stop : autoB (turn tabF [] [] (.exit 0) sN) .leaf L0 = true := by kernel_rfl
noncomputable def row (x : X) (s1 : St) (K : Know) : Loops := rowL 5 ⟨4, 0, 3⟩ (@thU K [isU (.xi .i64 4) (.int .i64 0)]) hd x s1
def topE : E := .or (.not (.lt 2 31)) (.not (.lt 3 31))
noncomputable def run (rows : Know → List (FuncId × Loops)) (giv : List (E × Bool)) (b : Bool) : Lf → Bool := callT (rigP libN tabF fun K => rowsL (rows K)) f fnFx giv [] (fun _ => V.s (.bool b)) [.g fnCells]
noncomputable def LG : Lf := Lf.of (fnIv ++ [])
def topT : HT := .by 2 31 (.by 3 31 .leaf .leaf) .leaf
theorem run_top : autoB (run (fun _ => []) [(topE, true)] true) topT LG = true := by kernel_rfl
theorem run_bad : autoB (run (fun K => [(f, row .ret sR K)]) [(topE, false)] true) topT LG = true := by kernel_rfl
theorem run_ok : autoB (run (fun K => [(f, row (.exit 0) sN K)]) [(topE, false)] false) topT LG = true := by kernel_rfl
theorem tag : tagsOk (F.body.getD .skip) 0 5 = true := by kernel_rfl
section
variable {w : World} {v : Value} {D : FnD} (h : FnOk' w v D)
include h
theorem blks (hB : D.bs.length ≤ 1000) {b : Bool} (hb : (D.bs.all fun x => !great.bigB x) = b) (K : Know) (ok : KnowOk K (fnB w D (atB 0) []).rho (fnB w D (atB 0) []).sig) :
    @LoopOk ((fnB w D (atB 0) []).withK K ok) Tryz.prog (row (if b then .exit 0 else .ret) (if b then sN else sR) K) code := by
  have us : ∀ u ∈ [isU (.xi .i64 4) (.int .i64 0)], UpdOk (fnB w D (atB 0) []) (fnB w D (atB 0) []) u := fun u hu => by
    obtain rfl := List.mem_singleton.1 hu
    exact isU_ok fun r v hv => hv
  have hin : ∀ k, k < D.bs.length → L1.Holds (xsAt (fnXs D (atB k) [])) (fun _ => []) := fun k hk => (twos.start0 h (atB k) (fits_B (by omega)) []).pin (i := 6) (c := 1) (show b2i (decide ((k : Int) < D.bs.length)) = 1 from (one_iff _).2 (by omega))
  have rg : ∀ k, k < D.bs.length → RigOk Tryz.prog (rigP libN (tabF.app tabB) noLoops) (fnB w D (atB k) []) := fun k hk => rig_plain (@tabs_app (fnB w D (atB k) []) tabF tabB (tabF_ok h _ _) (tabB_ok h (q := atB k) hk _))
  have gv : ∀ k b, great.bigB (D.blk k) = b → ∀ p ∈ [(bigE, b)], p.1.num (xsAt (fnXs D (atB k) [])) = p.2 := fun k b e p hp => by
    obtain rfl := List.mem_singleton.1 hp
    exact e
  have hstep : ∀ k, k < D.bs.length → (!great.bigB (D.blk k)) = true → TurnsS Tryz.prog (fnB w D (atB k) []) (fnB w D (atB (k + 1)) []) code hd .normal hd := fun k hk e => by
    refine turn_fn step (rg k hk) (agree_fn _ _ _ _) (hin k hk) (fnFx_ok D _ _) (gv k false (by rwa [Bool.not_eq_true'] at e)) (fun u hu => ?_) rfl (no_loopN f code)
    obtain rfl := List.mem_singleton.1 hu
    exact isU_ok fun r v hv => hv
  have hend : TurnsS Tryz.prog (fnB w D (atB D.bs.length) []) (fnB w D (atB 0) []) code hd (.exit 0) sN :=
    turn_fn stop (rig_plain (tabF_ok h _ _)) (agree_fn _ _ _ _) (L := L0) ((twos.start0 h (atB D.bs.length) (fits_B (by omega)) []).pin (i := 6) (c := 0) (show b2i (decide ((D.bs.length : Int) < D.bs.length)) = 0 by rw [decide_eq_false (by omega)]; rfl)) (fnFx_ok D _ _) (fun p hp => by cases hp) (fun u hu => by cases hu) rfl (no_loopN f code)
  cases b with
  | true =>
    have hall := (all_at D.bs b0 fun x => !great.bigB x).2 hb
    exact @roundsU_ok _ _ (fun k => fnB w D (atB k) []) code _ _ hd _ _ (fun e => by cases e) D.bs.length (agree_fn _ _ [] []) us (fun k hk => hstep k hk (hall k hk)) hend 5 K ok
  | false =>
    rcases first_not (fun i => !great.bigB (D.blk i)) D.bs.length with hall | ⟨N, hN, h0, hn⟩
    · rw [(all_at D.bs b0 fun x => !great.bigB x).1 hall] at hb
      cases hb
    · exact @roundsU_ok _ _ (fun k => fnB w D (atB k) []) code _ _ hd _ _ (fun e => by cases e) N (agree_fn _ _ [] []) us (fun k hk => hstep k (by omega) (h0 k hk)) (turn_fn bad (rg N hN) (agree_fn _ _ _ _) (hin N hN) (fnFx_ok D _ _) (gv N true (by rwa [Bool.not_eq_false'] at hn)) (fun u hu => by cases hu) rfl (no_loopN f code)) 5 K ok
theorem great_ans : Answers f [v] w (.bool (great.greatF D)) := by
  have hst := twos.start0 h (atB 0) (fits_B (by omega)) []
  have gv : ∀ b, great.topB D = b → ∀ p ∈ [(topE, b)], p.1.num (xsAt (fnXs D (atB 0) [])) = p.2 := fun b e p hp => by
    obtain rfl := List.mem_singleton.1 hp
    exact e
  unfold great.greatF
  cases ht : great.topB D with
  | true => exact fn_call h run_top (rig_ok lib_none (tabF_ok h _ _) (rows_ok (T := fun _ => []) fun K ok p hp => by cases hp)) hst (fnFx_ok D _ _) (gv true ht) (fun r x hx => hx)
  | false =>
    have hB : D.bs.length ≤ 1000 := by
      unfold great.topB at ht
      simp only [Bool.or_eq_false_iff, Bool.not_eq_false', decide_eq_true_eq] at ht
      omega
    have rw' : ∀ b, (D.bs.all fun x => !great.bigB x) = b → RigOk Tryz.prog (rigP libN tabF fun K => rowsL [(f, row (if b then .exit 0 else .ret) (if b then sN else sR) K)]) (fnB w D (atB 0) []) := fun b e => rig_ok lib_none (tabF_ok h _ _) (rows_ok (T := fun K => [(f, row (if b then .exit 0 else .ret) (if b then sN else sR) K)]) fun K ok p hp => by
      obtain rfl := List.mem_singleton.1 hp
      exact ⟨F, Tryz.func10, fun c hc => row_fn tag (blks h hB e K ok) hc⟩)
    have en : D.bs.any great.bigB = !(D.bs.all fun x => !great.bigB x) := by rw [List.any_eq_not_all_not]
    rw [Bool.false_or, en]
    cases e : (D.bs.all fun x => !great.bigB x) with
    | true => exact fn_call h run_ok (rw' true e) hst (fnFx_ok D _ _) (gv false ht) (fun r x hx => hx)
    | false => exact fn_call h run_bad (rw' false e) hst (fnFx_ok D _ _) (gv false ht) (fun r x hx => hx)
end
end Go.Proofs.YthdcahkedlijpaaGreat.great14
