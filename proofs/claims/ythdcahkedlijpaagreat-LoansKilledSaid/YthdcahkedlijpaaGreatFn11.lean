/- fnshape.twos counts; it tells which locals are two-phase, and whether they are right. -/
import Derived.Test.YthdcahkedlijpaaGreatFn10
namespace Go.Proofs.YthdcahkedlijpaaGreat.twos
open Go.RowKit Go.Proofs.YthdcahkedlijpaaGreat.Am
set_option maxRecDepth 100000
set_option linter.unusedVariables false
set_option linter.unusedSectionVars false
def locsOf : Nat → List Nat
  | 1 => [25]
  | 2 => [22]
  | 3 => [1]
  | 4 => [1, 17]
  | 5 => [1, 9]
  | 6 => [1, 9, 14]
  | 7 => [1, 14]
  | _ => []
def stState (st : List Value) : Nat := stateOf (placeE.map (E.num (cellI st)))
def occS (st : List Value) (j : Nat) : Int := cnt ((locsOf (stState st)).map (cellI st)) j
def passB (st : List Value) : Bool := passE.num (cellI st)
def passS (st : List Value) (j : Nat) : Int := b2i (passB st && decide (cellI st 9 = (j : Int)))
def twoB (st : List Value) : Bool := twoE.num (cellI st)
def setB (st : List Value) : Bool := twoB st && (decide (cellI st 2 = 0) && (decide (cellI st 3 = 0) && !decide (cellI st 17 = cellI st 1)))
def setS (st : List Value) (j : Nat) : Int := b2i (setB st && decide (cellI st 1 = (j : Int)))
def isS (st : List Value) (j : Nat) : Bool := twoB st && decide (cellI st 1 = (j : Int))
def opOcc (op : List Value) (j : Nat) : Int := b2i (!decide (cellI op 0 = 1) && decide (cellI op 2 = (j : Int)))
def opPassB (op : List Value) : Bool := decide (cellI op 0 = 3) && (decide (cellI op 3 = 0) && decide (cellI op 4 = 0))
def opPass (op : List Value) (j : Nat) : Int := b2i (opPassB op && decide (cellI op 2 = (j : Int)))
structure Ct where
  a : Nat → Int
  p : Nat → Int
  s : Nat → Int
  i : Nat → Bool
def Ct.nought : Ct := ⟨fun _ => 0, fun _ => 0, fun _ => 0, fun _ => false⟩
def Ct.stm (C : Ct) (l : List (List Value)) : Ct := ⟨fun j => C.a j + acc (fun st => occS st j) l, fun j => C.p j + acc (fun st => passS st j) l, fun j => C.s j + acc (fun st => setS st j) l, fun j => C.i j || l.any fun st => isS st j⟩
def Ct.opd (C : Ct) (l : List (List Value)) : Ct := ⟨fun j => C.a j + acc (fun op => opOcc op j) l, fun j => C.p j + acc (fun op => opPass op j) l, C.s, C.i⟩
def Ct.dest (C : Ct) (l : Int) : Ct := ⟨bump C.a l, C.p, C.s, C.i⟩
def Ct.jmp (C : Ct) (b : BlkD) : Ct := if cellI b.pre 0 = 2 then (if cellI b.pre 1 = 1 then C else C.dest (cellI b.pre 3)) else if cellI b.pre 0 = 4 then (C.dest (cellI b.post 0)).opd b.ops else C
def Ct.blk (C : Ct) (b : BlkD) : Ct := (C.stm b.st).jmp b
def Ct.at (D : FnD) (i : Nat) : Ct := (D.bs.take i).foldl Ct.blk Ct.nought
def Ct.fn (D : FnD) : Ct := D.bs.foldl Ct.blk Ct.nought
structure Ct.In (C : Ct) (M : Int) : Prop where
  a : ∀ j, 0 ≤ C.a j ∧ C.a j ≤ M
  p : ∀ j, 0 ≤ C.p j ∧ C.p j ≤ M
  s : ∀ j, 0 ≤ C.s j ∧ C.s j ≤ M
theorem locs_len (s : Nat) : (locsOf s).length ≤ 3 := by unfold locsOf; split <;> decide
theorem occ_le (st : List Value) (j : Nat) : 0 ≤ occS st j ∧ occS st j ≤ ((3 : Nat) : Int) := by
  have h := acc_le (fun l => b2i (decide (l = (j : Int)))) 1 ((locsOf (stState st)).map (cellI st)) fun x _ => by have := b2i_le (decide (x = (j : Int))); omega
  have h3 := locs_len (stState st)
  unfold occS cnt
  rw [List.length_map] at h
  omega
theorem In.stm {C : Ct} {M : Int} (h : C.In M) (l : List (List Value)) : (C.stm l).In (M + 3 * l.length) := by
  have ha := fun j => acc_le (fun st => occS st j) 3 l fun x _ => occ_le x j
  have hp := fun j => acc_le (fun st => passS st j) 1 l fun x _ => by have := b2i_le (passB x && decide (cellI x 9 = (j : Int))); exact this
  have hs := fun j => acc_le (fun st => setS st j) 1 l fun x _ => by have := b2i_le (setB x && decide (cellI x 1 = (j : Int))); exact this
  refine ⟨fun j => ?_, fun j => ?_, fun j => ?_⟩
  · have := ha j; have := h.a j; show 0 ≤ C.a j + _ ∧ C.a j + _ ≤ _; omega
  · have := hp j; have := h.p j; show 0 ≤ C.p j + _ ∧ C.p j + _ ≤ _; omega
  · have := hs j; have := h.s j; show 0 ≤ C.s j + _ ∧ C.s j + _ ≤ _; omega
theorem In.opd {C : Ct} {M : Int} (h : C.In M) (l : List (List Value)) : (C.opd l).In (M + l.length) := by
  have ha := fun j => acc_le (fun op => opOcc op j) 1 l fun x _ => b2i_le _
  have hp := fun j => acc_le (fun op => opPass op j) 1 l fun x _ => b2i_le _
  refine ⟨fun j => ?_, fun j => ?_, fun j => ?_⟩
  · have := ha j; have := h.a j; show 0 ≤ C.a j + _ ∧ C.a j + _ ≤ _; omega
  · have := hp j; have := h.p j; show 0 ≤ C.p j + _ ∧ C.p j + _ ≤ _; omega
  · have := h.s j; show 0 ≤ C.s j ∧ C.s j ≤ _; omega
theorem In.dest {C : Ct} {M : Int} (h : C.In M) (l : Int) : (C.dest l).In (M + 1) :=
  ⟨bump_b h.a, fun j => by have := h.p j; show 0 ≤ C.p j ∧ C.p j ≤ _; omega, fun j => by have := h.s j; show 0 ≤ C.s j ∧ C.s j ≤ _; omega⟩
theorem In.more {C : Ct} {M N : Int} (h : C.In M) (hn : M ≤ N) : C.In N := ⟨fun j => by have := h.a j; omega, fun j => by have := h.p j; omega, fun j => by have := h.s j; omega⟩
theorem In.jmp {C : Ct} {M : Int} (h : C.In M) (b : BlkD) : (C.jmp b).In (M + 1 + b.ops.length) := by
  unfold Ct.jmp
  split
  · split
    · exact In.more h (by omega)
    · exact In.more (In.dest h _) (by omega)
  · split
    · exact In.opd (In.dest h _) _
    · exact In.more h (by omega)
theorem In.nought : Ct.nought.In 0 := ⟨fun _ => ⟨Int.le_refl _, Int.le_refl _⟩, fun _ => ⟨Int.le_refl _, Int.le_refl _⟩, fun _ => ⟨Int.le_refl _, Int.le_refl _⟩⟩
structure Sm (D : FnD) : Prop where
  b : D.bs.length ≤ 24
  s : ∀ b ∈ D.bs, b.st.length ≤ 24 ∧ b.ops.length ≤ 8
theorem In.blk {C : Ct} {M : Int} (h : C.In M) {b : BlkD} (hb : b.st.length ≤ 24 ∧ b.ops.length ≤ 8) : (C.blk b).In (M + 1000) := In.more (In.jmp (In.stm h b.st) b) (by omega)
theorem at_succ {D : FnD} {i : Nat} (hi : i < D.bs.length) : Ct.at D (i + 1) = (Ct.at D i).blk (D.blk i) := by
  unfold Ct.at
  rw [List.take_succ_eq_append_getElem hi, List.foldl_append]
  show Ct.blk _ _ = _
  congr 1
  unfold FnD.blk
  rw [List.getD_eq_getElem?_getD, List.getElem?_eq_getElem hi]
  rfl
theorem blk_mem {D : FnD} {i : Nat} (hi : i < D.bs.length) : D.blk i ∈ D.bs := by
  unfold FnD.blk
  rw [List.getD_eq_getElem?_getD, List.getElem?_eq_getElem hi]
  exact List.getElem_mem hi
theorem In.at {D : FnD} (h : Sm D) : ∀ {i : Nat}, i ≤ D.bs.length → (Ct.at D i).In (1000 * i)
  | 0, _ => In.nought
  | i + 1, hi => by
    rw [at_succ hi]
    exact In.more (In.blk (In.at h (by omega)) (h.s _ (blk_mem hi))) (by omega)
def rowsI (st : List Value) (C : Ct) : List (Nat → Int) :=
  [C.a, C.p, C.s, fun j => b2i (C.i j), bump C.a (cellI st 25), bump C.a (cellI st 22), bump C.a (cellI st 1), bump (bump C.a (cellI st 1)) (cellI st 17), bump (bump C.a (cellI st 1)) (cellI st 9),
   bump (bump (bump C.a (cellI st 1)) (cellI st 9)) (cellI st 14), bump (bump C.a (cellI st 1)) (cellI st 14), bump C.p (cellI st 9), bump C.s (cellI st 1)]
def two1 (F : Nat → Int) (l : Int) : List Int := [F l.toNat, F l.toNat + 1]
def singI (st : List Value) (C : Ct) : List Int :=
  two1 C.a (cellI st 25) ++ (two1 C.a (cellI st 22) ++ (two1 C.a (cellI st 1) ++ (two1 (bump C.a (cellI st 1)) (cellI st 17) ++ (two1 (bump C.a (cellI st 1)) (cellI st 9) ++ (two1 (bump (bump C.a (cellI st 1)) (cellI st 9)) (cellI st 14) ++ (two1 (bump C.a (cellI st 1)) (cellI st 14) ++ (two1 C.p (cellI st 9) ++ two1 C.s (cellI st 1))))))))
def moreI (st : List Value) (C : Ct) : List Int := rows16 (rowsI st C) ++ singI st C
theorem fx_I {D : FnD} {q : At} {C : Ct} {M : Int} (h : C.In M) (hM : M ≤ 900000) : FxOk (trFx trI) (xsAt (fnXs D q (moreI (D.stm q.i q.k) C))) := by
  refine trFx_ok (fnFx_ok D q _) fun t ht => ?_
  have l49 : xsAt (fnXs D q (moreI (D.stm q.i q.k) C)) 49 = cellI (D.stm q.i q.k) 25 := rfl
  have l46 : xsAt (fnXs D q (moreI (D.stm q.i q.k) C)) 46 = cellI (D.stm q.i q.k) 22 := rfl
  have l25 : xsAt (fnXs D q (moreI (D.stm q.i q.k) C)) 25 = cellI (D.stm q.i q.k) 1 := rfl
  have l41 : xsAt (fnXs D q (moreI (D.stm q.i q.k) C)) 41 = cellI (D.stm q.i q.k) 17 := rfl
  have l33 : xsAt (fnXs D q (moreI (D.stm q.i q.k) C)) 33 = cellI (D.stm q.i q.k) 9 := rfl
  have l38 : xsAt (fnXs D q (moreI (D.stm q.i q.k) C)) 38 = cellI (D.stm q.i q.k) 14 := rfl
  unfold moreI at l49 l46 l25 l41 l33 l38 ⊢
  have b1 := bump_b (l := cellI (D.stm q.i q.k) 1) h.a
  have b2 := bump_b (l := cellI (D.stm q.i q.k) 9) b1
  simp only [trI, List.mem_cons, List.not_mem_nil, or_false] at ht
  rcases ht with rfl | rfl | rfl | rfl | rfl | rfl | rfl | rfl | rfl
  · exact cnt_ok (N := 13) (n := 0) rfl rfl (by rw [l49]; rfl) rfl (by rw [l49]; rfl) (by rw [l49]; rfl) h.a (by omega)
  · exact cnt_ok (N := 13) (n := 2) rfl rfl (by rw [l46]; rfl) rfl (by rw [l46]; rfl) (by rw [l46]; rfl) h.a (by omega)
  · exact cnt_ok (N := 13) (n := 4) rfl rfl (by rw [l25]; rfl) rfl (by rw [l25]; rfl) (by rw [l25]; rfl) h.a (by omega)
  · exact cnt_ok (N := 13) (n := 6) rfl rfl (by rw [l41]; rfl) rfl (by rw [l41]; rfl) (by rw [l41]; rfl) b1 (by omega)
  · exact cnt_ok (N := 13) (n := 8) rfl rfl (by rw [l33]; rfl) rfl (by rw [l33]; rfl) (by rw [l33]; rfl) b1 (by omega)
  · exact cnt_ok (N := 13) (n := 10) rfl rfl (by rw [l38]; rfl) rfl (by rw [l38]; rfl) (by rw [l38]; rfl) b2 (by omega)
  · exact cnt_ok (N := 13) (n := 12) rfl rfl (by rw [l38]; rfl) rfl (by rw [l38]; rfl) (by rw [l38]; rfl) b1 (by omega)
  · exact cnt_ok (N := 13) (n := 14) rfl rfl (by rw [l33]; rfl) rfl (by rw [l33]; rfl) (by rw [l33]; rfl) h.p (by omega)
  · exact cnt_ok (N := 13) (n := 16) rfl rfl (by rw [l25]; rfl) rfl (by rw [l25]; rfl) (by rw [l25]; rfl) h.s (by omega)
theorem state_le (bs : List Bool) : stateOf bs ≤ 7 := by
  unfold stateOf
  split
  · rename_i f sa p rp ra rb
    cases f <;> cases sa <;> cases p <;> cases rp <;> cases ra <;> cases rb <;> decide
  · decide
theorem row_state (st : List Value) (C : Ct) (s : Nat) (hs : s ≤ 7) : ∃ F, (rowsI st C)[rowOf s]? = some F ∧ ∀ j, F j = C.a j + cnt ((locsOf s).map (cellI st)) j := by
  have h8 : s = 0 ∨ s = 1 ∨ s = 2 ∨ s = 3 ∨ s = 4 ∨ s = 5 ∨ s = 6 ∨ s = 7 := by omega
  rcases h8 with rfl | rfl | rfl | rfl | rfl | rfl | rfl | rfl
  · exact ⟨_, rfl, fun j => by simp [locsOf, cnt, acc]⟩
  · exact ⟨_, rfl, fun j => by simp [locsOf, cnt, acc, bump]⟩
  · exact ⟨_, rfl, fun j => by simp [locsOf, cnt, acc, bump]⟩
  · exact ⟨_, rfl, fun j => by simp [locsOf, cnt, acc, bump]⟩
  · exact ⟨_, rfl, fun j => by simp [locsOf, cnt, acc, bump]; omega⟩
  · exact ⟨_, rfl, fun j => by simp [locsOf, cnt, acc, bump]; omega⟩
  · exact ⟨_, rfl, fun j => by simp [locsOf, cnt, acc, bump]; omega⟩
  · exact ⟨_, rfl, fun j => by simp [locsOf, cnt, acc, bump]; omega⟩
theorem any_take {α : Type} (l : List α) (d : α) (p : α → Bool) {k : Nat} (hk : k < l.length) : (l.take (k + 1)).any p = ((l.take k).any p || p (l.getD k d)) := by
  rw [List.take_succ_eq_append_getElem hk, List.any_append, List.getD_eq_getElem?_getD, List.getElem?_eq_getElem hk]
  simp
def ctK (D : FnD) (C : Ct) (i k : Nat) : Ct := C.stm ((D.blk i).st.take k)
def mI (D : FnD) (C : Ct) (i k : Nat) : List Int := moreI (D.stm i k) (ctK D C i k)
theorem ct_step {D : FnD} {C : Ct} {i k : Nat} (hk : k < (D.blk i).st.length) :
    (∀ j, (ctK D C i (k + 1)).a j = (ctK D C i k).a j + occS (D.stm i k) j) ∧ (∀ j, (ctK D C i (k + 1)).p j = (ctK D C i k).p j + passS (D.stm i k) j) ∧ (∀ j, (ctK D C i (k + 1)).s j = (ctK D C i k).s j + setS (D.stm i k) j) ∧ ∀ j, (ctK D C i (k + 1)).i j = ((ctK D C i k).i j || isS (D.stm i k) j) := by
  refine ⟨fun j => ?_, fun j => ?_, fun j => ?_, fun j => ?_⟩
  · show C.a j + acc _ _ = C.a j + acc _ _ + _; rw [acc_take _ _ [] hk]; unfold FnD.stm; omega
  · show C.p j + acc _ _ = C.p j + acc _ _ + _; rw [acc_take _ _ [] hk]; unfold FnD.stm; omega
  · show C.s j + acc _ _ = C.s j + acc _ _ + _; rw [acc_take _ _ [] hk]; unfold FnD.stm; omega
  · show (C.i j || List.any _ _) = (C.i j || List.any _ _ || _); rw [any_take _ [] _ hk, Bool.or_assoc]; rfl
section
variable {w : World} {v : Value} {D : FnD} (h : FnOk' w v D)
include h
theorem start0 (q : At) (hq : Fits D q) (m : List Int) : (Lf.of (fnIv ++ [])).Holds (xsAt (fnXs D q m)) (fun _ => []) := fn_start h hq (iv := []) (m1 := []) (m2 := m) trivial _
theorem inner {C : Ct} {M : Int} (hC : C.In M) (hM : M ≤ 100000) {q : At} {m : List Int} (hi : q.i < D.bs.length) (hB : D.bs.length ≤ 1000) (hS : (D.blk q.i).st.length ≤ 1000) (hok : ((D.blk q.i).st.all fun st => okStE.val st) = true)
    (h0 : ∀ j, j < 16 → xsAt (fnXs D q m) (nm 0 j) = C.a j ∧ xsAt (fnXs D q m) (nm 1 j) = C.p j ∧ xsAt (fnXs D q m) (nm 2 j) = C.s j ∧ xsAt (fnXs D q m) (nm 3 j) = b2i (C.i j))
    (h1 : ∀ j, j < 16 → xsAt (fnXs D q m) (nm 4 j) = (C.stm (D.blk q.i).st).a j ∧ xsAt (fnXs D q m) (nm 5 j) = (C.stm (D.blk q.i).st).p j ∧ xsAt (fnXs D q m) (nm 6 j) = (C.stm (D.blk q.i).st).s j ∧ xsAt (fnXs D q m) (nm 7 j) = b2i ((C.stm (D.blk q.i).st).i j)) :
    ∀ K (ok : KnowOk K (fnB w D q m).rho (fnB w D q m).sig), @LoopOk ((fnB w D q m).withK K ok) Tryz.prog (rowI K) codeI := by
  intro K ok
  have fit : ∀ k, k ≤ (D.blk q.i).st.length → Fits D (made.atS q.i k) := fun k hk => fits_small ⟨by show q.i ≤ 1000; omega, by show k ≤ 1000; omega, Nat.zero_le _, Nat.zero_le _⟩
  have okk := (all_at (D.blk q.i).st [] fun st => okStE.val st).2 hok
  have r0 : ∀ k b F, (rowsI (D.stm q.i k) (ctK D C q.i k))[b]? = some F → ∀ j, j < 16 → (fnB w D (made.atS q.i k) (mI D C q.i k)).rho (nm b j) = F j := fun k b F e j hj => fn_row e hj
  have us : ∀ u ∈ us0, UpdOk (fnB w D q m) (fnB w D (made.atS q.i 0) (mI D C q.i 0)) u := fun u hu => by
    rcases List.mem_cons.1 hu with rfl | hu
    · exact isU_ok fun r v hv => hv
    refine ups_app (pickU_ok fun j hj => ?_) (ups_app (pickU_ok fun j hj => ?_) (ups_app (pickU_ok fun j hj => ?_) (sameB16_ok fun j hj => ?_))) u hu
    · exact (h0 j hj).1.trans ((r0 0 0 _ rfl j hj).trans (by show C.a j + 0 = _; omega)).symm
    · exact (h0 j hj).2.1.trans ((r0 0 1 _ rfl j hj).trans (by show C.p j + 0 = _; omega)).symm
    · exact (h0 j hj).2.2.1.trans ((r0 0 2 _ rfl j hj).trans (by show C.s j + 0 = _; omega)).symm
    · exact (h0 j hj).2.2.2.trans ((r0 0 3 _ rfl j hj).trans (by show b2i (C.i j || false) = _; rw [Bool.or_false])).symm
  refine @roundsU_ok _ _ (fun k => fnB w D (made.atS q.i k) (mI D C q.i k)) codeI _ _ hdI _ _ (fun e => by cases e) (D.blk q.i).st.length (agree_blk q (made.atS q.i 0) rfl _ _) us (fun k hk => ?_) ?_ 8 K ok
  · obtain ⟨sa, sp, ss, si⟩ := ct_step (C := C) hk
    have okS := okk k hk
    have rg := fun c hc => st_range (stm_is h hi hk).1 okS (c := c) hc
    refine turn_fn stepI (rig_plain (@tabs_app (fnB w D (made.atS q.i k) (mI D C q.i k)) _ _ (tabF_ok h _ _) (@tabs_app (fnB w D (made.atS q.i k) (mI D C q.i k)) _ _ (tabB_ok h (q := made.atS q.i k) hi _) (tabS_ok h (q := made.atS q.i k) hi hk _)))) (agree_blk (made.atS q.i k) (made.atS q.i (k + 1)) rfl _ _) (L := L1) ?_
      (fx_I (q := made.atS q.i k) (In.stm hC _) (by have : ((D.blk q.i).st.take k).length ≤ 1000 := by rw [List.length_take]; omega
                                                    omega)) (fun p hp => ?_) (fun u hu => ?_) rfl (no_loopN f codeI)
    · have hb := ((start0 h (made.atS q.i k) (fit k (by omega)) (mI D C q.i k)).pin (i := 6) (c := 1) (show b2i (decide ((q.i : Int) < D.bs.length)) = 1 from (one_iff _).2 (by omega))).pin (i := 23) (c := 1) (show b2i (decide ((k : Int) < (D.blk q.i).st.length)) = 1 from (one_iff _).2 (by omega))
      have nr : ∀ {L : Lf} {i c : Nat}, c ∈ [25, 1, 9, 14, 17, 22] → xsAt (fnXs D (made.atS q.i k) (mI D C q.i k)) i = cellI (D.stm q.i k) c → L.Holds (xsAt (fnXs D (made.atS q.i k) (mI D C q.i k))) (fun _ => []) → (near16 L i).Holds (xsAt (fnXs D (made.atS q.i k) (mI D C q.i k))) (fun _ => []) := fun {L i c} hc e hL => by
        obtain ⟨q1, q2⟩ := rg c hc
        exact (hL.lo (i := i) (c := 0) (by rw [e]; exact q1)).hi (i := i) (c := 15) (by rw [e]; exact q2)
      exact nr (i := 46) (c := 22) (by decide) rfl (nr (i := 41) (c := 17) (by decide) rfl (nr (i := 38) (c := 14) (by decide) rfl (nr (i := 33) (c := 9) (by decide) rfl (nr (i := 25) (c := 1) (by decide) rfl (nr (i := 49) (c := 25) (by decide) rfl hb)))))
    · obtain rfl := List.mem_singleton.1 hp
      exact (okS_num (made.atS q.i k) _).trans okS
    · have e24 : ∀ e : E, e.bd 26 = true → (at24 e).num (fnB w D (made.atS q.i k) (mI D C q.i k)).rho = e.num (cellI (D.stm q.i k)) := fun e he => stm_num (made.atS q.i k) _ he
      have e75 : (fnB w D (made.atS q.i k) (mI D C q.i k)).rho 75 = b2i (decide (cellI (D.stm q.i k) 17 = cellI (D.stm q.i k) 1)) := rfl
      have e26 : (fnB w D (made.atS q.i k) (mI D C q.i k)).rho 26 = cellI (D.stm q.i k) 2 := rfl
      have e27 : (fnB w D (made.atS q.i k) (mI D C q.i k)).rho 27 = cellI (D.stm q.i k) 3 := rfl
      have e25 : (fnB w D (made.atS q.i k) (mI D C q.i k)).rho 25 = cellI (D.stm q.i k) 1 := rfl
      rcases List.mem_cons.1 hu with rfl | hu
      · exact isU_ok fun r v hv => hv
      refine ups_app (pickU_ok fun j hj => ?_) (ups_app (pickU_ok fun j hj => ?_) (ups_app (pickU_ok fun j hj => ?_) (bitU16_ok fun j hj => ?_))) u hu
      · obtain ⟨G, g1, g2⟩ := row_state (D.stm q.i k) (ctK D C q.i k) (stState (D.stm q.i k)) (state_le _)
        have eS : stateOf ((placeE.map at24).map (E.num (fnB w D (made.atS q.i k) (mI D C q.i k)).rho)) = stState (D.stm q.i k) := by
          refine congrArg stateOf ?_
          rw [List.map_map]
          refine List.map_congr_left fun e he => e24 e ?_
          simp only [placeE, List.mem_cons, List.not_mem_nil, or_false] at he
          rcases he with rfl | rfl | rfl | rfl | rfl | rfl <;> rfl
        rw [eS, r0 k _ G g1 j hj, g2 j, r0 (k + 1) 0 _ rfl j hj, sa j]
        rfl
      · simp only [List.map_cons, List.map_nil, List.headD_cons]
        rw [e24 passE rfl, r0 (k + 1) 1 _ rfl j hj, sp j]
        unfold passS passB
        cases hp : passE.num (cellI (D.stm q.i k)) with
        | false => rw [cond_false, r0 k 1 _ rfl j hj, Bool.false_and]; show _ = _ + (0 : Int); omega
        | true => rw [cond_true, r0 k 11 _ rfl j hj, Bool.true_and]; rfl
      · have eN : setN.num (fnB w D (made.atS q.i k) (mI D C q.i k)).rho = setB (D.stm q.i k) := by
          show ((at24 twoE).num _ && ((decide (_ = (0 : Int)) && true) && ((decide (_ = (0 : Int)) && true) && !(decide (_ = (1 : Int)) && true)))) = _
          rw [e24 twoE rfl, e75, e26, e27, made.dec_b2i, Bool.and_true, Bool.and_true, Bool.and_true]
          rfl
        simp only [List.map_cons, List.map_nil, List.headD_cons]
        rw [eN, r0 (k + 1) 2 _ rfl j hj, ss j]
        unfold setS
        cases hp : setB (D.stm q.i k) with
        | false => rw [cond_false, r0 k 2 _ rfl j hj, Bool.false_and]; show _ = _ + (0 : Int); omega
        | true => rw [cond_true, r0 k 12 _ rfl j hj, Bool.true_and]; rfl
      · rw [e24 twoE rfl, e25, r0 (k + 1) 3 _ rfl j hj, r0 k 3 _ rfl j hj]
        show b2i ((ctK D C q.i (k + 1)).i j) = 1 ↔ (_ ∨ b2i ((ctK D C q.i k).i j) = 1)
        rw [si j, made.b2i_one, made.b2i_one]
        unfold isS twoB
        rw [Bool.or_eq_true, Bool.and_eq_true, decide_eq_true_iff]
        exact Or.comm
  · refine turn_fn stopI (rig_plain (@tabs_app (fnB w D (made.atS q.i _) (mI D C q.i _)) _ _ (tabF_ok h _ _) (tabB_ok h (q := made.atS q.i _) hi _))) (agree_blk (made.atS q.i (D.blk q.i).st.length) q rfl _ _) (L := L3) ?_ (fnFx_ok D _ _) (fun p hp => by cases hp) (fun u hu => ?_) rfl (no_loopN f codeI)
    · exact ((start0 h _ (fit _ (Nat.le_refl _)) _).pin (i := 6) (c := 1) (show b2i (decide ((q.i : Int) < D.bs.length)) = 1 from (one_iff _).2 (by omega))).pin (i := 23) (c := 0) (show b2i (decide (((D.blk q.i).st.length : Int) < (D.blk q.i).st.length)) = 0 by rw [decide_eq_false (by omega)]; rfl)
    · have e : ctK D C q.i (D.blk q.i).st.length = C.stm (D.blk q.i).st := by unfold ctK; rw [List.take_length]
      have rr := r0 (D.blk q.i).st.length
      rw [e] at rr
      refine ups_app (pickU_ok fun j hj => ?_) (ups_app (pickU_ok fun j hj => ?_) (ups_app (pickU_ok fun j hj => ?_) (sameB16_ok fun j hj => ?_))) u hu
      · exact (rr 0 _ rfl j hj).trans (h1 j hj).1.symm
      · exact (rr 1 _ rfl j hj).trans (h1 j hj).2.1.symm
      · exact (rr 2 _ rfl j hj).trans (h1 j hj).2.2.1.symm
      · exact (rr 3 _ rfl j hj).trans (h1 j hj).2.2.2.symm
end
end Go.Proofs.YthdcahkedlijpaaGreat.twos
