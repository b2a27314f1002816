/- What a jump uses and moves: Uses and Moves, and the reference's, answer with these lists. What a jump uses and moves: the contracts. What a jump uses and moves: the contracts, joined. -/
import Derived.Test.YthdcahkedlijpaaGreatJump3C
namespace Go.Proofs.YthdcahkedlijpaaGreat.Am
open Go.RowKit
set_option maxRecDepth 100000
set_option maxHeartbeats 1000000
set_option linter.unusedVariables false
set_option linter.unusedSectionVars false
def partsJ (pre : List Value) (els : List (List Value)) : List (List Value) := if cellI pre 0 = 2 then [(pre.drop 1).take 5] else els
def partJ (post : List Value) : Prop := cellI post 1 = 1 ∨ 0 < cellI post 2
instance (post : List Value) : Decidable (partJ post) := inferInstanceAs (Decidable (_ ∨ _))
def usesJ (pre : List Value) (els : List (List Value)) (post : List Value) : List Int := (if cellI pre 0 = 3 then [0] else []) ++ ((if partJ post then [cellI post 0] else []) ++ toldL selU (partsJ pre els))
def movesJ (pre : List Value) (els : List (List Value)) (_ : List Value) : List Int := toldL selM (partsJ pre els)
theorem zsv {us : List Value} {o n : Nat} (h : (E.zero (zs o n)).val us = true) : ∀ i, i < n → cellI us (o + i) = 0 := by
  intro i hi
  simp only [E.val, List.all_eq_true, zs, List.mem_map, List.mem_range] at h
  exact of_decide_eq_true (h (o + i, 0) ⟨i, hi, rfl⟩)
theorem onev {us : List Value} {i : Nat} {c : Int} (h : (E.zero [(i, c)]).val us = true) : cellI us i = c := by
  simp only [E.val, List.all_cons, List.all_nil, Bool.and_true] at h
  exact of_decide_eq_true h
theorem inv {us : List Value} {i : Nat} {c : Int} (h : (inRE i c).val us = true) : 0 ≤ cellI us i ∧ cellI us i < c := by
  simp only [inRE, E.ands, E.val, Bool.and_eq_true, Bool.not_eq_true', decide_eq_true_eq, decide_eq_false_iff_not] at h
  omega
section
variable {w : World} {v : Value} {pre : List Value} {sv : Value} {post : List Value} {els : List (List Value)} (hj : JumpIs w v pre sv post els)
include hj
theorem fl_pre {i : Nat} (h : i < 9) : cellI (flatJ pre els post) i = cellI pre i := cellI_lt (by rw [len_pre hj]; exact h)
theorem fl_post (i : Nat) : cellI (flatJ pre els post) (10 + i) = cellI post i := by
  unfold flatJ
  have : pre ++ Value.int .i64 els.length :: post = (pre ++ [Value.int .i64 els.length]) ++ post := by simp
  rw [this, cellI_ge (by simp [len_pre hj])]
inductive IsJ (pre : List Value) (els : List (List Value)) (post : List Value) : Prop where
  | goto (k : cellI pre 0 = 1) (a : ∀ i, i < 6 → cellI pre (1 + i) = 0) (n : 0 ≤ cellI pre 7 ∧ cellI pre 7 < 24) (e : cellI pre 8 = 0) (l : els = []) (d : ∀ i, i < 3 → cellI post i = 0)
  | branch (k : cellI pre 0 = 2) (a : (okOpE 0).val ((pre.drop 1).take 5) = true) (f : cellI pre 6 = 0) (n : 0 ≤ cellI pre 7 ∧ cellI pre 7 < 24) (e : 0 ≤ cellI pre 8 ∧ cellI pre 8 < 24) (l : els = []) (d : ∀ i, i < 3 → cellI post i = 0)
  | last (k : cellI pre 0 = 3 ∨ cellI pre 0 = 5) (a : ∀ i, i < 8 → cellI pre (1 + i) = 0) (l : els = []) (d : ∀ i, i < 3 → cellI post i = 0)
  | call (k : cellI pre 0 = 4) (a : ∀ i, i < 5 → cellI pre (1 + i) = 0) (f : 0 ≤ cellI pre 6 ∧ cellI pre 6 < 8) (n : 0 ≤ cellI pre 7 ∧ cellI pre 7 < 24) (e : cellI pre 8 = 0) (l : els.length < 9) (d : (okPlE 0).val post = true) (o : (els.all fun el => (okOpE 0).val el) = true)
theorem isJ (h : okJ pre els post = true) : IsJ pre els post := by
  have hl := len_flat hj
  have lt : ∀ {i : Nat}, i < 13 → cellI (flatJ pre els post ++ (bitsJ pre els post).map (Value.int .i64)) i = cellI (flatJ pre els post) i := fun {i} hi => cellI_lt (by rw [hl]; exact hi)
  have bit : ∀ {j : Nat} {x : Bool}, (bitsJ pre els post)[j]? = some (b2i x) → cellI (flatJ pre els post ++ (bitsJ pre els post).map (Value.int .i64)) (13 + j) = 1 → x = true := fun {j x} hx hc => by
    rw [cellI_ge hl] at hc
    unfold cellI at hc
    rw [List.getElem?_map, hx] at hc
    have hc : b2i x = 1 := hc
    cases x
    · cases hc
    · rfl
  have e : ∀ vs : List Value, okJB.val vs = (((E.zero [(0, 1)]).val vs && ((E.zero (zs 1 6)).val vs && ((inRE 7 24).val vs && (E.zero (zs 8 5)).val vs))) ||
      (((E.zero [(0, 2)]).val vs && ((E.zero [(14, 1)]).val vs && ((E.zero [(6, 0)]).val vs && ((inRE 7 24).val vs && ((inRE 8 24).val vs && (E.zero (zs 9 4)).val vs))))) ||
      ((((E.zero [(0, 3)]).val vs || (E.zero [(0, 5)]).val vs) && (E.zero (zs 1 12)).val vs) ||
      ((E.zero [(0, 4)]).val vs && ((E.zero (zs 1 5)).val vs && ((inRE 6 8).val vs && ((inRE 7 24).val vs && ((E.zero [(8, 0)]).val vs && ((E.lt 9 9).val vs && ((E.zero [(15, 1)]).val vs && (E.zero [(13, 1)]).val vs)))))))))) := fun _ => rfl
  unfold okJ at h
  rw [e] at h
  simp only [Bool.or_eq_true, Bool.and_eq_true] at h
  have ln := cell_len hj
  have nil0 : cellI (flatJ pre els post) 9 = 0 → els = [] := fun h0 => List.eq_nil_of_length_eq_zero (by rw [ln] at h0; omega)
  have pr := fun {i : Nat} (hi : i < 9) => (lt (show i < 13 by omega)).trans (fl_pre hj hi)
  have po := fun {i : Nat} (hi : i < 3) => (lt (show 10 + i < 13 by omega)).trans (fl_post hj i)
  rcases h with ⟨k, a, n, z⟩ | ⟨k, a, f, n, e8, z⟩ | ⟨k, z⟩ | ⟨k, a, f, n, e8, l, d, o⟩
  · have a := zsv a; have n := inv n; have z := zsv z; have k := onev k
    rw [pr (by decide)] at k n
    refine .goto k (fun i hi => ?_) n ?_ (nil0 ?_) fun i hi => ?_
    · rw [← pr (by omega)]; exact a i hi
    · rw [← pr (by decide)]; exact z 0 (by decide)
    · rw [← lt (by decide)]; exact z 1 (by decide)
    · rw [← po hi, show 10 + i = 8 + (2 + i) by omega]; exact z (2 + i) (by omega)
  · have k := onev k; have f := onev f; have n := inv n; have e8 := inv e8; have z := zsv z
    have a : (okOpE 1).val (flatJ pre els post) = true := bit (j := 1) rfl (onev a)
    rw [pr (by decide)] at k n f e8
    refine .branch k ?_ f n e8 (nil0 ?_) fun i hi => ?_
    · have h0 : (okOpE 0).val (((flatJ pre els post).drop 1).take 5) = (okOpE 1).val (flatJ pre els post) := (mv_val (okOpE 0) (by decide)).trans rfl
      have h1 : ((flatJ pre els post).drop 1).take 5 = (pre.drop 1).take 5 := by
        unfold flatJ
        rw [List.drop_append_of_le_length (by rw [len_pre hj]; decide), List.take_append_of_le_length (by rw [List.length_drop, len_pre hj]; decide)]
      rw [← h1, h0]
      exact a
    · rw [← lt (by decide)]; exact z 0 (by decide)
    · rw [← po hi, show 10 + i = 9 + (1 + i) by omega]; exact z (1 + i) (by omega)
  · have z := zsv z
    refine .last (k.imp (fun k => by have k := onev k; rwa [pr (by decide)] at k) (fun k => by have k := onev k; rwa [pr (by decide)] at k)) (fun i hi => ?_) (nil0 ?_) fun i hi => ?_
    · rw [← pr (by omega)]; exact z i (by omega)
    · rw [← lt (by decide)]; exact z 8 (by decide)
    · rw [← po hi, show 10 + i = 1 + (9 + i) by omega]; exact z (9 + i) (by omega)
  · have k := onev k; have a := zsv a; have f := inv f; have n := inv n; have e8 := onev e8
    have l : cellI (flatJ pre els post ++ (bitsJ pre els post).map (Value.int .i64)) 9 < 9 := by simpa [E.val] using l
    have d : (okPlE 10).val (flatJ pre els post) = true := bit (j := 2) rfl (onev d)
    have o : (els.all fun el => (okOpE 0).val el) = true := bit (j := 0) rfl (onev o)
    rw [pr (by decide)] at k f n e8
    rw [lt (by decide), ln] at l
    refine .call k (fun i hi => ?_) f n e8 (by omega) ?_ o
    · rw [← pr (by omega)]; exact a i hi
    · have h0 : (okPlE 0).val (((flatJ pre els post).drop 10).take 3) = (okPlE 10).val (flatJ pre els post) := pl_at
      have h1 : ((flatJ pre els post).drop 10).take 3 = post := by
        unfold flatJ
        rw [List.drop_append, List.drop_of_length_le (by rw [len_pre hj]; decide), len_pre hj]
        show ((Value.int .i64 els.length :: post).drop 1).take 3 = post
        rw [List.drop_succ_cons, List.drop_zero, List.take_of_length_le (by rw [len_post hj]; decide)]
      rw [← h1, h0]
      exact d
theorem okPost (i : Nat) {k : Kd} (hk : kPost[i]? = some k) : ∃ x, post[i]? = some x ∧ k.ok x := All2.nth hj.post (n := i) (x := k) (by rw [nth_eq]; exact hk)
theorem post_b : cellI post 1 = 0 ∨ cellI post 1 = 1 := by
  obtain ⟨x, hx, b, hb⟩ := okPost hj 1 (k := .b) rfl
  subst hb
  unfold cellI
  rw [hx]
  cases b
  · exact .inl rfl
  · exact .inr rfl
theorem post_f : 0 ≤ cellI post 2 := by
  obtain ⟨x, hx, n, hn, h0, _⟩ := okPost hj 2 (k := .i .u8) rfl
  subst hn
  unfold cellI
  rw [hx]
  exact h0
theorem dest_in (d : (okPlE 0).val post = true) : (0 ≤ cellI post 0 ∧ cellI post 0 ≤ 15) ∧ cellI post 2 ≤ 2 := by
  have d : (!decide (cellI post 0 < 0) && (decide (cellI post 0 < 16) && decide (cellI post 2 < 3))) = true := d
  simp only [Bool.and_eq_true, Bool.not_eq_true', decide_eq_true_eq, decide_eq_false_iff_not] at d
  omega
end
end Go.Proofs.YthdcahkedlijpaaGreat.Am
namespace Go.Proofs.YthdcahkedlijpaaGreat.Am
open Go.RowKit
set_option maxRecDepth 100000
set_option maxHeartbeats 1000000
set_option linter.unusedVariables false
set_option linter.unusedSectionVars false
def ListsJ (F : FuncId) (T : List Value → List (List Value) → List Value → List Int) : Prop :=
  ∀ (w : World) (v : Value) (pre : List Value) (sv : Value) (post : List Value) (els : List (List Value)), JumpIs w v pre sv post els → okJ pre els post = true →
    Calls Tryz.prog F #[v] w fun x w' => ∃ u, x = .returned (.tuple #[u, .int .i64 0]) ∧ NewRow w w' u (intsJ (incT (T pre els post))) ∧ Below w.heap.size w w'
inductive ClsJ (pre : List Value) (els : List (List Value)) (post : List Value) : Nat → Prop where
  | plain {c : Nat} (hc : c = 1 ∨ c = 2 ∨ c = 4) (k : cellI pre 0 ≠ 3 ∧ cellI pre 0 ≠ 2) (p : ¬ partJ post) : ClsJ pre els post c
  | ret (k : cellI pre 0 = 3) (p : ¬ partJ post) : ClsJ pre els post 3
  | part {c : Nat} (hc : c = 5 ∨ c = 6) (k : cellI pre 0 = 4) (p : partJ post) : ClsJ pre els post c
  | one {c : Nat} (hc : c = 7 ∨ c = 8 ∨ c = 9) (k : cellI pre 0 = 2) (a : cellI pre 1 = (c : Int) - 6) (p : ¬ partJ post) : ClsJ pre els post c
section
variable {w : World} {v : Value} {pre : List Value} {sv : Value} {post : List Value} {els : List (List Value)} (hj : JumpIs w v pre sv post els)
include hj
theorem one_el (n : Nat) : (cellI ((pre.drop 1).take 5) 0 = cellI pre 1) ∧ cellI ((pre.drop 1).take 5) 2 = cellI pre 3 := ⟨cellI_sub (by decide), cellI_sub (by decide)⟩
theorem cells_sem {f : Nat → S} {T : List Int} [Base] (h : ∀ j, j < 16 → ∀ r u, VS r (f j) u → u = .bool (decide ((j : Int) ∈ T))) : ∀ r us, All2 (VS r) ((List.range 16).map f) us → us = (boolsT T).map Value.bool := by
  intro r us ha
  have hl := ha.len
  rw [List.length_map, List.length_range] at hl
  refine List.ext_getElem? fun j => ?_
  by_cases hj' : j < 16
  · obtain ⟨u, hu, hv⟩ := All2.nth ha (n := j) (x := f j) (by rw [nth_eq, List.getElem?_map, List.getElem?_range hj']; rfl)
    rw [hu, List.getElem?_map, boolsT_at hj', h j hj' r u hv]
    rfl
  · rw [List.getElem?_eq_none (by omega), List.getElem?_eq_none (by rw [List.length_map, boolsT_len]; omega)]
theorem partsJ_ne (h : cellI pre 0 ≠ 2) : partsJ pre els = els := by unfold partsJ; rw [if_neg h]
theorem partsJ_eq (h : cellI pre 0 = 2) : partsJ pre els = [(pre.drop 1).take 5] := by unfold partsJ; rw [if_pos h]
theorem told_one (sel : Int → Bool) : toldL sel [(pre.drop 1).take 5] = bif sel (cellI pre 1) then [cellI pre 3] else [] := by
  obtain ⟨e1, e2⟩ := one_el hj 0
  simp only [toldL, List.flatMap_cons, List.flatMap_nil, List.append_nil, e1, e2]
section
variable {b : Base} (r3 : b.rho 3 = cellI pre 3) (r10 : b.rho 10 = cellI post 0)
include r3 r10
theorem semU {c : Nat} (hc : ClsJ pre els post c) (hb : ∀ j, j < 16 → b.rho (13 + j) = b2i (decide ((j : Int) ∈ toldL selU els))) : ∀ r us, All2 (@VS b r) (cellU c) us → us = (boolsT (usesJ pre els post)).map Value.bool := by
  refine cells_sem hj fun j hj' r u hu => ?_
  have key : ∀ {l : List (Nat × Int)}, @VS b r (.xe l) u → u = .bool (l.any fun p => decide (b.rho p.1 = p.2)) := fun h => h
  cases hc with
  | plain hc k p =>
    have hT : usesJ pre els post = toldL selU els := by unfold usesJ; rw [if_neg k.1, if_neg p, partsJ_ne hj k.2]; rfl
    have hu : @VS b r (.xe [(13 + j, 1)]) u := by rcases hc with rfl | rfl | rfl <;> exact hu
    rw [key hu, hT]
    simp only [List.any_cons, List.any_nil, Bool.or_false]
    rw [hb j hj', one_bit]
  | ret k p =>
    have hT : usesJ pre els post = 0 :: toldL selU els := by unfold usesJ; rw [if_pos k, if_neg p, partsJ_ne hj (by omega)]; rfl
    rw [hT]
    have hu : @VS b r (bif Nat.beq j 0 then S.bool true else .xe [(13 + j, 1)]) u := hu
    cases hj0 : Nat.beq j 0 <;> rw [hj0] at hu <;> simp only [cond_true, cond_false] at hu
    · have hne : j ≠ 0 := fun e => by subst e; cases hj0
      rw [key hu]
      simp only [List.any_cons, List.any_nil, Bool.or_false]
      rw [hb j hj', one_bit]
      congr 1
      rw [Bool.eq_iff_iff, decide_eq_true_eq, decide_eq_true_eq, List.mem_cons]
      constructor
      · exact .inr
      · rintro (h | h)
        · omega
        · exact h
    · have := Nat.eq_of_beq_eq_true hj0
      subst this
      have hu : u = .bool true := hu
      rw [hu]
      simp
  | part hc k p =>
    have hT : usesJ pre els post = cellI post 0 :: toldL selU els := by unfold usesJ; rw [if_neg (by omega), if_pos p, partsJ_ne hj (by omega)]; rfl
    have hu : @VS b r (.xe [(10, (j : Int)), (13 + j, 1)]) u := by rcases hc with rfl | rfl <;> exact hu
    rw [key hu, hT]
    simp only [List.any_cons, List.any_nil, Bool.or_false]
    rw [hb j hj', one_bit, r10]
    congr 1
    rw [Bool.eq_iff_iff, Bool.or_eq_true, decide_eq_true_eq, decide_eq_true_eq, decide_eq_true_eq, List.mem_cons]
    constructor
    · rintro (h | h)
      · exact .inl h.symm
      · exact .inr h
    · rintro (h | h)
      · exact .inl h.symm
      · exact .inr h
  | one hc k a p =>
    have hT : usesJ pre els post = bif selU (cellI pre 1) then [cellI pre 3] else [] := by unfold usesJ; rw [if_neg (by omega), if_neg p, partsJ_eq hj k, told_one hj]; rfl
    rw [hT, a]
    rcases hc with rfl | rfl | rfl
    · have hu : u = .bool false := hu
      rw [hu]
      simp [selU]
    · have hu : @VS b r (.xe [(3, (j : Int))]) u := hu
      rw [key hu]
      simp only [List.any_cons, List.any_nil, Bool.or_false, r3]
      simp [selU, eq_comm]
    · have hu : @VS b r (.xe [(3, (j : Int))]) u := hu
      rw [key hu]
      simp only [List.any_cons, List.any_nil, Bool.or_false, r3]
      simp [selU, eq_comm]
theorem semM {c : Nat} (hc : ClsJ pre els post c) (hb : ∀ j, j < 16 → b.rho (13 + j) = b2i (decide ((j : Int) ∈ toldL selM els))) : ∀ r us, All2 (@VS b r) (cellM c) us → us = (boolsT (movesJ pre els post)).map Value.bool := by
  refine cells_sem hj fun j hj' r u hu => ?_
  have key : ∀ {l : List (Nat × Int)}, @VS b r (.xe l) u → u = .bool (l.any fun p => decide (b.rho p.1 = p.2)) := fun h => h
  have most : (c = 1 ∨ c = 2 ∨ c = 3 ∨ c = 4 ∨ c = 5 ∨ c = 6) → cellI pre 0 ≠ 2 → u = .bool (decide ((j : Int) ∈ movesJ pre els post)) := fun hc k => by
    have hT : movesJ pre els post = toldL selM els := by unfold movesJ; rw [partsJ_ne hj k]
    have hu : @VS b r (.xe [(13 + j, 1)]) u := by rcases hc with rfl | rfl | rfl | rfl | rfl | rfl <;> exact hu
    rw [key hu, hT]
    simp only [List.any_cons, List.any_nil, Bool.or_false]
    rw [hb j hj', one_bit]
  cases hc with
  | plain hc k p => exact most (by omega) k.2
  | ret k p => exact most (by omega) (by omega)
  | part hc k p => exact most (by omega) (by omega)
  | one hc k a p =>
    have hT : movesJ pre els post = bif selM (cellI pre 1) then [cellI pre 3] else [] := by unfold movesJ; rw [partsJ_eq hj k, told_one hj]
    rw [hT, a]
    rcases hc with rfl | rfl | rfl
    · have hu : u = .bool false := hu
      rw [hu]
      simp [selM]
    · have hu : u = .bool false := hu
      rw [hu]
      simp [selM]
    · have hu : @VS b r (.xe [(3, (j : Int))]) u := hu
      rw [key hu]
      simp only [List.any_cons, List.any_nil, Bool.or_false, r3]
      simp [selM, eq_comm]
end
def backJ (T l : List Int) : List Int := bitsT T ++ l
theorem bitsT_len (T : List Int) : (bitsT T).length = 16 := by simp [bitsT]
theorem rho_bit (T l : List Int) {j : Nat} (h : j < 16) : (baseJ hj (backJ T l)).rho (13 + j) = b2i (decide ((j : Int) ∈ T)) := by
  refine rhoJ hj _ ?_
  unfold backJ
  rw [List.getElem?_append_left (by rw [bitsT_len hj]; exact h)]
  exact bitsT_at h
theorem rho_ent (T l : List Int) {j : Nat} {m : Int} (h : l[j]? = some m) : (baseJ hj (backJ T l)).rho (29 + j) = m := by
  rw [show 29 + j = 13 + (16 + j) by omega]
  refine rhoJ hj _ ?_
  unfold backJ
  rw [List.getElem?_append_right (by rw [bitsT_len hj]; omega), bitsT_len hj, show 16 + j - 16 = j by omega]
  exact h
theorem rep_all {R : Int × Int → Int → Prop} {p : Int × Int} : ∀ {l : List Int}, (∀ x ∈ l, R p x) → All2 R (List.replicate l.length p) l
  | [], _ => trivial
  | x :: l, h => ⟨h x (List.mem_cons_self ..), rep_all fun y hy => h y (List.mem_cons_of_mem _ hy)⟩
theorem holds0 (T : List Int) {l : List Int} (hl : ∀ x ∈ l, 0 ≤ x ∧ x ≤ 15) : (LJ0 l.length).Holds (baseJ hj (backJ T l)).rho (baseJ hj (backJ T l)).sig := by
  have hI : All2 (fun p (m : Int) => p.1 ≤ m ∧ m ≤ p.2) (ivJ l.length) (backJ T l) := by
    unfold ivJ backJ
    refine All2.app ?_ (rep_all hj (R := fun p (m : Int) => p.1 ≤ m ∧ m ≤ p.2) hl)
    have := rep_all hj (R := fun p (m : Int) => p.1 ≤ m ∧ m ≤ p.2) (p := ((0 : Int), (1 : Int))) (l := bitsT T) fun x hx => by
      obtain ⟨j, _, rfl⟩ := List.mem_map.1 hx
      exact b01 _
    rw [bitsT_len hj] at this
    exact this
  have := startJ_ok hj (i1 := []) hI
  rw [List.append_nil] at this
  exact this
theorem Lf.Holds.onlyB {L : Lf} {rho : Nat → Int} {sig : Nat → List UInt8} (h : L.Holds rho sig) {i : Nat} {c : Int} (e : rho i = c) : (onlyB L i c).Holds rho sig := (h.hi (i := i) (c := c) (by omega)).lo (i := i) (c := c) (by omega)
theorem Lf.Holds.zeroB {L : Lf} {rho : Nat → Int} {sig : Nat → List UInt8} (h : L.Holds rho sig) {o : Nat} : ∀ {n : Nat}, (∀ i, i < n → rho (o + i) = 0) → (zeroB L o n).Holds rho sig
  | 0, _ => h
  | n + 1, e => Lf.Holds.onlyB hj (Lf.Holds.zeroB h fun i hi => e i (by omega)) (e n (by omega))
theorem some_cls (h : okJ pre els post = true) (T : List Int) : ∃ c, (1 ≤ c ∧ c ≤ 9) ∧ ClsJ pre els post c ∧ (c ≤ 6 → (els.all fun el => (okOpE 0).val el) = true) ∧ ∀ l : List Int, (∀ x ∈ l, 0 ≤ x ∧ x ≤ 15) → (LJ c l.length).Holds (baseJ hj (backJ T l)).rho (baseJ hj (backJ T l)).sig := by
  have rp : ∀ (l : List Int) {i : Nat}, i < 9 → (baseJ hj (backJ T l)).rho i = cellI pre i := fun l i hi => (rhoJ_lt hj _ (by omega)).trans (fl_pre hj hi)
  have ro : ∀ (l : List Int) {i : Nat}, i < 3 → (baseJ hj (backJ T l)).rho (10 + i) = cellI post i := fun l i hi => (rhoJ_lt hj _ (by omega)).trans (fl_post hj i)
  have noP : (∀ i, i < 3 → cellI post i = 0) → ¬ partJ post := fun d => by have := d 1 (by decide); have := d 2 (by decide); unfold partJ; omega
  have r9 : ∀ (l : List Int), els = [] → (baseJ hj (backJ T l)).rho 9 = 0 := fun l e => by rw [rho9, e]; rfl
  rcases isJ hj h with ⟨k, a, n, e, hl, d⟩ | ⟨k, a, f, n, e, hl, d⟩ | ⟨k, a, hl, d⟩ | ⟨k, a, f, n, e, hl, d, o⟩
  · refine ⟨1, by decide, .plain (.inl rfl) (by omega) (noP d), fun _ => by rw [hl]; rfl, fun l hi => ?_⟩
    exact Lf.Holds.zeroB hj (Lf.Holds.onlyB hj (Lf.Holds.onlyB hj (holds0 hj T hi) ((rp l (by decide)).trans k)) (r9 l hl)) fun i hi => (ro l hi).trans (d i hi)
  · have hk : All2 Kd.ok opK ((pre.drop 1).take 5) := (hj.pre.drop 1).take 5
    obtain ⟨f1, f2⟩ := op_facts hk a
    rw [(one_el hj 0).1] at f1
    rw [(one_el hj 0).2] at f2
    have z4 : ∀ l : List Int, ∀ i, i < 4 → (baseJ hj (backJ T l)).rho (9 + i) = 0 := fun l i hi => by
      match i, hi with
      | 0, _ => exact r9 l hl
      | i + 1, hi => rw [show 9 + (i + 1) = 10 + i by omega, ro l (by omega)]; exact d i (by omega)
    have fin : ∀ (l : List Int) (c : Int), (∀ x ∈ l, 0 ≤ x ∧ x ≤ 15) → cellI pre 1 = c → (((zeroB (onlyB (onlyB (LJ0 l.length) 0 2) 1 c) 9 4).hi 3 15).lo 3 0).Holds (baseJ hj (backJ T l)).rho (baseJ hj (backJ T l)).sig := fun l c hi hc =>
      ((Lf.Holds.zeroB hj (Lf.Holds.onlyB hj (Lf.Holds.onlyB hj (holds0 hj T hi) ((rp l (by decide)).trans k)) ((rp l (by decide)).trans hc)) (z4 l)).hi (i := 3) (c := 15) (by rw [rp l (by decide)]; exact f2.2)).lo (i := 3) (c := 0) (by rw [rp l (by decide)]; exact f2.1)
    rcases f1 with q | q | q
    · exact ⟨7, by decide, .one (.inl rfl) k (by omega) (noP d), fun h => by omega, fun l hi => fin l 1 hi q⟩
    · exact ⟨8, by decide, .one (.inr (.inl rfl)) k (by omega) (noP d), fun h => by omega, fun l hi => fin l 2 hi q⟩
    · exact ⟨9, by decide, .one (.inr (.inr rfl)) k (by omega) (noP d), fun h => by omega, fun l hi => fin l 3 hi q⟩
  · rcases k with k | k
    · refine ⟨3, by decide, .ret k (noP d), fun _ => by rw [hl]; rfl, fun l hi => ?_⟩
      exact Lf.Holds.zeroB hj (Lf.Holds.onlyB hj (Lf.Holds.onlyB hj (holds0 hj T hi) ((rp l (by decide)).trans k)) (r9 l hl)) fun i hi => (ro l hi).trans (d i hi)
    · refine ⟨2, by decide, .plain (.inr (.inl rfl)) (by omega) (noP d), fun _ => by rw [hl]; rfl, fun l hi => ?_⟩
      exact Lf.Holds.zeroB hj (Lf.Holds.onlyB hj (Lf.Holds.onlyB hj (holds0 hj T hi) ((rp l (by decide)).trans k)) (r9 l hl)) fun i hi => (ro l hi).trans (d i hi)
  · obtain ⟨d0, d2⟩ := dest_in hj d
    have hb := post_b hj
    have hf := post_f hj
    rcases hb with hb | hb
    · by_cases h2 : cellI post 2 = 0
      · refine ⟨4, by decide, .plain (.inr (.inr rfl)) (by omega) (by unfold partJ; omega), fun _ => o, fun l hi => ?_⟩
        refine Lf.Holds.zeroB hj (Lf.Holds.onlyB hj (holds0 hj T hi) ((rp l (by decide)).trans k)) fun i hi => ?_
        rw [show 11 + i = 10 + (1 + i) by omega, ro l (by omega)]
        match i, hi with
        | 0, _ => exact hb
        | 1, _ => exact h2
      · refine ⟨6, by decide, .part (.inr rfl) k (by unfold partJ; omega), fun _ => o, fun l hi => ?_⟩
        exact (((Lf.Holds.onlyB hj (Lf.Holds.onlyB hj (holds0 hj T hi) ((rp l (by decide)).trans k)) ((ro l (i := 1) (by decide)).trans hb)).lo (i := 12) (c := 1) (by rw [show (12 : Nat) = 10 + 2 by rfl, ro l (by decide)]; omega)).hi (i := 10) (c := 15) (by rw [show (10 : Nat) = 10 + 0 by rfl, ro l (by decide)]; exact d0.2)).lo (i := 10) (c := 0) (by rw [show (10 : Nat) = 10 + 0 by rfl, ro l (by decide)]; exact d0.1)
    · refine ⟨5, by decide, .part (.inl rfl) k (by unfold partJ; omega), fun _ => o, fun l hi => ?_⟩
      exact ((Lf.Holds.onlyB hj (Lf.Holds.onlyB hj (holds0 hj T hi) ((rp l (by decide)).trans k)) ((ro l (i := 1) (by decide)).trans hb)).hi (i := 10) (c := 15) (by rw [show (10 : Nat) = 10 + 0 by rfl, ro l (by decide)]; exact d0.2)).lo (i := 10) (c := 0) (by rw [show (10 : Nat) = 10 + 0 by rfl, ro l (by decide)]; exact d0.1)
end
end Go.Proofs.YthdcahkedlijpaaGreat.Am
namespace Go.Proofs.YthdcahkedlijpaaGreat.Am
open Go.RowKit
set_option maxRecDepth 100000
set_option maxHeartbeats 1000000
set_option linter.unusedVariables false
set_option linter.unusedSectionVars false
theorem row_of {bo : Base} {f : FuncId} {G : Func} (hG : Tryz.prog.funcs[f]? = some G) {tag : Nat} (ht : (loopsIn ((G.body).getD .skip)).map Code.tag = [tag]) (hat : (loopAt G 0).tag = tag) {d : Bd} {th : Th} {hd s1 : St} {x : X} (h : @LoopOk bo Tryz.prog (rowL tag d th hd x s1) (loopAt G 0)) (F : Func) (c : Code) (hF : Tryz.prog.funcs[f]? = some F) (hc : F.body = some c) :
    Loops.ok (@LoopOk bo Tryz.prog (rowL tag d th hd x s1)) c := by
  obtain rfl : G = F := Option.some.inj (hG.symm.trans hF)
  rw [hc] at ht
  have ht : (loopsIn c).map Code.tag = [tag] := ht
  exact Loops.ok_row hc (i := 0) (by rw [ht]; simp) (by have := congrArg List.length ht; simp at this; omega) hat h
section
variable {w : World} {v : Value} {pre : List Value} {sv : Value} {post : List Value} {els : List (List Value)} (hj : JumpIs w v pre sv post els)
theorem allB_parts {code : Code} {hd : Nat → St} {sel : Int → Bool} {x : X} {s1 : St} (h : allB code hd sel x s1 = true) : stepB code hd sel 1 = true ∧ stepB code hd sel 2 = true ∧ stepB code hd sel 3 = true ∧ preB hd = true ∧ lastB code hd 13 x s1 = true := by
  unfold allB at h
  simp only [Bool.and_eq_true] at h
  exact ⟨h.1.1.1, h.1.1.2, h.1.2, h.2.1, h.2.2⟩
include hj
theorem loop_all (hv : (els.all fun el => (okOpE 0).val el) = true) {sel : Int → Bool} {l : List Int} {K : Know} (hK : KnowOk K (baseJ hj (backJ (toldL sel els) l)).rho (baseJ hj (backJ (toldL sel els) l)).sig) {c : Code} {hd : Nat → St} {x : X} (hx : x ≠ .normal) {s1 : St} (hn1 : (hd 13).h.next = (hd 9).h.next) (hn2 : (hd 13).h.next = s1.h.next) (hr : allB c hd sel x s1 = true) (tag : Nat) :
    @LoopOk ((baseJ hj (backJ (toldL sel els) l)).withK K hK) Tryz.prog (rowL tag ⟨13, 0, 1⟩ thI (hd 13) x s1) c := by
  obtain ⟨h1, h2, h3, h4, h5⟩ := allB_parts hr
  exact loopB hj sel hv (m := 13) (fun j h => rho_bit hj _ l h) hK hx hn1 hn2 h1 h2 h3 h4 h5 tag
theorem told_tag : (loopsIn ((Tryz.f88.body).getD .skip)).map Code.tag = [7] := by kernel_rfl
theorem loopsU_ok {c : Nat} (h1 : 1 ≤ c) (hv : (els.all fun el => (okOpE 0).val el) = true) {l : List Int} {K : Know} (hK : KnowOk K (baseJ hj (backJ (toldL selU els) l)).rho (baseJ hj (backJ (toldL selU els) l)).sig) :
    ∀ f F cd, Tryz.prog.funcs[f]? = some F → F.body = some cd → Loops.ok (@LoopOk ((baseJ hj (backJ (toldL selU els) l)).withK K hK) Tryz.prog (loopsOJ false c f)) cd := by
  refine @rowsL_ok _ ((baseJ hj (backJ (toldL selU els) l)).withK K hK) [(88, rowL 7 ⟨13, 0, 1⟩ thI (hdT false 13) (.exit 0) (s1T 13))] fun p hp => ?_
  obtain rfl := List.mem_singleton.1 hp
  exact row_of Tryz.func88 (told_tag hj) (by kernel_rfl) (loop_all hj hv hK (c := codeT) (hd := hdT false) (s1 := s1T 13) (fun e => by cases e) rfl rfl toldU_run 7)
theorem loopsM_ok {c : Nat} (hv : (els.all fun el => (okOpE 0).val el) = true) {l : List Int} {K : Know} (hK : KnowOk K (baseJ hj (backJ (toldL selM els) l)).rho (baseJ hj (backJ (toldL selM els) l)).sig) :
    ∀ f F cd, Tryz.prog.funcs[f]? = some F → F.body = some cd → Loops.ok (@LoopOk ((baseJ hj (backJ (toldL selM els) l)).withK K hK) Tryz.prog (loopsOJ true c f)) cd := by
  refine @rowsL_ok _ ((baseJ hj (backJ (toldL selM els) l)).withK K hK) [(88, rowL 7 ⟨13, 0, 1⟩ thI (hdT true 13) (.exit 0) (s1T 13))] fun p hp => ?_
  obtain rfl := List.mem_singleton.1 hp
  exact row_of Tryz.func88 (told_tag hj) (by kernel_rfl) (loop_all hj hv hK (c := codeT) (hd := hdT true) (s1 := s1T 13) (fun e => by cases e) rfl rfl toldM_run 7)
end
theorem cells_one (L : Lf) : ((([.g cellsJ] : List A).map L.nA).all A.oneR) = true := by
  show ((cellsJ.map L.nS).all S.oneR && true) = true
  rw [Bool.and_true]
  have h1 := ones_T L kPre 0 rfl
  have h2 := ones_T L kPost 10 rfl
  have up : ∀ {l : List S}, l.all S.one = true → l.all S.oneR = true := fun {l} h => List.all_eq_true.2 fun x hx => by
    have := List.all_eq_true.1 h x hx
    cases x <;> first | exact this | rfl
  unfold cellsJ
  rw [List.map_append, List.map_cons, List.all_append, List.all_cons, up h1, up h2]
  rfl
theorem lists_J {F : FuncId} {mv : Bool} (hrun : ∀ c, 1 ≤ c → c ≤ 9 → allOJ F mv c = true) : ListsJ F (fun pre els post => bif mv then movesJ pre els post else usesJ pre els post) := by
  intro w v pre sv post els hj hok
  let T : List Int := bif mv then movesJ pre els post else usesJ pre els post
  let B : List Int := bif mv then toldL selM els else toldL selU els
  obtain ⟨c, ⟨h1, h9⟩, hc, hv, hL⟩ := some_cls hj hok B
  have hin : ∀ x ∈ incT T, 0 ≤ x ∧ x ≤ 15 := fun x hx => (incT_mem.1 hx).2
  have hL := hL (incT T) hin
  -- in a branch there are no others
  have hels : (els.all fun el => (okOpE 0).val el) = true := by
    by_cases h6 : c ≤ 6
    · exact hv h6
    · have k2 : cellI pre 0 = 2 := by
        cases hc with
        | plain h _ _ => omega
        | ret _ _ => omega
        | part h _ _ => omega
        | one _ k _ _ => exact k
      have : els = [] := by
        rcases isJ hj hok with ⟨k, _⟩ | ⟨_, _, _, _, _, l, _⟩ | ⟨k, _⟩ | ⟨k, _⟩
        · omega
        · exact l
        · omega
        · omega
      rw [this]
      rfl
  let b : Base := baseJ hj (backJ B (incT T))
  have hKok : KnowOk ((LJ c (incT T).length).know []) b.rho b.sig := Lf.ok hL (lensJ hj _)
  letI bL : Base := b.withK ((LJ c (incT T).length).know []) hKok
  have hca : All2 (@VA bL r0) (([.g cellsJ] : List A).map (LJ c (incT T).length).nA) [v] := @Lf.nAs_ok bL _ r0 hL _ _ (cellsJ_ok hj _)
  have r3 : bL.rho 3 = cellI pre 3 := (rhoJ_lt hj _ (by decide)).trans (fl_pre hj (by decide))
  have r10 : bL.rho 10 = cellI post 0 := (rhoJ_lt hj _ (by decide)).trans (fl_post hj 0)
  have hnum : ∀ r, All2 (@VS bL r) (numsX 29 (incT T).length) (intsJ (incT T)) := fun r => @numsX_ok bL r 29 (incT T) fun j m hm => rho_ent hj B (incT T) hm
  have hsem : ∀ r us, All2 (@VS bL r) (bif mv then cellM c else cellU c) us → us = (boolsT T).map Value.bool := by
    cases mv with
    | true => exact semM hj (b := bL) r3 r10 hc fun j h => rho_bit hj _ _ h
    | false => exact semU hj (b := bL) r3 r10 hc fun j h => rho_bit hj _ _ h
  have frz : ∀ w' : World, (∀ k, k < bL.nb → w'.heap[k]? = bL.g k) → JumpIs w' v pre sv post els := fun w' hw => by
    refine ⟨hj.v, hj.pre, hj.post, ⟨hj.ops.sl, hj.ops.most, fun i el he => ?_, hj.ops.kd, hj.ops.cap⟩⟩
    obtain ⟨b', off, c', e1, e2⟩ := hj.ops.at_ i el he
    refine ⟨b', off, c', e1, fun f u hf => ?_⟩
    have hcell := e2 f u hf
    rw [← hcell]
    exact World.cell?_of_block (hw b' (World.block_lt_of_cell? w ⟨b', off + i * 5 + f, none⟩ hcell))
  have hS0 : @Sound bL Tryz.prog (orcs (rowsOJ c (incT T).length (bif mv then cellM c else cellU c))) := by
    refine @sound_orcs bL _ _ fun O hO => ?_
    simp only [rowsOJ, List.mem_cons, List.not_mem_nil, or_false] at hO
    rcases hO with rfl | rfl | rfl
    · exact @sound_rowG bL _ _ ⟨_, Tryz.func87, by kernel_rfl, by kernel_rfl⟩ _ _ (cells_one _) _ hca (v8 true) (fun _ => rfl) fun w' hw => by
        have := jA_tests w' v pre sv post els (frz w' hw)
        rw [hok] at this
        exact this
    · exact @sound_rowG bL _ _ ⟨_, Tryz.func78, by kernel_rfl, by kernel_rfl⟩ _ _ (cells_one _) _ hca (.bool true) (fun _ => rfl) fun w' hw => by
        have := jV_tests w' v pre sv post els (frz w' hw)
        rw [hok] at this
        exact this
    · exact sound_jlist bL hsem hnum
  have hloops : ∀ f F cd, Tryz.prog.funcs[f]? = some F → F.body = some cd → Loops.ok (@LoopOk bL Tryz.prog (loopsOJ mv c f)) cd := by
    cases mv with
    | true => exact loopsM_ok hj (c := c) hels hKok
    | false => exact loopsU_ok hj h1 hels hKok
  have hS : @Sound bL Tryz.prog (@runsL ((LJ c (incT T).length).know []) (tyOf Tryz.prog) (fnOf Tryz.prog) (orcs (rowsOJ c (incT T).length (bif mv then cellM c else cellU c))) tbJ (loopsOJ mv c) 30 15) :=
    @runsL_ok bL _ _ (@tyOf_ok bL Tryz.prog) _ fnOkN _ hS0 mixedN _ (TabsOk.withK (tabsJ_ok hj _) _) _ hloops 30 15
  have hall := List.all_eq_true.1 (hrun c h1 h9) (incT T).length (List.mem_range.2 (by have := incT_len T; omega))
  unfold goodOJ at hall
  cases hr : rowAt (runOJ F mv c (incT T).length) with
  | none => rw [hr] at hall; cases hall
  | some ys =>
    rw [hr] at hall
    have hys : numsX 29 (incT T).length = ys := sameL_eq (fun _ _ => S.eqv_ok) hall
    subst hys
    refine (@calls_row bL _ w (Nat.le_refl _) (fun _ _ => rfl) _ hS F _ _ hca _ hr).mono fun x w' ⟨u, vs, r', e1, e2, e3, e4⟩ => ⟨u, e1, ?_, e4⟩
    have : vs = intsJ (incT T) := ones_same (r := r') (r' := r') (by simp [numsX, S.one]) e3 (hnum r')
    rw [← this]
    exact e2
theorem jUsesA : ListsJ 60 usesJ := lists_J (mv := false) fun c h1 h9 => by
  have : c = 1 ∨ c = 2 ∨ c = 3 ∨ c = 4 ∨ c = 5 ∨ c = 6 ∨ c = 7 ∨ c = 8 ∨ c = 9 := by omega
  rcases this with rfl | rfl | rfl | rfl | rfl | rfl | rfl | rfl | rfl
  · exact uA1
  · exact uA2
  · exact uA3
  · exact uA4
  · exact uA5
  · exact uA6
  · exact uA7
  · exact uA8
  · exact uA9
end Go.Proofs.YthdcahkedlijpaaGreat.Am
