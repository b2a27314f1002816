/- stmt.Uses answers with the list stU: over what rvalues use, class by class. -/
import Derived.Test.YtnhnelgkcldkbaaGreatDoorUses45
import Derived.Test.YtnhnelgkcldkbaaGreatDoorAmC
import Derived.Test.YtnhnelgkcldkbaaGreatDoorSrt5
namespace Go.Proofs.YtnhnelgkcldkbaaGreatDoor.Am
open Go.RowKit
set_option linter.unusedSectionVars false
set_option linter.unusedVariables false
set_option maxRecDepth 100000
set_option maxHeartbeats 2000000
def gsS : List Gp := [(true, kSt)]
def pairsU (nu : Nat) : List (Nat × Nat) := (List.range nu).flatMap fun j => (List.range j).map fun i => (26 + i, 26 + j)
noncomputable def onlyL (L : Lf) (i : Nat) (c : Int) : Lf := (L.hi i c).lo i c
noncomputable def zeroL (L : Lf) (o : Nat) : Nat → Lf
  | 0 => L
  | n + 1 => onlyL (zeroL L o n) (o + n) 0
def L0U (nu : Nat) : Lf := { Lf.startB gsS [] (List.replicate nu (0, 15)) with lt := pairsU nu }
/-- 1: an assignment; 2, 4: print, assert, of a number; 12, 14: of a place; 3: fresh -/
noncomputable def LcU (c nu : Nat) : Lf :=
  bif Nat.beq c 1 then zeroL ((((onlyL (L0U nu) 0 1).hi 1 15).lo 1 0).hi 3 2) 20 6
  else bif Nat.beq c 2 then zeroL (zeroL (zeroL (onlyL (onlyL (L0U 0) 0 2) 20 1) 22 3) 1 19) 25 1
  else bif Nat.beq c 4 then zeroL (zeroL (zeroL (onlyL (onlyL (L0U 0) 0 4) 20 1) 22 3) 1 19) 25 1
  else bif Nat.beq c 12 then ((((onlyL (((zeroL (zeroL (onlyL (L0U 0) 0 2) 1 19) 25 1).hi 20 3).lo 20 2) 21 0).hi 22 15).lo 22 0).hi 24 2)
  else bif Nat.beq c 14 then ((((onlyL (((zeroL (zeroL (onlyL (L0U 0) 0 4) 1 19) 25 1).hi 20 3).lo 20 2) 21 0).hi 22 15).lo 22 0).hi 24 2)
  else zeroL (zeroL (((onlyL (L0U 0) 0 3).hi 25 15).lo 25 0) 1 19) 20 5
theorem LcU_1 (nu : Nat) : LcU 1 nu = zeroL ((((onlyL (L0U nu) 0 1).hi 1 15).lo 1 0).hi 3 2) 20 6 := rfl
theorem LcU_2 : LcU 2 0 = zeroL (zeroL (zeroL (onlyL (onlyL (L0U 0) 0 2) 20 1) 22 3) 1 19) 25 1 := rfl
theorem LcU_4 : LcU 4 0 = zeroL (zeroL (zeroL (onlyL (onlyL (L0U 0) 0 4) 20 1) 22 3) 1 19) 25 1 := rfl
theorem LcU_12 : LcU 12 0 = ((((onlyL (((zeroL (zeroL (onlyL (L0U 0) 0 2) 1 19) 25 1).hi 20 3).lo 20 2) 21 0).hi 22 15).lo 22 0).hi 24 2) := rfl
theorem LcU_14 : LcU 14 0 = ((((onlyL (((zeroL (zeroL (onlyL (L0U 0) 0 4) 1 19) 25 1).hi 20 3).lo 20 2) 21 0).hi 22 15).lo 22 0).hi 24 2) := rfl
theorem LcU_3 : LcU 3 0 = zeroL (zeroL (((onlyL (L0U 0) 0 3).hi 25 15).lo 25 0) 1 19) 20 5 := rfl
def spI : Sp := (.cut 2 1 (.cut 3 1 .leaf .leaf) .leaf)
def spT : Sp := .tri 27 1 spI spI spI
def spU (c nu : Nat) : Sp := bif Nat.beq c 1 then (bif Nat.beq nu 0 then spI else bif Nat.beq nu 1 then .tri 26 1 spI spI spI else .tri 26 1 spT spT spT) else bif Nat.beq c 12 || Nat.beq c 14 then (.cut 20 3 (.cut 22 1 .leaf .leaf) (.cut 22 1 .leaf .leaf)) else .leaf
noncomputable def rowsU (L : Lf) (c nu : Nat) : List Oracle :=
  [cellO 75 (clL L 0 kSt) (m8 true)]
  ++ (bif Nat.beq c 1 then [listO 22 (clL L 4 kRv) ((numsX 26 nu).map L.nS)] else [])
noncomputable def libU (L : Lf) (c nu : Nat) : Oracle := fun f a h fl => orR (orcs (rowsU L c nu) f a h fl) (orR (valid5 (L.know []) f a h fl) (orR (incO (L.know []) f a h fl) (insXO f a h fl)))
noncomputable def runU (F : FuncId) (c nu : Nat) (L : Lf) : R := @runs (L.know []) (tyOf Tryz.prog) (fnOf Tryz.prog) (libU L c nu) 30 20 F [.g (clL L 0 kSt)] ⟨[], 0⟩ 0
noncomputable def expU (L : Lf) (c nu : Nat) : Option (List N) := letI := L.know []
  bif Nat.beq c 1 then ob (mapO numN ((numsX 26 nu).map L.nS)) fun l => ob (partX (clL L 0 kSt)) fun p => bif p then ob (nth (clL L 0 kSt) 1) fun x => ob (numN x) fun n => insX n l else some l
  else stUX (clL L 0 kSt)
noncomputable def goodU (F : FuncId) (c nu : Nat) (L : Lf) : Bool := cyc L || Option.rec false (fun q => Option.rec false (fun cs => sameL S.eqv (q.map numS) cs) (rowAt (runU F c nu L))) (expU L c nu)
def casesU : List (Nat × Nat) := [(1, 0), (1, 1), (1, 2), (2, 0), (4, 0), (12, 0), (14, 0), (3, 0)]
noncomputable def allU (F : FuncId) (c : Nat × Nat) : Bool := ((spU c.1 c.2).leaves (LcU c.1 c.2)).all (goodU F c.1 c.2)
theorem usesA_run : casesU.all (allU 29) = true := by kernel_rfl

theorem Lf.Holds.onlyL {L : Lf} {rho : Nat → Int} {sig : Nat → List UInt8} (h : L.Holds rho sig) {i : Nat} {c : Int} (e : rho i = c) : (onlyL L i c).Holds rho sig := (h.hi (i := i) (c := c) (by omega)).lo (i := i) (c := c) (by omega)
theorem Lf.Holds.zeroL {L : Lf} {rho : Nat → Int} {sig : Nat → List UInt8} (h : L.Holds rho sig) {o : Nat} : ∀ {n : Nat}, (∀ i, i < n → rho (o + i) = 0) → (zeroL L o n).Holds rho sig
  | 0, _ => h
  | n + 1, hz => (Lf.Holds.zeroL h fun i hi => hz i (by omega)).onlyL (hz n (by omega))
/-- the shapes of valid statements, by their cells -/
theorem st_shape {us : List Value} (h : okStE.val us = true) :
    (cellI us 0 = 1 ∧ (E.zero (zs 20 5)).val us = true ∧ cellI us 25 = 0) ∨
    ((cellI us 0 = 2 ∨ cellI us 0 = 4) ∧ (E.zero (zs 1 3)).val us = true ∧ (E.zero (zs 4 16)).val us = true ∧ cellI us 25 = 0) ∨
    (cellI us 0 = 3 ∧ (E.zero (zs 1 3)).val us = true ∧ (E.zero (zs 4 16)).val us = true ∧ (E.zero (zs 20 5)).val us = true) := by
  have v2 : ∀ a b : E, (E.and a b).val us = true → a.val us = true ∧ b.val us = true := fun a b h => by simpa [E.val] using h
  have o2 : ∀ a b : E, (E.or a b).val us = true → a.val us = true ∨ b.val us = true := fun a b h => by simpa [E.val] using h
  rcases o2 _ _ h with h | h
  · obtain ⟨h1, h⟩ := v2 _ _ h
    obtain ⟨_, h⟩ := v2 _ _ h
    obtain ⟨_, h⟩ := v2 _ _ h
    obtain ⟨h4, h5⟩ := v2 _ _ h
    exact .inl ⟨one_val h1, h4, one_val h5⟩
  rcases o2 _ _ h with h | h
  · obtain ⟨h1, h⟩ := v2 _ _ h
    obtain ⟨h2, h⟩ := v2 _ _ h
    obtain ⟨h3, h⟩ := v2 _ _ h
    obtain ⟨_, h5⟩ := v2 _ _ h
    exact .inr (.inl ⟨(o2 _ _ h1).imp one_val one_val, h2, h3, one_val h5⟩)
  · obtain ⟨h1, h⟩ := v2 _ _ h
    obtain ⟨h2, h⟩ := v2 _ _ h
    obtain ⟨h3, h⟩ := v2 _ _ h
    obtain ⟨h4, h⟩ := v2 _ _ h
    exact .inr (.inr ⟨one_val h1, h2, h3, h4⟩)
theorem zs19 {us : List Value} (h1 : (E.zero (zs 1 3)).val us = true) (h2 : (E.zero (zs 4 16)).val us = true) : ∀ i, i < 19 → cellI us (1 + i) = 0 := fun i hi => by
  by_cases h : i < 3
  · exact zs_val h1 i h
  · have := zs_val h2 (i - 3) (by omega)
    rw [show 4 + (i - 3) = 1 + i by omega] at this
    exact this
def fullU (us : List Value) : List Value := behind (us ++ []) [] (rvU (rvAt us 4))
section
variable {us : List Value} (hk : All2 Kd.ok kSt us)
include hk
theorem gpsU : Gps gsS [.agg us.toArray] (us ++ []) := ⟨us, _, rfl, ⟨hk, .inl ⟨rfl, rfl⟩⟩, rfl⟩
theorem lenU : (us ++ []).length = 26 := by rw [List.append_nil]; exact hk.len.symm
theorem rhoU {i : Nat} (hi : i < 26) : rhoOf (fullU us) i = cellI us i := by
  unfold fullU
  rw [behind_cell (by rw [lenU hk]; exact hi), List.append_nil]
theorem rhoE {j : Nat} {x : Int} (hx : (rvU (rvAt us 4))[j]? = some x) : rhoOf (fullU us) (26 + j) = x := behind_int (a := 0) (lenU hk) rfl hx
theorem holdsU0 : (L0U 0).Holds (rhoOf (fullU us)) (sigOf (fullU us)) := by
  have h1 : (Lf.startB gsS [] []).Holds (rhoOf (fullU us)) (sigOf (fullU us)) := Lf.startB_some (gpsU hk) (ivS := []) (ivI := []) (strs := []) trivial (i0 := []) rfl trivial
  exact ⟨h1.iv, h1.ne, fun _ _ m => (by cases m), h1.to, h1.st, h1.sn, h1.cf⟩
theorem rep2 {α : Type} {R : (Int × Int) → α → Prop} {p : Int × Int} : ∀ {l : List α}, (∀ x ∈ l, R p x) → All2 R (List.replicate l.length p) l
  | [], _ => trivial
  | x :: l, h => ⟨h x (List.mem_cons_self ..), rep2 fun y hy => h y (List.mem_cons_of_mem _ hy)⟩
theorem holdsU (hr : (rvAt us 4).Ok) : (L0U (rvU (rvAt us 4)).length).Holds (rhoOf (fullU us)) (sigOf (fullU us)) := by
  have h1 : (Lf.startB gsS [] (List.replicate (rvU (rvAt us 4)).length ((0, 15) : Int × Int))).Holds (rhoOf (fullU us)) (sigOf (fullU us)) :=
    Lf.startB_ok (gpsU hk) (ivS := []) (strs := []) trivial (rep2 hk (R := fun p (m : Int) => p.1 ≤ m ∧ m ≤ p.2) fun x hx => (rvU_in hr).1 x hx)
  refine ⟨h1.iv, h1.ne, fun i j m => ?_, h1.to, h1.st, h1.sn, h1.cf⟩
  have m : (i, j) ∈ pairsU (rvU (rvAt us 4)).length := m
  obtain ⟨b, hb, m⟩ := List.mem_flatMap.1 m
  obtain ⟨a, ha, e⟩ := List.mem_map.1 m
  have hb := List.mem_range.1 hb
  have ha := List.mem_range.1 ha
  cases e
  have e1 : (rvU (rvAt us 4))[a]? = some ((rvU (rvAt us 4))[a]'(by omega)) := List.getElem?_eq_getElem _
  have e2 : (rvU (rvAt us 4))[b]? = some ((rvU (rvAt us 4))[b]'(by omega)) := List.getElem?_eq_getElem _
  rw [rhoE hk e1, rhoE hk e2]
  exact incr_lt (rvU_in hr).2 ha e1 e2
/-- each valid statement is in a class -/
theorem classU (he : okStE.val us = true) : ∃ c nu, (c, nu) ∈ casesU ∧ (LcU c nu).Holds (rhoOf (fullU us)) (sigOf (fullU us)) ∧ ((c = 1 ∧ cellI us 0 = 1 ∧ nu = (rvU (rvAt us 4)).length ∧ (okRvE 4).val us = true) ∨ c ≠ 1) := by
  obtain ⟨ho, hs⟩ := st_val he hk
  have c0 : ∀ i, i < 26 → rhoOf (fullU us) i = cellI us i := fun i hi => rhoU hk hi
  have z : ∀ {o n : Nat}, o + n ≤ 26 → (∀ i, i < n → cellI us (o + i) = 0) → ∀ i, i < n → rhoOf (fullU us) (o + i) = 0 := fun {o n} hon h i hi => (c0 _ (by omega)).trans (h i hi)
  rcases st_shape he with ⟨k, h1, h2⟩ | ⟨k, h1, h2, h3⟩ | ⟨k, h1, h2, h3⟩
  · have hp : (okPlE 1).val us = true ∧ (okRvE 4).val us = true := by
      rcases hs with ⟨_, e⟩ | ⟨e, _⟩ | e
      · exact e
      · omega
      · omega
    have hr := rv_val hp.2 (stR_ok hk)
    have hin := pl_val hp.1 (ok_u8 hk rfl)
    have hin0 := hin.l0; have hin1 := hin.l1; have hf1 : cellI us 3 ≤ 2 := hin.f1
    have hl := rvU_len (rvAt us 4)
    refine ⟨1, (rvU (rvAt us 4)).length, ?_, ?_, .inl ⟨rfl, k, rfl, hp.2⟩⟩
    · have : (rvU (rvAt us 4)).length = 0 ∨ (rvU (rvAt us 4)).length = 1 ∨ (rvU (rvAt us 4)).length = 2 := by omega
      rcases this with e | e | e <;> rw [e] <;> decide
    · rw [LcU_1]
      refine Lf.Holds.zeroL (((((holdsU hk hr).onlyL ((c0 0 (by decide)).trans k)).hi (i := 1) (c := 15) (by rw [c0 1 (by decide)]; exact hin1)).lo (i := 1) (c := 0) (by rw [c0 1 (by decide)]; exact hin0)).hi (i := 3) (c := 2) (by rw [c0 3 (by decide)]; exact hf1)) fun i hi => ?_
      rw [c0 _ (by omega)]
      by_cases h5 : i < 5
      · exact zs_val h1 i h5
      · obtain rfl : i = 5 := by omega
        exact h2
  · have hop : (okOpE 20).val us = true := by
      rcases hs with ⟨e, _⟩ | ⟨_, e⟩ | e
      · omega
      · exact e
      · omega
    have z19 := z (o := 1) (n := 19) (by decide) (zs19 h1 h2)
    have z25 : ∀ i, i < 1 → rhoOf (fullU us) (25 + i) = 0 := fun i hi => by
      obtain rfl : i = 0 := by omega
      exact (c0 25 (by decide)).trans h3
    have hO := op_val hop (ok_i64 hk rfl) (ok_u8 hk rfl)
    have b23 : cellI us 23 = 0 ∨ cellI us 23 = 1 := ok_b hk rfl
    rcases hO with ⟨q1, _, q3, q4, q5⟩ | ⟨q1, q2, q3⟩
    · have q1 : cellI us 20 = 1 := q1
      have q4 : decide (cellI us 23 = 1) = false := q4
      have q4' : cellI us 23 = 0 := by
        rcases b23 with e | e
        · exact e
        · rw [e] at q4; cases q4
      have z22 : ∀ i, i < 3 → rhoOf (fullU us) (22 + i) = 0 := fun i hi => by
        match i, hi with
        | 0, _ => exact (c0 22 (by decide)).trans q3
        | 1, _ => exact (c0 23 (by decide)).trans q4'
        | 2, _ => exact (c0 24 (by decide)).trans q5
      rcases k with k | k
      · refine ⟨2, 0, by decide, ?_, .inr (by decide)⟩
        rw [LcU_2]
        exact (((((holdsU0 hk).onlyL ((c0 0 (by decide)).trans k)).onlyL ((c0 20 (by decide)).trans q1)).zeroL z22).zeroL z19).zeroL z25
      · refine ⟨4, 0, by decide, ?_, .inr (by decide)⟩
        rw [LcU_4]
        exact (((((holdsU0 hk).onlyL ((c0 0 (by decide)).trans k)).onlyL ((c0 20 (by decide)).trans q1)).zeroL z22).zeroL z19).zeroL z25
    · have q1 : cellI us 20 = 2 ∨ cellI us 20 = 3 := q1
      have q2 : cellI us 21 = 0 := q2
      have l0 : 0 ≤ cellI us 22 := q3.l0
      have l1 : cellI us 22 ≤ 15 := q3.l1
      have f1 : cellI us 24 ≤ 2 := q3.f1
      have key : ∀ {n : Int}, cellI us 0 = n → ((((onlyL (((zeroL (zeroL (onlyL (L0U 0) 0 n) 1 19) 25 1).hi 20 3).lo 20 2) 21 0).hi 22 15).lo 22 0).hi 24 2).Holds (rhoOf (fullU us)) (sigOf (fullU us)) := fun {n} k =>
        (((((((((holdsU0 hk).onlyL ((c0 0 (by decide)).trans k)).zeroL z19).zeroL z25).hi (i := 20) (c := 3) (by rw [c0 20 (by decide)]; omega)).lo (i := 20) (c := 2) (by rw [c0 20 (by decide)]; omega)).onlyL ((c0 21 (by decide)).trans q2)).hi (i := 22) (c := 15) (by rw [c0 22 (by decide)]; omega)).lo (i := 22) (c := 0) (by rw [c0 22 (by decide)]; omega)).hi (i := 24) (c := 2) (by rw [c0 24 (by decide)]; omega)
      rcases k with k | k
      · refine ⟨12, 0, by decide, ?_, .inr (by decide)⟩
        rw [LcU_12]
        exact key k
      · refine ⟨14, 0, by decide, ?_, .inr (by decide)⟩
        rw [LcU_14]
        exact key k
  · have z19 := z (o := 1) (n := 19) (by decide) (zs19 h1 h2)
    have z20 := z (o := 20) (n := 5) (by decide) (zs_val h3)
    have hn : 0 ≤ cellI us 25 ∧ cellI us 25 < 16 := by
      rcases ho with ⟨e, _⟩ | ⟨e, _⟩ | ⟨_, _, _, _, _, _, e⟩
      · have e : cellI us 0 = 1 := e
        omega
      · have e : cellI us 0 = 2 ∨ cellI us 0 = 4 := e
        omega
      · exact e
    refine ⟨3, 0, by decide, ?_, .inr (by decide)⟩
    rw [LcU_3]
    exact (((((holdsU0 hk).onlyL ((c0 0 (by decide)).trans k)).hi (i := 25) (c := 15) (by rw [c0 25 (by decide)]; omega)).lo (i := 25) (c := 0) (by rw [c0 25 (by decide)]; omega)).zeroL z19).zeroL z20
end
theorem numsN_ok [Base] {r : Ren} : ∀ {xs : List S} {l : List N} {vs : List Int}, mapO numN xs = some l → All2 (VS r) xs (vs.map (Value.int .i64)) → l.map NV = vs
  | [], l, [], h, _ => by cases h; rfl
  | [], _, _ :: _, _, h => h.elim
  | _ :: _, _, [], _, h => h.elim
  | x :: xs, l, v :: vs, h, ha => by
    obtain ⟨n, hn, h⟩ := ob_some (show (ob (numN x) fun y => ob (mapO numN xs) fun r => some (y :: r)) = some l from h)
    obtain ⟨q, hq, h⟩ := ob_some h
    cases h
    have e := numN_ok hn ha.1
    rw [List.map_cons, numsN_ok hq ha.2, ← e]
    rfl
theorem tabAll {w w0 : World} (k : TabOk w0) (h : ∀ b, b < 3 → w.heap[b]? = w0.heap[b]?) : TabOk w := by
  refine ⟨?_, k.here h⟩
  have hs := k.size
  have h3 : w0.heap[2]? = some w0.heap[2] := Array.getElem?_eq_getElem (by omega)
  have := (Array.getElem?_eq_some_iff.1 ((h 2 (by decide)).trans h3)).1
  omega
theorem uses_of {F : FuncId} (hrun : casesU.all (allU F) = true) : ListsE F kSt okStE (fun us => stU (stOf us)) := by
  intro us hk he w hw
  obtain ⟨c, nu, hm, hst, hc⟩ := classU hk he
  have hall := List.all_eq_true.1 hrun (c, nu) hm
  obtain ⟨L, hmem, hL⟩ := (spU c nu).cover hst
  have hp : goodU F c nu L = true := List.all_eq_true.1 hall L hmem
  unfold goodU at hp
  rw [cyc_no hL, Bool.false_or] at hp
  have hlens : Lens [] (rhoOf (fullU us)) (sigOf (fullU us)) := lens_behind (n := 26) (a := 0) (gpsU hk) rfl (lenU hk) rfl
  letI b0 : Base := base0 w (Lf.ok hL hlens)
  have e0 : fullU us = us ++ ((([] : List (List UInt8)).map strV) ++ (rvU (rvAt us 4)).map (Value.int .i64)) := by
    unfold fullU behind
    rw [List.append_nil]
  have cs : All2 (VS r0) (clL L 0 kSt) us := clL_ok (pre := []) (us := us) (post := (([] : List (List UInt8)).map strV) ++ (rvU (rvAt us 4)).map (Value.int .i64)) hL rfl rfl e0 rfl hk
  have cr : All2 (VS r0) (clL L 4 kRv) ((us.drop 4).take 16) := (cs.drop 4).take 16
  have kr : All2 Kd.ok kRv ((us.drop 4).take 16) := (hk.drop 4).take 16
  have tabs : ∀ w' : World, (∀ b, b < Base.nb → w'.heap[b]? = Base.g b) → TabOk w' := fun w' h' => tabAll hw h'
  have hrv : rvAt ((us.drop 4).take 16) 0 = rvAt us 4 := by
    simp only [rvAt, opdAt, Nat.zero_add, Nat.reduceAdd, cellI_sub (us := us) (n := 4) (m := 16) (show 0 < 16 by decide), cellI_sub (us := us) (n := 4) (m := 16) (show 1 < 16 by decide), cellI_sub (us := us) (n := 4) (m := 16) (show 2 < 16 by decide), cellI_sub (us := us) (n := 4) (m := 16) (show 3 < 16 by decide), cellI_sub (us := us) (n := 4) (m := 16) (show 4 < 16 by decide), cellI_sub (us := us) (n := 4) (m := 16) (show 5 < 16 by decide),
      cellI_sub (us := us) (n := 4) (m := 16) (show 6 < 16 by decide), cellI_sub (us := us) (n := 4) (m := 16) (show 7 < 16 by decide), cellI_sub (us := us) (n := 4) (m := 16) (show 8 < 16 by decide), cellI_sub (us := us) (n := 4) (m := 16) (show 9 < 16 by decide), cellI_sub (us := us) (n := 4) (m := 16) (show 10 < 16 by decide), cellI_sub (us := us) (n := 4) (m := 16) (show 11 < 16 by decide),
      cellI_sub (us := us) (n := 4) (m := 16) (show 12 < 16 by decide), cellI_sub (us := us) (n := 4) (m := 16) (show 13 < 16 by decide), cellI_sub (us := us) (n := 4) (m := 16) (show 14 < 16 by decide), cellI_sub (us := us) (n := 4) (m := 16) (show 15 < 16 by decide)]
  have hN : nu = (rvU (rvAt us 4)).length → ∀ r, All2 (VS r) ((numsX 26 nu).map L.nS) (intsV (rvU (rvAt us 4))) := fun e r => by
    rw [e]
    exact Lf.nSs_ok hL (numsX_ok fun j m hj => rhoE hk hj)
  have hS : Sound Tryz.prog (libU L c nu) := by
    refine @sound_or b0 _ _ _ (sound_orcs fun O hO => ?_) (@sound_or b0 _ _ _ (sound_valid5 b0) (@sound_or b0 _ _ _ (sound_inc b0) (sound_insX b0)))
    unfold rowsU at hO
    rcases List.mem_append.1 hO with hO | hO
    · simp only [List.mem_cons, List.not_mem_nil, or_false] at hO
      subst hO
      exact sound_cell ⟨_, Tryz.func75, by kernel_rfl, by kernel_rfl⟩ (ones_T _ kSt 0 rfl) cs (u := v8 true) (fun _ => rfl) fun w' _ => by rw [← he]; exact stA_tests us hk w' trivial
    · rcases hc with ⟨rfl, _, hnu, hvr⟩ | hc
      · have hO : O ∈ [listO 22 (clL L 4 kRv) ((numsX 26 nu).map L.nS)] := hO
        simp only [List.mem_cons, List.not_mem_nil, or_false] at hO
        have hv0 : (okRvE 0).val ((us.drop 4).take 16) = true := by rw [rv_at]; exact hvr
        subst hO
        refine sound_list ⟨_, Tryz.func22, by kernel_rfl, by kernel_rfl⟩ (ones_T _ kRv 4 rfl) cr (hN hnu) (Q := TabOk) (fun w' hw' => tabs w' hw') ?_
        have : Lists Tryz.prog TabOk 22 ((us.drop 4).take 16) (intsV (rvU (rvAt ((us.drop 4).take 16) 0))) := ruA_lists _ kr hv0
        rw [hrv] at this
        exact this
      · have hb : Nat.beq c 1 = false := by
          cases hb : Nat.beq c 1
          · rfl
          · exact absurd (Nat.eq_of_beq_eq_true hb) hc
        rw [hb] at hO
        cases hO
  cases hx : expU L c nu with
  | none => rw [hx] at hp; cases hp
  | some q =>
    rw [hx] at hp
    have hp : (Option.rec false (fun cs => sameL S.eqv (q.map numS) cs) (rowAt (runU F c nu L)) : Bool) = true := hp
    cases hr : rowAt (runU F c nu L) with
    | none => rw [hr] at hp; cases hp
    | some ys =>
      rw [hr] at hp
      have hys : q.map numS = ys := sameL_eq (fun _ _ => S.eqv_ok) hp
      subst hys
      have hq : q.map NV = stU (stOf us) := by
        unfold expU at hx
        rcases hc with ⟨rfl, k1, hnu, _⟩ | hc
        · obtain ⟨l, hl, hx⟩ := ob_some (show (ob (mapO numN ((numsX 26 nu).map L.nS)) fun l => ob (partX (clL L 0 kSt)) fun p => bif p then ob (nth (clL L 0 kSt) 1) fun x => ob (numN x) fun n => insX n l else some l) = some q from hx)
          obtain ⟨p, hp', hx⟩ := ob_some hx
          have e1 := numsN_ok hl (hN hnu r0)
          have e2 := partX_ok cs hp'
          unfold stU
          rw [if_pos (show (stOf us).k = 1 from k1)]
          cases p <;> simp only [cond_true, cond_false] at hx
          · rw [if_neg (fun hh => by have := e2.2 hh; cases this)]
            cases hx
            exact e1
          · rw [if_pos (e2.1 rfl)]
            obtain ⟨y, hy, hx⟩ := ob_some hx
            obtain ⟨n, hn, hx⟩ := ob_some hx
            obtain ⟨u2, k2, v2, c2⟩ := cellX cs hy
            rw [insX_ok hx, e1, ← numN_ok hn v2, ← c2]
            rfl
        · have hb : Nat.beq c 1 = false := by
            cases hb : Nat.beq c 1
            · rfl
            · exact absurd (Nat.eq_of_beq_eq_true hb) hc
          rw [hb] at hx
          exact stUX_ok cs hx
      have ha : All2 (VA r0) [.g (clL L 0 kSt)] [.agg us.toArray] := ⟨⟨us, rfl, cs⟩, trivial⟩
      refine (calls_row w hw.size (fun _ _ => rfl) (@sound_runs w _ _ _ (Lf.ok hL hlens) _ hS 30 20) ha hr).mono fun x w' ⟨u, vs, r', e1, e2, e3, e4⟩ => ⟨u, e1, ?_, e4⟩
      have hv := numsS_ok e3
      rw [hq] at hv
      rw [hv] at e2
      exact e2
theorem tusA_lists : ListsE 29 kSt okStE (fun us => stU (stOf us)) := uses_of usesA_run
end Go.Proofs.YtnhnelgkcldkbaaGreatDoor.Am
