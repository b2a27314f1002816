/- pawnshopref04.SameInts of two lists of the same numbers. value.Uses by the plain data of an rvalue: the locals of its places, in order. -/
import Derived.Test.YtnhnelgkcldkbaaGreatDoorKit
import Derived.Test.YtnhnelgkcldkbaaGreatDoorAmC
import Derived.Test.YtnhnelgkcldkbaaGreatDoorProg
import Derived.Deep.QuietTactic
import Derived.BigQuiet
import Derived.Test.YtnhnelgkcldkbaaGreatDoorCodS
import Derived.Test.YtnhnelgkcldkbaaGreatDoorCodPl
import Derived.Test.YtnhnelgkcldkbaaGreatDoorUses45
import Derived.Test.YtnhnelgkcldkbaaGreatDoorJump2
namespace Go.Proofs.YtnhnelgkcldkbaaGreatDoor.sameI
open Go.RowKit Go.Proofs.YtnhnelgkcldkbaaGreatDoor Go.Proofs.YtnhnelgkcldkbaaGreatDoor.Am
set_option linter.unusedVariables false
/-- a slice of these numbers that can be read -/
def Ints (w : World) (s : Value) (l : List Int) : Prop := ∃ A c, s = .slice A l.length c ∧ (l.length : Int) ≤ 9223372036854775807 ∧ Row w w.heap.size .i64 A l
theorem Ints.own {w : World} {l : List Int} {s : Value} {b n : Nat} (h : w.ownsRow b 3 1 s n (l.map (Value.int .i64))) : Ints w s l := by
  obtain ⟨A, c, e, h1, hm, r, _⟩ := Row.of_own h
  exact ⟨A, c, e, by unfold maxLen at hm; omega, r⟩
theorem Ints.new {w w1 : World} {l : List Int} {s : Value} (h : NewRow w w1 s (l.map (Value.int .i64))) : Ints w1 s l := by
  generalize hl : l.map (Value.int .i64) = us at h
  cases h with
  | none =>
    have : l = [] := by simpa using hl
    subst this
    exact ⟨none, 0, rfl, by simp, fun h => by simp at h⟩
  | @row g cap C T fz _ hp hg hnew hfz hn hmx hcap hus =>
    have hlen : us.length = l.length := by rw [← hl]; simp
    refine ⟨some ⟨g, 0, none⟩, cap, by rw [hlen], by unfold maxLen at hmx; omega, fun _ => ⟨g, 0, rfl, (Array.getElem?_eq_some_iff.1 hnew).1, fun j hj => ?_⟩⟩
    rw [Nat.zero_add, cell_of_row w1 g j C T fz hnew]
    have hj' : us[j]? = some (.int .i64 (l.getD j 0)) := by
      rw [← hl]
      simp [List.getD, List.getElem?_eq_getElem hj]
    rw [← hus, List.getElem?_take] at hj'
    split at hj'
    · simpa using hj'
    · cases hj'
theorem Ints.below {w w' : World} {l : List Int} {s : Value} (h : Ints w s l) (hb : Below w.heap.size w w') : Ints w' s l := by
  obtain ⟨A, c, e, hm, r⟩ := h
  exact ⟨A, c, e, hm, (r.below hb (Nat.le_refl _)).more hb.size⟩
set_option maxRecDepth 100000 in
set_option maxHeartbeats 1000000 in
theorem same_ints {w : World} {l : List Int} {s t : Value} (h1 : Ints w s l) (h2 : Ints w t l) :
    Calls Tryz.prog 26 #[s, t] w fun e w' => e = .returned (.bool true) ∧ Below w.heap.size w w' := by
  obtain ⟨A1, c1, rfl, hm1, r1⟩ := h1
  obtain ⟨A2, c2, rfl, hm2, r2⟩ := h2
  have hmax : (l.length : Int) ≤ 9223372036854775807 := hm1
  go_enter Tryz.func26, Tryz.ntmps26
  go_wp2
  go_loopw [5] (fun m wr => ∃ (i : Nat), m = .int .i64 i ∧ i ≤ l.length ∧ Below w.heap.size w wr) (fun m _ => l.length - (intOf m).toNat)
  case atStart => exact ⟨0, rfl, Nat.zero_le _, Below.refl _ _⟩
  case round =>
    obtain ⟨i, rfl, hi, hbel⟩ := hrel
    rcases Nat.lt_or_ge i l.length with hlt | hge
    · obtain ⟨p1, o1, rfl, hp1, hc1⟩ := r1 (by omega)
      obtain ⟨p2, o2, rfl, hp2, hc2⟩ := r2 (by omega)
      have e1 : wr.cell? ⟨p1, o1 + i, none⟩ = some (.int .i64 (l.getD i 0)) := (hbel.cell (p := ⟨p1, o1 + i, none⟩) hp1).trans (hc1 i hlt)
      have e2 : wr.cell? ⟨p2, o2 + i, none⟩ = some (.int .i64 (l.getD i 0)) := (hbel.cell (p := ⟨p2, o2 + i, none⟩) hp2).trans (hc2 i hlt)
      have hlt' : (i : Int) < (l.length : Int) := by omega
      have h0 : (0 : Int) ≤ (i : Int) := Int.natCast_nonneg _
      generalize l.getD i 0 = x at *
      have hbel' : ∀ n, Below w.heap.size w (wr.drewN n) := fun n => hbel.trans ⟨rfl, rfl, rfl, Nat.le_refl _, fun _ _ => rfl⟩
      have HB := Lib.hid hbel'
      clear hc1 hc2 r1 r2 hbel'
      go_wp2
      go_quiet (fail)
      all_goals
        go_wp2
        go_roundw
        case rel => exact ⟨i + 1, by simp, by omega, HB.out _⟩
        case measure => simp [intOf]; omega
    · obtain rfl : i = l.length := by omega
      go_wp2
      go_ret
      exact ⟨rfl, hbel⟩
end Go.Proofs.YtnhnelgkcldkbaaGreatDoor.sameI
namespace Go.Proofs.YtnhnelgkcldkbaaGreatDoor.enc
open Go.RowKit Go.Proofs.YtnhnelgkcldkbaaGreatDoor Go.Proofs.YtnhnelgkcldkbaaGreatDoor.Am Go.Proofs.YtnhnelgkcldkbaaGreatDoor.loan Go.Proofs.YtnhnelgkcldkbaaGreatDoor.bld
set_option linter.unusedVariables false
/-- which of 16 locals stand in a list -/
abbrev bitsOf (ls : List Int) : List Bool := boolsT ls
def locs (l : List PlV) : List Int := l.map PlV.l
theorem bits_set {ls : List Int} {l : Int} (h0 : 0 ≤ l) (h1 : l ≤ 15) : (bitsOf ls).set l.toNat true = bitsOf (ls ++ [l]) := by
  refine List.ext_getElem? fun j => ?_
  unfold bitsOf boolsT
  rw [List.getElem?_set, List.getElem?_map, List.getElem?_map]
  by_cases hj : j < 16
  · rw [List.getElem?_range hj]
    by_cases e : l.toNat = j
    · have : l = (j : Int) := by omega
      simp [hj, this]
    · have : ¬ (j : Int) = l := by omega
      simp [e, this]
  · have : (List.range 16)[j]? = none := List.getElem?_eq_none (by simp; omega)
    rw [this]
    have : ¬ l.toNat = j := by omega
    simp [this]
theorem one_runs : ((List.range 16).all fun x => incr 0 (bitsOf [(x : Int)]) == [(x : Int)]) = true := by kernel_rfl
theorem two_runs : ((List.range 16).all fun x => (List.range 16).all fun y => srtU [(x : Int), (y : Int)] == incr 0 (bitsOf [(x : Int), (y : Int)])) = true := by kernel_rfl
theorem one_at {x : Int} (h0 : 0 ≤ x) (h1 : x ≤ 15) : incr 0 (bitsOf [x]) = [x] := by
  obtain ⟨n, rfl⟩ := Int.eq_ofNat_of_zero_le h0
  exact eq_of_beq (List.all_eq_true.1 one_runs n (List.mem_range.2 (by omega)))
theorem two_at {x y : Int} (h0 : 0 ≤ x) (h1 : x ≤ 15) (k0 : 0 ≤ y) (k1 : y ≤ 15) : srtU [x, y] = incr 0 (bitsOf [x, y]) := by
  obtain ⟨n, rfl⟩ := Int.eq_ofNat_of_zero_le h0
  obtain ⟨m, rfl⟩ := Int.eq_ofNat_of_zero_le k0
  exact eq_of_beq (List.all_eq_true.1 (List.all_eq_true.1 two_runs n (List.mem_range.2 (by omega))) m (List.mem_range.2 (by omega)))
theorem none_at : incr 0 (bitsOf []) = [] := by kernel_rfl
theorem opd_c (a : OpV) : (∃ n, a = .k n ∧ opU (opdAt a.c 0) = [] ∧ a.pls = []) ∨ (∃ m q, a = .p m q ∧ opU (opdAt a.c 0) = [q.l] ∧ a.pls = [q]) := by
  cases a with
  | k n => exact .inl ⟨n, rfl, rfl, rfl⟩
  | p m q => exact .inr ⟨m, q, rfl, by cases m <;> rfl, rfl⟩
theorem rv_uses {r : RvV} (h : r.ok) : rvU (rvAt r.c 0) = incr 0 (bitsOf (locs r.pls)) := by
  have pq : ∀ (q : PlV), q.ok → 0 ≤ q.l ∧ q.l ≤ 15 := fun q h => ⟨h.l0, h.l1⟩
  cases r with
  | use a =>
    have e : rvU (rvAt (RvV.use a).c 0) = opU (opdAt a.c 0) := by cases a <;> rfl
    rw [e]
    rcases opd_c a with ⟨n, rfl, h1, h2⟩ | ⟨m, q, rfl, h1, h2⟩
    · rw [h1]; exact none_at.symm
    · obtain ⟨q0, q1⟩ := pq q h
      rw [h1]; exact (one_at q0 q1).symm
  | bin o a b =>
    have e : rvU (rvAt (RvV.bin o a b).c 0) = srtU (opU (opdAt a.c 0) ++ opU (opdAt b.c 0)) := by cases a <;> cases b <;> rfl
    rw [e]
    obtain ⟨_, _, ha, hb⟩ := h
    rcases opd_c a with ⟨n, rfl, h1, h2⟩ | ⟨m, q, rfl, h1, h2⟩ <;> rcases opd_c b with ⟨n', rfl, k1, k2⟩ | ⟨m', q', rfl, k1, k2⟩
    · rw [h1, k1]; exact none_at.symm
    · obtain ⟨q0, q1⟩ := pq q' hb
      rw [h1, k1]; exact (one_at q0 q1).symm
    · obtain ⟨q0, q1⟩ := pq q ha
      rw [h1, k1]; exact (one_at q0 q1).symm
    · obtain ⟨q0, q1⟩ := pq q ha
      obtain ⟨r0, r1⟩ := pq q' hb
      rw [h1, k1]; exact two_at q0 q1 r0 r1
  | two a b =>
    have e : rvU (rvAt (RvV.two a b).c 0) = srtU (opU (opdAt a.c 0) ++ opU (opdAt b.c 0)) := by cases a <;> cases b <;> rfl
    rw [e]
    obtain ⟨ha, hb⟩ := h
    rcases opd_c a with ⟨n, rfl, h1, h2⟩ | ⟨m, q, rfl, h1, h2⟩ <;> rcases opd_c b with ⟨n', rfl, k1, k2⟩ | ⟨m', q', rfl, k1, k2⟩
    · rw [h1, k1]; exact none_at.symm
    · obtain ⟨q0, q1⟩ := pq q' hb
      rw [h1, k1]; exact (one_at q0 q1).symm
    · obtain ⟨q0, q1⟩ := pq q ha
      rw [h1, k1]; exact (one_at q0 q1).symm
    · obtain ⟨q0, q1⟩ := pq q ha
      obtain ⟨r0, r1⟩ := pq q' hb
      rw [h1, k1]; exact two_at q0 q1 r0 r1
  | ref o q => exact (one_at h.2.2.l0 h.2.2.l1).symm
  | raw q => exact (one_at (x := q.l) h.l0 h.l1).symm
/-- a new list of these numbers, and no error -/
def AnsL (l : List Int) (W : World) (e : Ending) (W' : World) : Prop := ∃ u, e = .returned (.tuple #[u, .int .i64 0]) ∧ sameI.Ints W' u l ∧ Below W.heap.size W W'
theorem of_lists {F : FuncId} {us : List Value} {l : List Int} (h : Lists Tryz.prog TabOk F us (intsV l)) {W : World} (k : TabOk W) : Calls Tryz.prog F #[.agg us.toArray] W (AnsL l W) := by
  refine (h W k).mono ?_
  rintro e w' ⟨u, rfl, hn, hb⟩
  exact ⟨u, rfl, sameI.Ints.new hn, hb⟩
theorem uses_c {r : RvV} (hk : All2 Kd.ok kRv r.c) (hv : (okRvE 0).val r.c = true) (h : r.ok) {W : World} (k : TabOk W) : Calls Tryz.prog 22 #[.agg r.c.toArray] W (AnsL (incr 0 (bitsOf (locs r.pls))) W) := by
  rw [← rv_uses h]
  exact of_lists (ruA_lists r.c hk hv) k
end Go.Proofs.YtnhnelgkcldkbaaGreatDoor.enc
