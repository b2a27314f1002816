/- The contracts that TopCode's walk leans on, by the plain data of its place and rvalue. -/
import Derived.Test.YtnhnelgkcldkbaaGreatDoorCodW
import Derived.Test.YtnhnelgkcldkbaaGreatDoorCodSt
import Derived.Test.YtnhnelgkcldkbaaGreatDoorCodS
import Derived.Test.YtnhnelgkcldkbaaGreatDoorUses5C
import Derived.Test.YtnhnelgkcldkbaaGreatDoorLists5MA
import Derived.Test.YtnhnelgkcldkbaaGreatDoorJump3C
import Derived.Test.YtnhnelgkcldkbaaGreatDoorAppend
namespace Go.Proofs.YtnhnelgkcldkbaaGreatDoor.enc
open Go.RowKit Go.Proofs.YtnhnelgkcldkbaaGreatDoor Go.Proofs.YtnhnelgkcldkbaaGreatDoor.Am Go.Proofs.YtnhnelgkcldkbaaGreatDoor.loan Go.Proofs.YtnhnelgkcldkbaaGreatDoor.bld
set_option linter.unusedVariables false

theorem rv_len (r : RvV) : r.c.length = 16 := r.len16'
theorem rv_of_st {q : PlV} {r : RvV} (hk : All2 Kd.ok kSt (stC q.c r.c)) (hv : okStE.val (stC q.c r.c) = true) : (okRvE 0).val r.c = true := by
  rcases (st_val hv hk).2 with ⟨_, _, h⟩ | ⟨h, _⟩ | h
  · rw [← rv_at] at h
    have e : ((stC q.c r.c).drop 4).take 16 = r.c := by
      show (r.c ++ (zO ++ [Value.int .i64 0])).take 16 = r.c
      rw [List.take_append_of_le_length (by rw [rv_len]; exact Nat.le_refl _), List.take_of_length_le (by rw [rv_len]; exact Nat.le_refl _)]
    rwa [e] at h
  · exact absurd h (by show ¬ ((1 : Int) = 2 ∨ (1 : Int) = 4); decide)
  · exact absurd h (by show ¬ (1 : Int) = 3; decide)
theorem suses_c {sc : List Value} (h : All2 Kd.ok kSt sc) (hv : okStE.val sc = true) {W : World} (k : TabOk W) : Calls Tryz.prog 29 #[.agg sc.toArray] W (AnsL (stU (stOf sc)) W) := of_lists (tusA_lists sc h hv) k
theorem smoves_c {sc : List Value} (h : All2 Kd.ok kSt sc) (hv : okStE.val sc = true) {W : World} (k : TabOk W) : Calls Tryz.prog 31 #[.agg sc.toArray] W (AnsL (stM (stOf sc)) W) := of_lists (tmvA_lists sc h hv) k
/-- the call jump's cells -/
def jmC (A : Option Addr) (n c : Nat) (pc : List Value) : List Value := pre4 ++ .slice A n c :: pc
section
variable {W : World} {l : List OpV} {q : PlV} {A : Option Addr} {c : Nat} (h : ∀ a ∈ l, a.ok) (hq : q.ok) (hl : l.length ≤ 2) (rows : RowsAt W A 5 (l.map OpV.c)) (hc : (l.map OpV.c).length ≤ c) (hc2 : c ≤ 2)
include h hq hl rows hc hc2
theorem juses_c : Calls Tryz.prog 30 #[.agg (jmC A (l.map OpV.c).length c q.c).toArray] W (AnsL (incT (usesJ pre4 (l.map OpV.c) q.c)) W) := by
  refine (jUsesA W _ pre4 _ q.c _ (call_is h hq rows hc hc2) (call_ok h hq hl)).mono ?_
  rintro e w' ⟨u, rfl, hn, hb⟩
  exact ⟨u, rfl, sameI.Ints.new hn, hb⟩
theorem jmoves_c : Calls Tryz.prog 32 #[.agg (jmC A (l.map OpV.c).length c q.c).toArray] W (AnsL (incT (movesJ pre4 (l.map OpV.c) q.c)) W) := by
  refine (jMovesA W _ pre4 _ q.c _ (call_is h hq rows hc hc2) (call_ok h hq hl)).mono ?_
  rintro e w' ⟨u, rfl, hn, hb⟩
  exact ⟨u, rfl, sameI.Ints.new hn, hb⟩
theorem jsets_c : Calls Tryz.prog 34 #[.agg (jmC A (l.map OpV.c).length c q.c).toArray] W (bld.Ans W (.tuple #[.int .i64 (setJ pre4 q.c), .int .i64 0])) :=
  jSetA W _ pre4 _ q.c _ (call_is h hq rows hc hc2) (call_ok h hq hl)
theorem jcheck_c : Calls Tryz.prog 35 #[.agg (jmC A (l.map OpV.c).length c q.c).toArray] W (bld.Ans W (.int .i64 0)) := by
  have := jP_tests W _ pre4 _ q.c _ (call_is h hq rows hc hc2)
  rw [call_ok h hq hl] at this
  exact this
end
theorem ops_ok {r : RvV} (h : r.ok) : ∀ a ∈ r.ops, a.ok := by
  intro a ha
  cases r with
  | use b => rw [List.mem_singleton.1 (show a ∈ [b] from ha)]; exact h
  | bin o b c =>
    obtain ⟨_, _, hb, hc⟩ := h
    rcases List.mem_cons.1 (show a ∈ [b, c] from ha) with rfl | e
    · exact hb
    · rw [List.mem_singleton.1 e]; exact hc
  | two b c =>
    obtain ⟨hb, hc⟩ := h
    rcases List.mem_cons.1 (show a ∈ [b, c] from ha) with rfl | e
    · exact hb
    · rw [List.mem_singleton.1 e]; exact hc
  | ref o q => cases ha
  | raw q => cases ha
theorem pls_ok {r : RvV} (h : r.ok) : ∀ q ∈ r.pls, q.ok := by
  intro q hq
  rcases List.mem_append.1 hq with hm | hm
  · obtain ⟨a, ha, hm⟩ := List.mem_flatMap.1 hm
    have := ops_ok h a ha
    cases a with
    | k n => cases hm
    | p m p => rw [List.mem_singleton.1 (show q ∈ [p] from hm)]; exact this
  · cases r with
    | use b => cases hm
    | bin o b c => cases hm
    | two b c => cases hm
    | ref o p => rw [List.mem_singleton.1 (show q ∈ [p] from hm)]; exact h.2.2
    | raw p => rw [List.mem_singleton.1 (show q ∈ [p] from hm)]; exact h
theorem ops_two (r : RvV) : r.ops.length ≤ 2 := by cases r <;> simp [RvV.ops]
theorem pls_two (r : RvV) : r.pls.length ≤ 3 := by
  have h1 := pls_le r
  have h2 : r.own.length ≤ 1 := by cases r <;> simp [RvV.own]
  unfold RvV.pls
  rw [List.length_append]
  omega
/-- the truth values in their block, and all that was there, as it was -/
structure Lx (w3 : World) (U : Nat) (ls : List Int) (W : World) : Prop where
  b : Below U w3 W
  u : W.heap[U]? = some (.cells ((bitsOf ls).map Value.bool).toArray 69 (0, 0))
theorem Lx.start (w3 : World) : Lx w3 w3.heap.size [] (w3.alloc (.cells ((bitsOf []).map Value.bool).toArray 69)) := ⟨(Below.refl _ w3).alloc (Nat.le_refl _) _, at_alloc rfl⟩
theorem Lx.lt {w3 W : World} {U : Nat} {ls : List Int} (h : Lx w3 U ls W) : U < W.heap.size := (Array.getElem?_eq_some_iff.1 h.u).1
theorem Lx.below {w3 W W' : World} {U : Nat} {ls : List Int} (h : Lx w3 U ls W) (hb : Below W.heap.size W W') : Lx w3 U ls W' := ⟨h.b.trans (hb.mono (Nat.le_of_lt h.lt)), (hb.block _ h.lt).trans h.u⟩
theorem Lx.put {w3 W : World} {U : Nat} {ls : List Int} (h : Lx w3 U ls W) {l : Nat} (h1 : l ≤ 15) : Lx w3 U (ls ++ [(l : Int)]) (W.setCell ⟨U, l, none⟩ (.bool true)) := by
  refine ⟨h.b.setCell (Nat.le_refl U) _, ?_⟩
  have e1 : (W.setCell ⟨U, l, none⟩ (.bool true)).heap[U]? = some (.cells (((bitsOf ls).map Value.bool).toArray.setIfInBounds l (.bool true)) 69 (0, 0)) := by simp [World.setCell, Array.getElem?_modify, h.u]
  rw [e1]
  have e := bits_set (ls := ls) (l := (l : Int)) (Int.natCast_nonneg _) (by omega)
  rw [Int.toNat_natCast] at e
  rw [← e, List.map_set, List.setIfInBounds_toArray]
theorem Lx.cell {w3 W : World} {U : Nat} {ls : List Int} (h : Lx w3 U ls W) {l : Nat} (h1 : l ≤ 15) : ∃ b, W.cell? ⟨U, l, none⟩ = some (.bool b) := by
  rw [cell_of_row W U l _ _ (0, 0) h.u, List.getElem?_toArray, List.getElem?_map]
  have hl : l < (bitsOf ls).length := by unfold bitsOf boolsT; simp; omega
  exact ⟨_, by rw [List.getElem?_eq_getElem hl]; rfl⟩
theorem Lx.rng {w3 W : World} {U : Nat} {ls : List Int} (h : Lx w3 U ls W) : W.rangeAt U 0 ((bitsOf ls).map Value.bool) := range_block (X := []) (Z := []) h.u (by simp)
theorem bits_len (ls : List Int) : (bitsOf ls).length = 16 := by unfold bitsOf boolsT; simp
theorem and15' {y : Nat} (hy : y < 16) : Go.bits .and .i64 (y : Int) 15 = (y : Int) := (by decide : ∀ z : Fin 16, Go.bits .and .i64 ((z.val : Nat) : Int) 15 = ((z.val : Nat) : Int)) ⟨y, hy⟩
end Go.Proofs.YtnhnelgkcldkbaaGreatDoor.enc
