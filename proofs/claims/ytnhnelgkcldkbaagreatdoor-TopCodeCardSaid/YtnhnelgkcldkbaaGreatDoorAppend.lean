/- append of a slice that can be read onto a row of the call's own. (No program in sight.) -/
import Derived.Test.YtnhnelgkcldkbaaGreatDoorKit2
namespace Go.Proofs.YtnhnelgkcldkbaaGreatDoor
open Go.RowKit

theorem run_appendRow {P : Program} {w0 w : World} (t ty : TypeId) (B : Nat) (e : TypeId) (z : Value) (bytes : Nat) (ht : P.underlying t = some (.slice e)) (hrow : (P.info? e).map (fun i => (i.zero, i.size, i.bytes)) = some (some z, 1, bytes)) (hzs : z.cells.size = 1)
    (v : Value) (n : Nat) (ys : List Value) (hown : w.ownsRow B e 1 v n ys) (A : Option Addr) (c B' : Nat) (k : IntKind) (xs : List Int) (hr : Row w B' k A xs)
    (hn : n + xs.length < 2147483648) (hby : bytes ≤ 1024) (hbel : Below B w0 w) (hB : B ≤ w.heap.size) :
    ∃ v' w', (Builtin.append_ #[t, t] ty #[v, .slice A xs.length c]).run P w = .ok v' w' ∧ w'.ownsRow B e 1 v' (n + xs.length) (ys ++ xs.map (Value.int k)) ∧ Below B w0 w' ∧ w.grownBy w' v.ownBlock := by
  obtain ⟨i0, hi, hz0, hz1, hz2⟩ := info_parts hrow
  have hmul : (n + xs.length) * bytes ≤ 2147483648 * 1024 := Nat.mul_le_mul (by omega) hby
  have fin : ∀ (ad : Addr), (∀ j u, (xs.map (Value.int k))[j]? = some u → w.cell? (ad.add j) = some u) →
      ∃ v' w', (Builtin.append_ #[t, t] ty #[v, .slice (some ad) xs.length c]).run P w = .ok v' w' ∧ w'.ownsRow B e 1 v' (n + xs.length) (ys ++ xs.map (Value.int k)) ∧ Below B w0 w' ∧ w.grownBy w' v.ownBlock := fun ad hc => by
    obtain ⟨v', w', hrun, h2, h3, _⟩ := run_append_own (P := P) w B t ty e i0 z 1 bytes ht hi hz0 hz1 hz2 hzs (by decide) v n ys hown ad xs.length c (xs.map (Value.int k)) (by simp) hc (by simp [Value.oneCell']) (by simp only [maxLen]; omega) (by omega) hB
    exact ⟨v', w', hrun, h2, hbel.grown h3 hB (fun k hk => (hown.lt k hk).1), h3⟩
  rcases Nat.eq_zero_or_pos xs.length with h0 | h0
  · have hx : xs = [] := List.eq_nil_of_length_eq_zero h0
    subst hx
    cases A with
    | some ad => exact fin ad (fun j u hu => by simp at hu)
    | none =>
      refine ⟨v, w, ?_, by simpa using hown, hbel, World.grownBy.refl w _⟩
      rcases hown.2 with ⟨rfl, rfl⟩ | ⟨g, cap, cur, rfl, _, _, hnc, _⟩
      · simp [Builtin.append_, run_underlying ht, sizeOf, typeInfo, hi, Builtin.lenOf, Builtin.firstCells]
      · simp [Builtin.append_, run_underlying ht, sizeOf, typeInfo, hi, Builtin.lenOf, Builtin.firstCells, hnc, storeCells]
  · obtain ⟨b, off, rfl, _, hc⟩ := hr h0
    refine fin _ (fun j u hu => ?_)
    have hadd : (⟨b, off, none⟩ : Addr).add j = ⟨b, off + j, none⟩ := by unfold Addr.add; split <;> simp_all
    have hj : j < xs.length := by
      rcases Nat.lt_or_ge j xs.length with h | h
      · exact h
      · rw [List.getElem?_eq_none (by simpa using h)] at hu
        cases hu
    rw [hadd, hc j hj]
    rw [List.getElem?_map, List.getElem?_eq_getElem hj] at hu
    simp only [Option.map_some] at hu
    rw [← hu]
    simp [List.getD, List.getElem?_eq_getElem hj]

theorem wpList_appendRow {P : Program} {ops : Array Oper} {rest : List Oper} {o : Oper} {a : Act} {Q : Exit → Act → World → Prop} {w0 w : World} (hgd : o.guard = none) (s x : Operand) (t : TypeId)
    (ho : o.op = .call { callee := .builtin .append, args := #[s, x], argTypes := #[t, t] })
    (B : Nat) (e : TypeId) (z : Value) (bytes : Nat) (ht : P.underlying t = some (.slice e)) (hrow : (P.info? e).map (fun i => (i.zero, i.size, i.bytes)) = some (some z, 1, bytes)) (hzs : z.cells.size = 1)
    (v : Value) (n : Nat) (ys : List Value) (hs : a.eval s = v) (hown : w.ownsRow B e 1 v n ys) (A : Option Addr) (c B' : Nat) (k : IntKind) (xs : List Int) (hx : a.eval x = .slice A xs.length c) (hr : Row w B' k A xs)
    (hn : n + xs.length < 2147483648) (hby : bytes ≤ 1024) (hbel : Below B w0 w) (hB : B ≤ w.heap.size)
    (h : ∀ v' w', w'.ownsRow B e 1 v' (n + xs.length) (ys ++ xs.map (Value.int k)) → Below B w0 w' → w.grownBy w' v.ownBlock → wpList P ops Q rest (a.put o.dst v') w') : wpList P ops Q (o :: rest) a w :=
  wpList_plain hgd fun K hK => by
    obtain ⟨v', w', hrun, h2, h3, h4⟩ := run_appendRow (P := P) t o.type B e z bytes ht hrow hzs v n ys hown A c B' k xs hr hn hby hbel hB
    unfold Oper.wp execOp
    simp only [ho, resolve, invoke, builtin, Sem.run_bind, Sem.run_pure, Result.andThen_ok, List.map_toArray, List.map_cons, List.map_nil, hs, hx, hrun]
    exact hK _ _ (h v' w' h2 h3 h4)

end Go.Proofs.YtnhnelgkcldkbaaGreatDoor
