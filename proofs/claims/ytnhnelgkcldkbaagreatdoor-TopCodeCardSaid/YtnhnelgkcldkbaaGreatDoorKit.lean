/- Small words for memory that the other texts use (no program in sight). -/
import Derived.WalkKit
import Derived.WalkSpells
import Derived.WalkLawsBesides
import Derived.IntWalk
import Derived.Lib.Hide
import Derived.Laws.BytesArg
namespace Go.Proofs.YtnhnelgkcldkbaaGreatDoor
open Go.RowKit

theorem ret_int {k : IntKind} {a b : Int} (h : a = b) : Ending.returned (.int k a) = .returned (.int k b) := by rw [h]
/-- A slice of integers that can be read: of no element, or at an address below block B, cell by cell. -/
def Row (w : World) (B : Nat) (k : IntKind) (A : Option Addr) (xs : List Int) : Prop :=
  0 < xs.length → ∃ b off, A = some ⟨b, off, none⟩ ∧ b < B ∧ ∀ j, j < xs.length → w.cell? ⟨b, off + j, none⟩ = some (.int k (xs.getD j 0))
theorem Row.keep {w w' : World} {B : Nat} {k : IntKind} {A : Option Addr} {xs : List Int} (h : Row w B k A xs) (hk : ∀ p : Addr, p.block < B → w'.cell? p = w.cell? p) : Row w' B k A xs := fun hn => by
  obtain ⟨b, off, e, hb, hc⟩ := h hn
  exact ⟨b, off, e, hb, fun j hj => (hk ⟨b, off + j, none⟩ hb).trans (hc j hj)⟩
theorem Row.below {w w' : World} {B B' : Nat} {k : IntKind} {A : Option Addr} {xs : List Int} (h : Row w B k A xs) (hb : Below B' w w') (hB : B ≤ B') : Row w' B k A xs := h.keep fun p hp => hb.cell (by omega)
theorem Row.more {w : World} {B B' : Nat} {k : IntKind} {A : Option Addr} {xs : List Int} (h : Row w B k A xs) (hB : B ≤ B') : Row w B' k A xs := fun hn => by
  obtain ⟨b, off, e, hb, hc⟩ := h hn
  exact ⟨b, off, e, by omega, hc⟩
/-- what the call owns can be read -/
theorem Row.of_own {w : World} {base : Nat} {e : TypeId} {k : IntKind} {v : Value} {n : Nat} {xs : List Int} (h : w.ownsRow base e 1 v n (xs.map (Value.int k))) :
    ∃ A cap, v = .slice A xs.length cap ∧ xs.length ≤ cap ∧ cap ≤ maxLen ∧ Row w w.heap.size k A xs ∧ n = xs.length := by
  obtain ⟨h1, h2⟩ := h
  have hn : xs.length = n := by simpa using h1
  rcases h2 with ⟨rfl, h0⟩ | ⟨g, cap, cur, rfl, _, hg, hc, hm, hs, ht⟩
  · exact ⟨none, 0, by rw [hn, h0], by omega, by simp [maxLen], fun hp => by omega, hn.symm⟩
  · refine ⟨_, cap, by rw [hn], by omega, hm, fun _ => ⟨g, 0, rfl, (Array.getElem?_eq_some_iff.1 hg).1, fun j hj => ?_⟩, hn.symm⟩
    rw [Nat.zero_add, cell_of_row w g j cur e (0, 0) hg]
    have hj' : (xs.map (Value.int k))[j]? = some (.int k (xs.getD j 0)) := by
      simp [List.getD, List.getElem?_eq_getElem hj]
    rw [← ht, List.getElem?_take] at hj'
    split at hj'
    · simpa using hj'
    · cases hj'

/-- a new block that is written out can be read -/
theorem Row.new (w : World) (k : IntKind) (e : TypeId) (m : Nat × Nat) (xs : List Int) : Row (w.alloc (.cells (xs.map (Value.int k)).toArray e m)) (w.heap.size + 1) k (some ⟨w.heap.size, 0, none⟩) xs := fun _ =>
  ⟨w.heap.size, 0, rfl, by omega, fun j hj => by
    rw [Nat.zero_add, cell_of_row _ w.heap.size j _ e m (heap_alloc_new w _)]
    simp [List.getD, List.getElem?_eq_getElem hj]⟩

/-- append of one cell onto a row of the call's own. -/
theorem wpList_append1 {P : Program} {ops : Array Oper} {rest : List Oper} {o : Oper} {a : Act} {Q : Exit → Act → World → Prop} {w0 w : World} (hgd : o.guard = none) (s x : Operand) (t : TypeId)
    (ho : o.op = .call { callee := .builtin .append, args := #[s, x], argTypes := #[t, t] })
    (B : Nat) (e : TypeId) (z : Value) (bytes : Nat) (ht : P.underlying t = some (.slice e)) (hrow : (P.info? e).map (fun i => (i.zero, i.size, i.bytes)) = some (some z, 1, bytes)) (hzs : z.cells.size = 1)
    (v : Value) (n : Nat) (xs : List Value) (hs : a.eval s = v) (hown : w.ownsRow B e 1 v n xs)
    (u : Value) (hx : a.eval x = .slice (some ⟨w.heap.size, 0, none⟩) 1 1) (h1 : u.oneCell' = true)
    (hn : n < 2147483648) (hby : bytes ≤ 1024) (hbel : Below B w0 w) (hB : B ≤ w.heap.size)
    (h : ∀ v' w', w'.ownsRow B e 1 v' (n + 1) (xs ++ [u]) → Below B w0 w' → wpList P ops Q rest (a.put o.dst v') w') : wpList P ops Q (o :: rest) a (w.alloc (.cells #[u] e)) := by
  obtain ⟨i0, hi, hz0, hz1, hz2⟩ := info_parts hrow
  have hmul : (n + 1) * bytes ≤ 2147483648 * 1024 := Nat.mul_le_mul (by omega) hby
  refine wpList_append_own _ hgd s x t ho B e i0 z 1 bytes ht hi hz0 hz1 hz2 hzs (by decide) v n xs hs (hown.alloc _) ⟨w.heap.size, 0, none⟩ 1 1 [u] hx rfl (cell_one_new _ _ _) (by simpa using h1) (by simp only [maxLen]; omega) (by omega) (by simp; omega) ?_
  intro v' w' hown' hg _
  refine h v' w' hown' ((hbel.alloc hB _).grown hg (by simp; omega) (fun k hk => (hown.lt k hk).1))

/-- make, of one-cell elements: the new cells under a name. -/
theorem make_cells {P : Program} (t e : TypeId) (z : Value) (bytes : Nat) (ht : P.underlying t = some (.slice e)) (hrow : (P.info? e).map (fun i => (i.zero, i.size, i.bytes)) = some (some z, 1, bytes))
    (hz1 : z.cells = #[z]) (n c : Nat) (hn : n ≤ c) (hc : c < 2147483648) (hby : bytes ≤ 1024) :
    ∃ C : Array Value, C.size = c ∧ (∀ j, j < c → C[j]? = some z) ∧ ∀ (kl kc : IntKind) (W : World), (Instr.makeSlice t (.int kl (n : Int)) (.int kc (c : Int))).run P W = .ok (.slice (some ⟨W.heap.size, 0, none⟩) n c) (W.alloc (.cells C e)) := by
  obtain ⟨i0, hi, hz0, hs, hb⟩ := info_parts hrow
  refine ⟨madeCells z.cells (c * i0.size), by simp [size_madeCells, hs], fun j hj => ?_, fun kl kc W => ?_⟩
  · simp [madeCells, hz1, hs, hj, Nat.mod_one]
  · have hmul : c * bytes ≤ 2147483648 * 1024 := Nat.mul_le_mul (by omega) hby
    have hm : (i0.bytes : Int) * (c : Int) ≤ 281474976710656 := by
      have : ((i0.bytes * c : Nat) : Int) ≤ 281474976710656 := by rw [hb, Nat.mul_comm]; omega
      rwa [Int.natCast_mul] at this
    have hr := run_make (P := P) W t e i0 z ht hi hz0 kl kc n c (by omega) (by omega) hm (by omega)
    simpa using hr

end Go.Proofs.YtnhnelgkcldkbaaGreatDoor
