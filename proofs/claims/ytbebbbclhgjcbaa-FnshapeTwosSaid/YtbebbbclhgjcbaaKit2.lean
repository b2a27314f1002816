/- Small words for memory that the other texts use (no program in sight). Increasing: the numbers of the truth values that are true, in order. Small words on strings and bytes (no program in sight). -/
import Derived.WalkKit
import Derived.WalkSpells
import Derived.WalkLawsBesides
import Derived.IntWalk
import Derived.Lib.Hide
import Derived.Laws.BytesArg
import Derived.Test.YtbebbbclhgjcbaaProg
import Derived.Test.YtbebbbclhgjcbaaAmC
import Derived.Lib.ConvBytes
import Derived.OpenShut
namespace Go.Proofs.Ytbebbbclhgjcbaa
open Go.RowKit

/-- A slice of integers that can be read: of no element, or at an address below block B, cell by cell. -/
def Row (w : World) (B : Nat) (k : IntKind) (A : Option Addr) (xs : List Int) : Prop :=
  0 < xs.length → ∃ b off, A = some ⟨b, off, none⟩ ∧ b < B ∧ ∀ j, j < xs.length → w.cell? ⟨b, off + j, none⟩ = some (.int k (xs.getD j 0))
theorem Row.keep {w w' : World} {B : Nat} {k : IntKind} {A : Option Addr} {xs : List Int} (h : Row w B k A xs) (hk : ∀ p : Addr, p.block < B → w'.cell? p = w.cell? p) : Row w' B k A xs := fun hn => by
  obtain ⟨b, off, e, hb, hc⟩ := h hn
  exact ⟨b, off, e, hb, fun j hj => (hk ⟨b, off + j, none⟩ hb).trans (hc j hj)⟩
theorem Row.below {w w' : World} {B B' : Nat} {k : IntKind} {A : Option Addr} {xs : List Int} (h : Row w B k A xs) (hb : Below B' w w') (hB : B ≤ B') : Row w' B k A xs := h.keep fun p hp => hb.cell (by omega)
theorem Row.more {w : World} {B B' : Nat} {k : IntKind} {A : Option Addr} {xs : List Int} (h : Row w B k A xs) (hB : B ≤ B') : Row w B' k A xs := fun hn => by
  obtain ⟨b, off, e, hb, hc⟩ := h hn
  exact ⟨b, off, e, by omega, hc⟩
/-- what the call owns can be read -/
theorem Row.of_own {w : World} {base : Nat} {e : TypeId} {k : IntKind} {v : Value} {n : Nat} {xs : List Int} (h : w.ownsRow base e 1 v n (xs.map (Value.int k))) :
    ∃ A cap, v = .slice A xs.length cap ∧ xs.length ≤ cap ∧ cap ≤ maxLen ∧ Row w w.heap.size k A xs ∧ n = xs.length := by
  obtain ⟨h1, h2⟩ := h
  have hn : xs.length = n := by simpa using h1
  rcases h2 with ⟨rfl, h0⟩ | ⟨g, cap, cur, rfl, _, hg, hc, hm, hs, ht⟩
  · exact ⟨none, 0, by rw [hn, h0], by omega, by simp [maxLen], fun hp => by omega, hn.symm⟩
  · refine ⟨_, cap, by rw [hn], by omega, hm, fun _ => ⟨g, 0, rfl, (Array.getElem?_eq_some_iff.1 hg).1, fun j hj => ?_⟩, hn.symm⟩
    rw [Nat.zero_add, cell_of_row w g j cur e (0, 0) hg]
    have hj' : (xs.map (Value.int k))[j]? = some (.int k (xs.getD j 0)) := by
      simp [List.getD, List.getElem?_eq_getElem hj]
    rw [← ht, List.getElem?_take] at hj'
    split at hj'
    · simpa using hj'
    · cases hj'

/-- a new block that is written out can be read -/
theorem Row.new (w : World) (k : IntKind) (e : TypeId) (m : Nat × Nat) (xs : List Int) : Row (w.alloc (.cells (xs.map (Value.int k)).toArray e m)) (w.heap.size + 1) k (some ⟨w.heap.size, 0, none⟩) xs := fun _ =>
  ⟨w.heap.size, 0, rfl, by omega, fun j hj => by
    rw [Nat.zero_add, cell_of_row _ w.heap.size j _ e m (heap_alloc_new w _)]
    simp [List.getD, List.getElem?_eq_getElem hj]⟩

/-- append of one cell onto a row of the call's own. -/
theorem wpList_append1 {P : Program} {ops : Array Oper} {rest : List Oper} {o : Oper} {a : Act} {Q : Exit → Act → World → Prop} {w0 w : World} (hgd : o.guard = none) (s x : Operand) (t : TypeId)
    (ho : o.op = .call { callee := .builtin .append, args := #[s, x], argTypes := #[t, t] })
    (B : Nat) (e : TypeId) (z : Value) (bytes : Nat) (ht : P.underlying t = some (.slice e)) (hrow : (P.info? e).map (fun i => (i.zero, i.size, i.bytes)) = some (some z, 1, bytes)) (hzs : z.cells.size = 1)
    (v : Value) (n : Nat) (xs : List Value) (hs : a.eval s = v) (hown : w.ownsRow B e 1 v n xs)
    (u : Value) (hx : a.eval x = .slice (some ⟨w.heap.size, 0, none⟩) 1 1) (h1 : u.oneCell' = true)
    (hn : n < 2147483648) (hby : bytes ≤ 1024) (hbel : Below B w0 w) (hB : B ≤ w.heap.size)
    (h : ∀ v' w', w'.ownsRow B e 1 v' (n + 1) (xs ++ [u]) → Below B w0 w' → wpList P ops Q rest (a.put o.dst v') w') : wpList P ops Q (o :: rest) a (w.alloc (.cells #[u] e)) := by
  obtain ⟨i0, hi, hz0, hz1, hz2⟩ := info_parts hrow
  have hmul : (n + 1) * bytes ≤ 2147483648 * 1024 := Nat.mul_le_mul (by omega) hby
  refine wpList_append_own _ hgd s x t ho B e i0 z 1 bytes ht hi hz0 hz1 hz2 hzs (by decide) v n xs hs (hown.alloc _) ⟨w.heap.size, 0, none⟩ 1 1 [u] hx rfl (cell_one_new _ _ _) (by simpa using h1) (by simp only [maxLen]; omega) (by omega) (by simp; omega) ?_
  intro v' w' hown' hg _
  refine h v' w' hown' ((hbel.alloc hB _).grown hg (by simp; omega) (fun k hk => (hown.lt k hk).1))

end Go.Proofs.Ytbebbbclhgjcbaa
namespace Go.Proofs.Ytbebbbclhgjcbaa
open Go.RowKit Go.Proofs.Ytbebbbclhgjcbaa.Am

theorem introw : (Try.prog.info? 3).map (fun i => (i.zero, i.size, i.bytes)) = some (some (.int .i64 0), 1, 8) := by kernel_rfl

namespace Am
end Am
end Go.Proofs.Ytbebbbclhgjcbaa
namespace Go.Proofs.Ytbebbbclhgjcbaa
open Go.RowKit

theorem Row.newAt (w : World) (k : IntKind) (e : TypeId) (m : Nat × Nat) (xs : List Int) (g : Nat) (hg : w.heap.size = g) : Row (w.alloc (.cells (xs.map (Value.int k)).toArray e m)) (g + 1) k (some ⟨g, 0, none⟩) xs := by
  subst hg
  exact Row.new w k e m xs

theorem Row.take {w : World} {B : Nat} {k : IntKind} {A : Option Addr} {xs : List Int} (h : Row w B k A xs) (n : Nat) : Row w B k A (xs.take n) := fun hn => by
  rw [List.length_take] at hn
  obtain ⟨b, off, e, hb, hc⟩ := h (by omega)
  refine ⟨b, off, e, hb, fun j hj => ?_⟩
  rw [List.length_take] at hj
  rw [hc j (by omega)]
  simp [List.getD, show j < n by omega]
theorem Row.drew {w : World} {B : Nat} {k : IntKind} {A : Option Addr} {xs : List Int} (h : Row w B k A xs) : Row w.drew B k A xs := h

/-- What a law is told of an argument that is a slice of integers. -/
structure Arg (w : World) (k : IntKind) (A : Option Addr) (len cap : Nat) (zs : List Int) : Prop where
  row : Row w w.heap.size k A (zs.take len)
  len_eq : (zs.take len).length = len
  le : len ≤ cap
  most : cap ≤ maxLen
  wf : ∀ n ∈ zs, (Lit.int k n).wf = true
theorem Arg.nil (w : World) (k : IntKind) : Arg w k none 0 0 [] := ⟨fun h => by simp at h, rfl, Nat.le_refl _, by simp [maxLen], fun _ h => by simp at h⟩
theorem Arg.mk' {w : World} {k : IntKind} {x : Addr} {len cap : Nat} {zs : List Int} (hl : len ≤ cap) (hm : cap ≤ maxLen) (hz : zs.length = cap)
    (hc : ∀ i, i < zs.length → w.cell? (x.add i) = some (.int k (zs.getD i 0))) (hwf : ∀ n ∈ zs, (Lit.int k n).wf = true) : Arg w k (some x) len cap zs := by
  have hlen : (zs.take len).length = len := by rw [List.length_take]; omega
  refine ⟨fun hp => ?_, hlen, hl, hm, hwf⟩
  obtain ⟨b, off, spot⟩ := x
  have h0 := hc 0 (by omega)
  have hspot : spot = none := by simpa [Addr.add] using World.cell?_spot h0
  subst hspot
  have hadd : ∀ i, (⟨b, off, none⟩ : Addr).add i = ⟨b, off + i, none⟩ := fun i => by unfold Addr.add; split <;> simp_all
  refine ⟨b, off, rfl, ?_, fun j hj => ?_⟩
  · have := World.block_lt_of_cell? w _ h0
    simpa [Addr.add] using this
  · rw [hlen] at hj
    have := hc j (by omega)
    rw [hadd] at this
    rw [this]
    simp [List.getD, hj]
theorem Arg.u8 {w : World} {A : Option Addr} {len cap : Nat} {zs : List Int} (h : Arg w .u8 A len cap zs) : ∀ c ∈ zs.take len, 0 ≤ c ∧ c < 256 := fun c hc => by
  have := bounds_u8 (h.wf c (List.mem_of_mem_take hc))
  omega

end Go.Proofs.Ytbebbbclhgjcbaa
