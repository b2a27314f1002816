/- Small words on strings and bytes (no program in sight). -/
import Derived.Test.YtnhnelgkcldkbaaGreatDoorKit
import Derived.Lib.ConvBytes
import Derived.OpenShut
namespace Go.Proofs.YtnhnelgkcldkbaaGreatDoor
open Go.RowKit

theorem Row.newAt (w : World) (k : IntKind) (e : TypeId) (m : Nat × Nat) (xs : List Int) (g : Nat) (hg : w.heap.size = g) : Row (w.alloc (.cells (xs.map (Value.int k)).toArray e m)) (g + 1) k (some ⟨g, 0, none⟩) xs := by
  subst hg
  exact Row.new w k e m xs

theorem Row.take {w : World} {B : Nat} {k : IntKind} {A : Option Addr} {xs : List Int} (h : Row w B k A xs) (n : Nat) : Row w B k A (xs.take n) := fun hn => by
  rw [List.length_take] at hn
  obtain ⟨b, off, e, hb, hc⟩ := h (by omega)
  refine ⟨b, off, e, hb, fun j hj => ?_⟩
  rw [List.length_take] at hj
  rw [hc j (by omega)]
  simp [List.getD, show j < n by omega]
theorem Row.drew {w : World} {B : Nat} {k : IntKind} {A : Option Addr} {xs : List Int} (h : Row w B k A xs) : Row w.drew B k A xs := h

/-- What a law is told of an argument that is a slice of integers. -/
structure Arg (w : World) (k : IntKind) (A : Option Addr) (len cap : Nat) (zs : List Int) : Prop where
  row : Row w w.heap.size k A (zs.take len)
  len_eq : (zs.take len).length = len
  le : len ≤ cap
  most : cap ≤ maxLen
  wf : ∀ n ∈ zs, (Lit.int k n).wf = true
theorem Arg.nil (w : World) (k : IntKind) : Arg w k none 0 0 [] := ⟨fun h => by simp at h, rfl, Nat.le_refl _, by simp [maxLen], fun _ h => by simp at h⟩
theorem Arg.mk' {w : World} {k : IntKind} {x : Addr} {len cap : Nat} {zs : List Int} (hl : len ≤ cap) (hm : cap ≤ maxLen) (hz : zs.length = cap)
    (hc : ∀ i, i < zs.length → w.cell? (x.add i) = some (.int k (zs.getD i 0))) (hwf : ∀ n ∈ zs, (Lit.int k n).wf = true) : Arg w k (some x) len cap zs := by
  have hlen : (zs.take len).length = len := by rw [List.length_take]; omega
  refine ⟨fun hp => ?_, hlen, hl, hm, hwf⟩
  obtain ⟨b, off, spot⟩ := x
  have h0 := hc 0 (by omega)
  have hspot : spot = none := by simpa [Addr.add] using World.cell?_spot h0
  subst hspot
  have hadd : ∀ i, (⟨b, off, none⟩ : Addr).add i = ⟨b, off + i, none⟩ := fun i => by unfold Addr.add; split <;> simp_all
  refine ⟨b, off, rfl, ?_, fun j hj => ?_⟩
  · have := World.block_lt_of_cell? w _ h0
    simpa [Addr.add] using this
  · rw [hlen] at hj
    have := hc j (by omega)
    rw [hadd] at this
    rw [this]
    simp [List.getD, hj]
theorem Arg.u8 {w : World} {A : Option Addr} {len cap : Nat} {zs : List Int} (h : Arg w .u8 A len cap zs) : ∀ c ∈ zs.take len, 0 ≤ c ∧ c < 256 := fun c hc => by
  have := bounds_u8 (h.wf c (List.mem_of_mem_take hc))
  omega

end Go.Proofs.YtnhnelgkcldkbaaGreatDoor
