/- Small words on strings and bytes (no program in sight). -/
import Derived.Test.YtmljjflimiakfaaDoorKit
import Derived.Lib.ConvBytes
import Derived.OpenShut
namespace Go.Proofs.YtmljjflimiakfaaDoor
open Go.RowKit

/-- a string's bytes as numbers -/
def nums (s : ByteArray) : List Int := s.data.toList.map fun b => (b.toNat : Int)
theorem nums_range (s : ByteArray) : ∀ c ∈ nums s, 0 ≤ c ∧ c < 256 := by
  intro c hc
  simp only [nums, List.mem_map] at hc
  obtain ⟨b, _, rfl⟩ := hc
  have := b.toNat_lt
  omega
theorem nums_len (s : ByteArray) : (nums s).length = s.size := by
  show (List.map _ s.data.toList).length = s.data.size
  simp

theorem Row.newAt (w : World) (k : IntKind) (e : TypeId) (m : Nat × Nat) (xs : List Int) (g : Nat) (hg : w.heap.size = g) : Row (w.alloc (.cells (xs.map (Value.int k)).toArray e m)) (g + 1) k (some ⟨g, 0, none⟩) xs := by
  subst hg
  exact Row.new w k e m xs

/-- []byte(s), s a string: a new row with its bytes -/
theorem conv_str {P : Program} {src dst e : TypeId} (hs : P.underlying src = some .string) (hd : P.underlying dst = some (.slice e)) (he : P.underlying e = some (.int .u8)) (s : ByteArray) (w : World) :
    ∃ (A : Option Addr) (cap : Nat) (w' : World), (convert src dst (.string s)).run P w = .ok (.slice A (nums s).length cap) w' ∧ Row w' (w.heap.size + 1) .u8 A (nums s) ∧ (nums s).length ≤ cap ∧ Below w.heap.size w w' ∧ w.heap.size + 1 ≤ w'.heap.size := by
  refine ⟨_, _, _, by rw [nums_len]; exact Lib.run_convert_string_bytes w src dst e s hs hd he, fun _ => ⟨w.heap.size, 0, rfl, by omega, fun j hj => ?_⟩, ?_, ?_, ?_⟩
  · rw [Nat.zero_add, Lib.bytesWorld_cell w e s j (by rw [nums_len] at hj; exact hj)]
    rw [nums_len] at hj
    have hj' : j < s.data.toList.length := by
      rw [Array.length_toList]
      exact hj
    simp [nums, List.getD, List.getElem?_eq_getElem hj']
  · rw [nums_len]; exact grownCap_ge w s.size 0 e
  · exact ⟨rfl, rfl, rfl, by rw [Lib.bytesWorld_size]; omega, fun k hk => Lib.bytesWorld_at_old w e s k hk⟩
  · rw [Lib.bytesWorld_size]; exact Nat.le_refl _

theorem nums_str (s : ByteArray) : strOfNums (nums s) = s := by
  have h : (nums s).map (fun n => UInt8.ofNat n.toNat) = s.data.toList := by
    simp only [nums, List.map_map]
    conv => rhs; rw [← List.map_id s.data.toList]
    apply List.map_congr_left
    intro b _
    simp
  unfold strOfNums
  rw [h]
theorem nums_inj {s t : ByteArray} (h : nums s = nums t) : s = t := by rw [← nums_str s, ← nums_str t, h]
theorem str_nums (xs : List Int) (h : ∀ c ∈ xs, 0 ≤ c ∧ c < 256) : nums (strOfNums xs) = xs := by
  simp only [nums, strOfNums, List.map_map]
  conv => rhs; rw [← List.map_id xs]
  apply List.map_congr_left
  intro b hb
  have := h b hb
  simp
  omega
theorem str_inj {xs ys : List Int} (hx : ∀ c ∈ xs, 0 ≤ c ∧ c < 256) (hy : ∀ c ∈ ys, 0 ≤ c ∧ c < 256) : strOfNums xs = strOfNums ys ↔ xs = ys :=
  ⟨fun h => by rw [← str_nums xs hx, ← str_nums ys hy, h], fun h => by rw [h]⟩

theorem Row.take {w : World} {B : Nat} {k : IntKind} {A : Option Addr} {xs : List Int} (h : Row w B k A xs) (n : Nat) : Row w B k A (xs.take n) := fun hn => by
  rw [List.length_take] at hn
  obtain ⟨b, off, e, hb, hc⟩ := h (by omega)
  refine ⟨b, off, e, hb, fun j hj => ?_⟩
  rw [List.length_take] at hj
  rw [hc j (by omega)]
  simp [List.getD, show j < n by omega]
theorem Row.drew {w : World} {B : Nat} {k : IntKind} {A : Option Addr} {xs : List Int} (h : Row w B k A xs) : Row w.drew B k A xs := h

/-- What a law is told of an argument that is a slice of integers. -/
structure Arg (w : World) (k : IntKind) (A : Option Addr) (len cap : Nat) (zs : List Int) : Prop where
  row : Row w w.heap.size k A (zs.take len)
  len_eq : (zs.take len).length = len
  le : len ≤ cap
  most : cap ≤ maxLen
  wf : ∀ n ∈ zs, (Lit.int k n).wf = true
theorem Arg.nil (w : World) (k : IntKind) : Arg w k none 0 0 [] := ⟨fun h => by simp at h, rfl, Nat.le_refl _, by simp [maxLen], fun _ h => by simp at h⟩
theorem Arg.mk' {w : World} {k : IntKind} {x : Addr} {len cap : Nat} {zs : List Int} (hl : len ≤ cap) (hm : cap ≤ maxLen) (hz : zs.length = cap)
    (hc : ∀ i, i < zs.length → w.cell? (x.add i) = some (.int k (zs.getD i 0))) (hwf : ∀ n ∈ zs, (Lit.int k n).wf = true) : Arg w k (some x) len cap zs := by
  have hlen : (zs.take len).length = len := by rw [List.length_take]; omega
  refine ⟨fun hp => ?_, hlen, hl, hm, hwf⟩
  obtain ⟨b, off, spot⟩ := x
  have h0 := hc 0 (by omega)
  have hspot : spot = none := by simpa [Addr.add] using World.cell?_spot h0
  subst hspot
  have hadd : ∀ i, (⟨b, off, none⟩ : Addr).add i = ⟨b, off + i, none⟩ := fun i => by unfold Addr.add; split <;> simp_all
  refine ⟨b, off, rfl, ?_, fun j hj => ?_⟩
  · have := World.block_lt_of_cell? w _ h0
    simpa [Addr.add] using this
  · rw [hlen] at hj
    have := hc j (by omega)
    rw [hadd] at this
    rw [this]
    simp [List.getD, hj]
theorem Arg.u8 {w : World} {A : Option Addr} {len cap : Nat} {zs : List Int} (h : Arg w .u8 A len cap zs) : ∀ c ∈ zs.take len, 0 ≤ c ∧ c < 256 := fun c hc => by
  have := bounds_u8 (h.wf c (List.mem_of_mem_take hc))
  omega

/-- two strings compared, in the walk's own form -/
theorem same_str (a b : ByteArray) : (a.toList == b.toList) = decide (a = b) := by
  rw [Bool.eq_iff_iff, beq_iff_eq, decide_eq_true_eq, ByteArray.toList_eq, ByteArray.toList_eq]
  exact ⟨WideShapes.bytes_inj, fun h => by rw [h]⟩

end Go.Proofs.YtmljjflimiakfaaDoor
