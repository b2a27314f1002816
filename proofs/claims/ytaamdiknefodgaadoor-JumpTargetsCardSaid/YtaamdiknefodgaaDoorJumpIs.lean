/- A jump among the arguments: its cells, and the list of its operands. -/
import Derived.Test.YtaamdiknefodgaaDoorTrod
import Derived.Test.YtaamdiknefodgaaDoorLoops06b
import Derived.WalkKit
namespace Go.Proofs.YtaamdiknefodgaaDoor.Am
open Go.RowKit Go.ChangeShapes Go.WideShapes Go.Deep
set_option maxRecDepth 100000

def kPre : List Kd := [.i .u8, .i .u8, .i .i64, .i .i64, .b, .i .u8, .i .i64, .i .i64, .i .i64]
def kPost : List Kd := [.i .i64, .b, .i .u8]
/-- a jump's cells: before the list, the list, behind it -/
structure JumpIs (w : World) (v : Value) (pre : List Value) (sv : Value) (post : List Value) (els : List (List Value)) : Prop where
  v : v = .agg (pre ++ sv :: post).toArray
  pre : All2 Kd.ok kPre pre
  post : All2 Kd.ok kPost post
  ops : Ops w sv els
theorem add_none {b o i : Nat} : (⟨b, o, none⟩ : Addr).add i = ⟨b, o + i, none⟩ := by unfold Addr.add; split <;> simp_all
theorem jump_open {H : Type} {enc : TypeId × Value → H} {w : World} {b0 : Nat} {spare : Nat → Bool} {held : Bool} {v : Value} {fuel : Nat} {x : DataW H × List MemPlace} (hv : Value.okWide Tryd.prog w .any b0 30 v)
    (h : DataW.trod enc Tryd.prog w 0 spare held fuel 30 v.cells.toList = some x) : ∃ pre sv post els, JumpIs w v pre sv post els := by
  have hu : ∃ fs, Tryd.prog.underlying 30 = some (.struct fs) := ⟨_, Tryd.underlying30⟩
  obtain ⟨fs, hu⟩ := hu
  simp only [Value.okWide, hu] at hv
  obtain ⟨cs, rfl, hsz, _⟩ := hv
  have hsz : cs.size = 13 := hsz.trans (by kernel_rfl)
  have hcells : (Value.agg cs).cells.toList = cs.toList := rfl
  rw [hcells] at h
  have hl : cs.toList.length = 13 := by simpa using hsz
  have hat := leaf_trod 5 0 _ _ _ _ h
  have hleaf : leafT Tryd.prog 5 0 30 = [(0, 5), (1, 5), (2, 2), (3, 3), (4, 4), (5, 5), (6, 3), (7, 3), (8, 3), (9, 27), (10, 3), (11, 4), (12, 5)] := by kernel_rfl
  rw [hleaf] at hat
  have hc : ∀ i t, (i, t) ∈ ([(0, 5), (1, 5), (2, 2), (3, 3), (4, 4), (5, 5), (6, 3), (7, 3), (8, 3), (9, 27), (10, 3), (11, 4), (12, 5)] : List (Nat × TypeId)) →
      ∃ v y m, cs.toList[i]? = some v ∧ DataW.trod enc Tryd.prog w 0 spare held m t [v] = some y := fun i t hm => by
    obtain ⟨_, v, y, m, k1, _, k2⟩ := hat (i, t) hm
    exact ⟨v, y, m, by simpa using k1, k2⟩
  have hk : ∀ i t kd, (i, t) ∈ ([(0, 5), (1, 5), (2, 2), (3, 3), (4, 4), (5, 5), (6, 3), (7, 3), (8, 3), (9, 27), (10, 3), (11, 4), (12, 5)] : List (Nat × TypeId)) →
      kdOf Tryd.prog t = some kd → ∃ v, cs.toList[i]? = some v ∧ kd.ok v := fun i t kd hm hkd => by
    obtain ⟨v, y, m, k1, k2⟩ := hc i t hm
    exact ⟨v, k1, kd_trod hkd k2⟩
  generalize hcl : cs.toList = l at *
  match l, hl with
  | [c0, c1, c2, c3, c4, c5, c6, c7, c8, c9, c10, c11, c12], _ =>
    have g : ∀ (i : Nat) t kd u, (i, t) ∈ ([(0, 5), (1, 5), (2, 2), (3, 3), (4, 4), (5, 5), (6, 3), (7, 3), (8, 3), (9, 27), (10, 3), (11, 4), (12, 5)] : List (Nat × TypeId)) →
        kdOf Tryd.prog t = some kd → [c0, c1, c2, c3, c4, c5, c6, c7, c8, c9, c10, c11, c12][i]? = some u → kd.ok u := fun i t kd u hm hkd hi => by
      obtain ⟨v, k1, k2⟩ := hk i t kd hm hkd
      rw [hi] at k1
      cases k1
      exact k2
    have ku8 : kdOf Tryd.prog 5 = some (.i .u8) := by kernel_rfl
    have ki64 : kdOf Tryd.prog 2 = some (.i .i64) := by kernel_rfl
    have kint : kdOf Tryd.prog 3 = some (.i .i64) := by kernel_rfl
    have kb : kdOf Tryd.prog 4 = some .b := by kernel_rfl
    obtain ⟨sv, y, m, k1, k2⟩ := hc 9 27 (by simp)
    have k1 : some c9 = some sv := k1
    cases k1
    have hels : ∃ els, Ops w c9 els := by
      rcases open_slice (e := 25) Tryd.underlying27 k2 with ⟨e, _⟩ | ⟨a, len, cap, mm, n, D, Pl, e, _, hlc, hcm, hmm, _, hel⟩
      · cases e
        exact ⟨[], ⟨⟨none, 0, rfl⟩, by simp, fun i el h => by simp at h, fun i el h => by simp at h⟩⟩
      · cases e
        have hle : len ≤ mm := by rw [hmm]; split <;> omega
        have hC : Tryd.prog.cellsOf 25 = 5 := by kernel_rfl
        rw [hC] at hel
        let els : List (List Value) := (List.range len).map fun i => (w.cells? 0 (a.add (i * 5)) 5).getD []
        have hlen : els.length = len := by simp [els]
        have hget : ∀ i el, els[i]? = some el → i < len ∧ w.cells? 0 (a.add (i * 5)) 5 = some el ∧ ∃ y, DataW.trod enc Tryd.prog w 0 spare held n 25 el = some y := fun i el hi => by
          have hil : i < len := by have := (List.getElem?_eq_some_iff.1 hi).1; omega
          obtain ⟨cs', q1, q2⟩ := hel i (by omega)
          have : els[i]? = some cs' := by simp [els, hil, q1]
          rw [hi] at this
          cases this
          exact ⟨hil, q1, _, q2⟩
        have hlf : leafT Tryd.prog 5 0 25 = [(0, 5), (1, 2), (2, 3), (3, 4), (4, 5)] := by kernel_rfl
        refine ⟨els, ⟨⟨some a, cap, by rw [hlen]⟩, by rw [hlen]; simp only [maxLen] at hcm; omega, fun i el hi => ?_, fun i el hi => ?_⟩⟩
        · obtain ⟨hil, q1, _⟩ := hget i el hi
          obtain ⟨_, hn, hat⟩ := World.cells?_some q1
          obtain ⟨b, off, spot⟩ := a
          have hsp : spot = none := by
            obtain ⟨cs0, q0, _⟩ := hel 0 (by omega)
            obtain ⟨_, hn0, hat0⟩ := World.cells?_some q0
            have h0 := hat0 0 (by omega)
            cases cs0 with
            | nil => simp at hn0
            | cons u cs0 =>
              have := World.cell?_spot h0
              simpa [Addr.add] using this
          subst hsp
          refine ⟨b, off, cap, by rw [hlen], fun f u hf => ?_⟩
          have hfl : f < 5 := by have := (List.getElem?_eq_some_iff.1 hf).1; omega
          have := hat f hfl
          rw [add_none, add_none] at this
          rw [this, hf]
        · obtain ⟨hil, q1, y, q2⟩ := hget i el hi
          obtain ⟨_, hn, _⟩ := World.cells?_some q1
          exact kds_trod (n := 5) q2 (kds := opK) (by rw [hlf]; simp only [mapO_cons, mapO_nil, ku8, ki64, kint, kb, ob_some', opK]) (by rw [hlf]; rfl) (by rw [hn]; rfl)
    obtain ⟨els, hels⟩ := hels
    refine ⟨[c0, c1, c2, c3, c4, c5, c6, c7, c8], c9, [c10, c11, c12], els, ⟨?_, ?_, ?_, hels⟩⟩
    · congr 1
      rw [← Array.toList_inj, hcl]
      rfl
    · exact ⟨g 0 _ _ _ (by simp) ku8 rfl, g 1 _ _ _ (by simp) ku8 rfl, g 2 _ _ _ (by simp) ki64 rfl, g 3 _ _ _ (by simp) kint rfl, g 4 _ _ _ (by simp) kb rfl, g 5 _ _ _ (by simp) ku8 rfl, g 6 _ _ _ (by simp) kint rfl, g 7 _ _ _ (by simp) kint rfl, g 8 _ _ _ (by simp) kint rfl, trivial⟩
    · exact ⟨g 10 _ _ _ (by simp) kint rfl, g 11 _ _ _ (by simp) kb rfl, g 12 _ _ _ (by simp) ku8 rfl, trivial⟩
end Go.Proofs.YtaamdiknefodgaaDoor.Am
