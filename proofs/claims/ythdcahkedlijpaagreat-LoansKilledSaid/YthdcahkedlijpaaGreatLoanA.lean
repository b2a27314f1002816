/- graph.all and graph.Points: the points of a function, as a new list. -/
import Derived.Test.YthdcahkedlijpaaGreatLoanK
import Derived.Test.YthdcahkedlijpaaGreatProg
import Derived.Deep.DeepCutAuto
namespace Go.Proofs.YthdcahkedlijpaaGreat.loan
open Go.RowKit Go.Proofs.YthdcahkedlijpaaGreat Go.Proofs.YthdcahkedlijpaaGreat.Am
set_option linter.unusedVariables false
abbrev tF : TypeId := 25
abbrev tP : TypeId := 83
theorem ptR : (Tryz.prog.info? 83).map (fun i => (i.zero, i.size, i.bytes)) = some (some (.agg #[.int .i64 0, .int .i64 0]), 2, 16) := by kernel_rfl
def NewL (t : TypeId) (sz : Nat) (els : List (List Value)) (W : World) (s : Value) (W' : World) : Prop := W'.ownsRow W.heap.size t sz s els.length els.flatten ∧ Below W.heap.size W W'
set_option maxRecDepth 100000 in
set_option maxHeartbeats 4000000 in
theorem all_c {w : World} {v : Value} {D : FnD} (h : FnOk' w v D) (hn : D.bs.length ≤ 24) (hs : ∀ b ∈ D.bs, b.st.length ≤ 24) :
    Calls Tryz.prog 46 #[v] w fun e w' => ∃ s, e = .returned s ∧ NewL tP 2 ((ptsTo D.bs D.bs.length).map ptV) w s w' := by
  have HF := Lib.hid h
  obtain ⟨A, c, e, hm, hr⟩ := FnOk'.blks h
  rw [h.eq, e]
  have HR := Lib.hid hr
  have HS := Lib.hid hs
  clear h hr hs e
  obtain ⟨w1, hw1⟩ : ∃ w1, w1 = w.alloc (.cells #[.int .i64 D.p, .bool D.u, D.lv, .slice A D.bs.length c] tF) := ⟨_, rfl⟩
  have B0 : Box w1 w.heap.size tF (.int .i64 D.p) (.bool D.u) D.lv (.slice A D.bs.length c) := by rw [hw1]; exact Box.mk rfl
  have b0 : Below w.heap.size w w1 := by rw [hw1]; exact (Below.refl _ _).alloc (Nat.le_refl _) _
  have s1 : w1.heap.size = w.heap.size + 1 := by rw [hw1]; simp
  obtain ⟨y0, y1, y2, y3⟩ := B0.cells
  have HB0 := Lib.hid B0
  go_enter Tryz.func46, Tryz.ntmps46
  go_wp2
  go_loopg [3, 9] D.bs.length (fun g s3 s9 wr => ∃ i : Nat, s9 = .int .i64 i ∧ i ≤ D.bs.length ∧ g = D.bs.length - i ∧ wr.ownsRow w1.heap.size tP 2 s3 (startOf D.bs i) ((ptsTo D.bs i).map ptV).flatten ∧ Below w1.heap.size w1 wr)
  case atStart => exact ⟨0, rfl, Nat.zero_le _, rfl, World.ownsRow_nil _ _ _ _, (by rw [← hw1]; exact Below.refl _ _)⟩
  case round =>
    obtain ⟨i, rfl, hi, rfl, hown, hbel⟩ := hrel
    obtain ⟨t0, t1, t2, t3⟩ := (HB0.out.below hbel).cells
    have hbw : Below w.heap.size w wr := b0.trans (hbel.mono b0.size)
    rcases Nat.lt_or_ge i D.bs.length with hlt | hge
    · have hltI : (i : Int) < (D.bs.length : Int) := by omega
      have h0I : (0 : Int) ≤ (i : Int) := Int.natCast_nonneg _
      obtain ⟨b, hb⟩ : ∃ b, D.bs[i]? = some b := ⟨_, List.getElem?_eq_getElem hlt⟩
      obtain ⟨As, cs, es, hms, _⟩ := BlkOk.stms (HF.out.blk b (List.mem_of_getElem? hb))
      obtain ⟨gb, ob, eA, hgb, hcb⟩ := (HR.out.below hbw) i b.cells (by rw [List.getElem?_map, hb]; rfl)
      subst eA
      have cg := hcb 0 b.s rfl
      rw [es] at cg
      simp only [Nat.add_zero] at cg
      have h24 := HS.out b (List.mem_of_getElem? hb)
      have hl := lenB_of hb
      have hst := start_le (lenB_le HS.out) i
      rw [← at_zero] at hown
      have HO := Lib.hid hown
      have HB := Lib.hid hbel
      have HL := Lib.hid hl
      clear hown hbel hcb hb es hl
      go_wp2
      go_loopg [3, 20] (b.st.length + 1) (fun g s3 s20 wx => ∃ k : Nat, s20 = .int .i64 k ∧ k ≤ b.st.length + 1 ∧ g = b.st.length + 1 - k ∧ wx.ownsRow w1.heap.size tP 2 s3 (startOf D.bs i + k) ((ptsAt D.bs i k).map ptV).flatten ∧ Below w1.heap.size w1 wx)
      case atStart => exact ⟨0, rfl, Nat.zero_le _, rfl, HO.out, HB.out⟩
      case round =>
        clear HO HB t0 t1 t2 t3 cg
        obtain ⟨k, rfl, hk, rfl, hown, hbel⟩ := hrel
        have hsz := hbel.size
        rcases Nat.lt_or_ge k (b.st.length + 1) with hkl | hkg
        · have hklI : (k : Int) < (b.st.length : Int) + 1 := by omega
          have h0K : (0 : Int) ≤ (k : Int) := Int.natCast_nonneg _
          go_wp2_with (at_builtin; refine wpList_appendN rfl _ _ 79 rfl w1.heap.size tP (.agg #[.int .i64 0, .int .i64 0]) 2 16 Tryz.underlying79 ptR rfl (by decide) _ _ _ rfl (hown.alloc _) [.int .i64 i, .int .i64 k] _ 1 rfl (at_alloc rfl) rfl (by simp [Value.oneCell']) (by omega) (by omega) (hbel.alloc hsz _) (by simp; omega) ?_; intro v1 w2 hown1 hbel1)
          go_roundg (b.st.length + 1 - (k + 1))
          case measure => omega
          case rel => exact ⟨k + 1, by simp, by omega, rfl, by rw [at_next, List.map_append, List.flatten_append]; simpa [ptV, Nat.add_assoc] using hown1, hbel1⟩
        · obtain rfl : k = b.st.length + 1 := by omega
          rw [← HL.out, at_roll, at_zero] at hown
          go_wp2
          go_roundg (D.bs.length - (i + 1))
          case measure => omega
          case rel => exact ⟨i + 1, by simp, by omega, rfl, hown, hbel⟩
    · obtain rfl : i = D.bs.length := by omega
      go_wp2
      go_ret
      exact ⟨_, rfl, owns_base (by rw [List.length_map, to_len]; exact hown) b0.size, hbw⟩
end Go.Proofs.YthdcahkedlijpaaGreat.loan
