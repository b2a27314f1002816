/- fnshape.Calls, as the machine runs it. -/
import Derived.Test.YtbebbbclhgjcbaaFn27
namespace Go.Proofs.Ytbebbbclhgjcbaa.callsF
open Go.RowKit Go.Proofs.Ytbebbbclhgjcbaa.Am
set_option maxRecDepth 100000
set_option linter.unusedVariables false
set_option linter.unusedSectionVars false
noncomputable def f : FuncId := 9
noncomputable def F : Func := Try.f9
noncomputable def codeB : Code := loopAt F 0
noncomputable def keep : List (Nat × S) := [(1, .ptr 0 0), (5, .ptr 1 0), (17, .rv 1), (18, .xi .i64 3)]
def bits8 : List S := (List.range 8).map fun j => .xe [(nm 0 j, 1)]
def hp : Hp := [(1, ⟨bits8, true⟩), (0, ⟨fnCells, true⟩)]
noncomputable def hd : St := ⟨frOf F.ntmps (keep ++ [(19, .xi .i64 4)]), ⟨hp, 2⟩⟩
noncomputable def sN : St := ⟨frOf F.ntmps keep, ⟨hp, 2⟩⟩
noncomputable def L1 : Lf := (((Lf.of (fnIv ++ [])).pin 6 1).lo 14 0).hi 14 7
noncomputable def L0 : Lf := (Lf.of (fnIv ++ [])).pin 6 0
theorem step : autoB (turnT (rigP libN (tabF.app tabB) noLoops) f fnFx [] (isU (.xi .i64 4) (.xi .i64 5) :: bitU16 0 0 14 (isE 8 4)) ⟨4, 0, 3⟩ codeB hd .normal hd) (onceR.e1 8 4 .leaf) L1 = true := by kernel_rfl
theorem stop : autoB (turnT (rigP libN tabF noLoops) f fnFx [] (sameB16 0 0) ⟨4, 0, 3⟩ codeB hd (.exit 0) sN) .leaf L0 = true := by kernel_rfl
noncomputable def row (K : Know) : Loops := rowL 7 ⟨4, 0, 3⟩ (@thU K (isU (.xi .i64 4) (.int .i64 0) :: falseU16 0)) hd (.exit 0) sN
theorem tag : tagsOk (F.body.getD .skip) 0 7 = true := by kernel_rfl
noncomputable def LT : Lf := Lf.of (fnIv ++ List.replicate 16 ivB)
/-- the case where these are called -/
noncomputable def LP (bs : List Bool) : Lf := (List.range 8).foldl (fun L j => L.pin (nm 0 j) (b2i (bs.getD j false))) LT
def lits (bs : List Bool) : List Int := ((List.range 8).filter fun j => bs.getD j false).map fun j : Nat => (j : Int)
/-- a list of these numbers, and no error -/
def cellsOk : List S → List Int → Bool
  | _, [] => true
  | .int .i64 m :: r, n :: t => decide (m = n) && cellsOk r t
  | _, _ => false
noncomputable def slOk (x : S) (h : Heap) (ns : List Int) : Bool := match x with
  | .nils => ns.isEmpty
  | .sl l 0 n 1 none => Nat.beq n ns.length && (Nat.blt 0 n && Option.rec false (fun b => b.own && cellsOk b.cells ns) (h.get l))
  | _ => false
noncomputable def ansOk (x : Option (V × Heap)) (ns : List Int) : Bool := match x with
  | some (.t [.s x, .s (.int .i64 e)], h) => decide (e = 0) && slOk x h ns
  | _ => false
theorem cellsOk_at : ∀ {cs : List S} {ns : List Int}, cellsOk cs ns = true → ∀ i n, ns[i]? = some n → nth cs i = some (.int .i64 n)
  | _, [], _, i, n, e => by simp at e
  | .int .i64 m :: r, n :: t, h, 0, k, e => by
    simp only [cellsOk, Bool.and_eq_true, decide_eq_true_eq] at h
    obtain rfl : n = k := by simpa using e
    rw [nth_eq, ← h.1]
    rfl
  | .int .i64 m :: r, n :: t, h, i + 1, k, e => by
    simp only [cellsOk, Bool.and_eq_true, decide_eq_true_eq] at h
    have := cellsOk_at h.2 i k (by simpa using e)
    rw [nth_eq] at this ⊢
    simpa using this
theorem cellsOk_len : ∀ {cs : List S} {ns : List Int}, cellsOk cs ns = true → ns.length ≤ cs.length
  | _, [], _ => Nat.zero_le _
  | .int .i64 m :: r, n :: t, h => by
    simp only [cellsOk, Bool.and_eq_true] at h
    have := cellsOk_len h.2
    simp only [List.length_cons]
    omega
theorem ans_row {r : Option (V × Heap)} {ns : List Int} (h : ansOk r ns = true) : ∃ cs : List S, Am.rowAt r = some cs ∧ cs.length = ns.length ∧ cellsOk cs ns = true := by
  unfold ansOk at h
  split at h
  · rename_i x e h'
    rw [Bool.and_eq_true, decide_eq_true_iff] at h
    obtain ⟨rfl, hk⟩ := h
    unfold slOk at hk
    split at hk
    · have : ns = [] := by cases ns with | nil => rfl | cons _ _ => cases hk
      subst this
      exact ⟨[], rfl, rfl, by cases h' <;> rfl⟩
    · rename_i l n
      rw [Bool.and_eq_true, Bool.and_eq_true] at hk
      obtain ⟨k1, k2, k3⟩ := hk
      have k1 := Nat.eq_of_beq_eq_true k1
      cases hb : h'.get l with
      | none => rw [hb] at k3; cases k3
      | some bk =>
        rw [hb] at k3
        have k3 : (bk.own && cellsOk bk.cells ns) = true := k3
        rw [Bool.and_eq_true] at k3
        obtain ⟨k3, k4⟩ := k3
        have hl := cellsOk_len k4
        refine ⟨bk.cells.take n, ?_, by rw [List.length_take]; omega, ?_⟩
        · show ob (h'.get l) (fun b => bif b.own && Nat.blt 0 n && Nat.ble n b.cells.length then some (b.cells.take n) else none) = _
          rw [hb]
          show (bif bk.own && Nat.blt 0 n && Nat.ble n bk.cells.length then some (bk.cells.take n) else none) = _
          rw [k3, k2, Nat.ble_eq_true_of_le (by omega)]
          rfl
        · subst k1
          have key : ∀ {cs : List S} {ns : List Int}, cellsOk cs ns = true → cellsOk (cs.take ns.length) ns = true := fun {cs ns} => by
            induction ns generalizing cs with
            | nil => intro _; cases cs <;> rfl
            | cons n t ih =>
              intro h
              match cs, h with
              | .int .i64 m :: r, h =>
                simp only [cellsOk, Bool.and_eq_true] at h
                show (decide (m = n) && cellsOk (r.take t.length) t) = true
                rw [h.1, ih h.2]
                rfl
          exact key k4
    · cases hk
  · cases h
theorem calls_newP {P : Program} {R : Rig} {f : FuncId} {b : Base} {w : World} (hnb : b.nb ≤ w.heap.size) (hg : ∀ k, k < b.nb → w.heap[k]? = b.g k) (hR : RigOk P R b) {L : Lf} {fx : Fx} {args : List A} {vs : List Value} {ns : List Int} (hL : L.Holds b.rho b.sig) (hf : FxOk fx b.rho) (ha : All2 (@VA b r0) args vs)
    (hrun : ansOk (@runsL (L.knowX fx) R.ty R.fn (R.lib (L.knowX fx)) R.tb (R.loops (L.knowX fx)) R.n R.d f args ⟨[], 0⟩ 0) ns = true) :
    Calls P f vs.toArray w fun e w' => ∃ s, e = .returned (.tuple #[s, .int .i64 0]) ∧ NewRow w w' s (ns.map (Value.int .i64)) ∧ Below w.heap.size w w' := by
  let bL : Base := b.withK (L.knowX fx) (Lf.okX hL hf)
  obtain ⟨cs, hr, hl, hc⟩ := ans_row hrun
  refine (@calls_row bL P w hnb hg _ (hR.sound _ _) f args vs ha cs hr).mono fun x w' ⟨u, us, r', e1, e2, e3, e4⟩ => ⟨u, e1, ?_, e4⟩
  have : us = ns.map (Value.int .i64) := by
    have h2 := e3.len
    refine List.ext_getElem? fun i => ?_
    rw [List.getElem?_map]
    cases hn : ns[i]? with
    | none =>
      have : ns.length ≤ i := by rw [List.getElem?_eq_none_iff] at hn; exact hn
      rw [List.getElem?_eq_none (by omega)]
      rfl
    | some n =>
      obtain ⟨v, hv, e⟩ := All2.nth e3 (cellsOk_at hc i n hn)
      have e : v = .int .i64 n := e
      rw [hv, e]
      rfl
  rw [← this]
  exact e2
noncomputable def R : Rig := rigP size.lib tabF fun K => rowsL [(f, row K)]
noncomputable def okP (bs : List Bool) : Bool := ansOk (@runsL ((LP bs).knowX fnFx) R.ty R.fn (R.lib ((LP bs).knowX fnFx)) R.tb (R.loops ((LP bs).knowX fnFx)) R.n R.d f [.g fnCells] ⟨[], 0⟩ 0) (lits bs)
def allB : Nat → List (List Bool)
  | 0 => [[]]
  | n + 1 => (allB n).flatMap fun l => [true :: l, false :: l]
theorem mem_allB : ∀ l : List Bool, l ∈ allB l.length
  | [] => by simp [allB]
  | b :: l => by
    have := mem_allB l
    show b :: l ∈ (allB l.length).flatMap _
    rw [List.mem_flatMap]
    exact ⟨l, this, by cases b <;> simp⟩
noncomputable def chunk (p : List Bool) : Bool := (allB 4).all fun l => okP (p ++ l)
theorem c0 : chunk [false, false, false, false] = true := by kernel_rfl
theorem c1 : chunk [true, false, false, false] = true := by kernel_rfl
theorem c2 : chunk [false, true, false, false] = true := by kernel_rfl
theorem c3 : chunk [true, true, false, false] = true := by kernel_rfl
theorem c4 : chunk [false, false, true, false] = true := by kernel_rfl
theorem c5 : chunk [true, false, true, false] = true := by kernel_rfl
theorem c6 : chunk [false, true, true, false] = true := by kernel_rfl
theorem c7 : chunk [true, true, true, false] = true := by kernel_rfl
theorem c8 : chunk [false, false, false, true] = true := by kernel_rfl
theorem c9 : chunk [true, false, false, true] = true := by kernel_rfl
theorem c10 : chunk [false, true, false, true] = true := by kernel_rfl
theorem c11 : chunk [true, true, false, true] = true := by kernel_rfl
theorem c12 : chunk [false, false, true, true] = true := by kernel_rfl
theorem c13 : chunk [true, false, true, true] = true := by kernel_rfl
theorem c14 : chunk [false, true, true, true] = true := by kernel_rfl
theorem c15 : chunk [true, true, true, true] = true := by kernel_rfl
theorem chunk_ok : ∀ a b c d : Bool, chunk [a, b, c, d] = true := by
  intro a b c d
  cases a <;> cases b <;> cases c <;> cases d
  · exact c0
  · exact c8
  · exact c4
  · exact c12
  · exact c2
  · exact c10
  · exact c6
  · exact c14
  · exact c1
  · exact c9
  · exact c5
  · exact c13
  · exact c3
  · exact c11
  · exact c7
  · exact c15
theorem okP_ok (a b c d e g i j : Bool) : okP [a, b, c, d, e, g, i, j] = true := List.all_eq_true.1 (chunk_ok a b c d) [e, g, i, j] (mem_allB [e, g, i, j])
end Go.Proofs.Ytbebbbclhgjcbaa.callsF
