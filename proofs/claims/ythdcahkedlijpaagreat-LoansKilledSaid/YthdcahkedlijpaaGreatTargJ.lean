/- Where a jump leads and what it sets: Targets and Sets, and the reference's. -/
import Derived.Test.YthdcahkedlijpaaGreatJump4C
namespace Go.Proofs.YthdcahkedlijpaaGreat.Am
open Go.RowKit
set_option maxRecDepth 100000
set_option maxHeartbeats 1000000
set_option linter.unusedVariables false
set_option linter.unusedSectionVars false
inductive NewLit (w w1 : World) : Value → List Value → Prop where
  | none : NewLit w w1 (.slice none 0 0) []
  | row {g : Nat} {C : Array Value} {T : TypeId} {fz : Nat × Nat} {us : List Value} (hp : us ≠ []) (hg : w.heap.size ≤ g) (hnew : w1.heap[g]? = some (.cells C T fz)) (hfz : ∀ i, i ≤ C.size → (fz.1 ≤ i && i < fz.2) = false)
      (hus : C.toList.take us.length = us) : NewLit w w1 (.slice (some ⟨g, 0, .none⟩) us.length us.length) us
noncomputable def rowLit (r : R) : Option (List S) := match r with
  | some (.t [.s .nils, .s (.int .i64 0)], _) => some []
  | some (.t [.s (.sl l 0 n 1 (some q)), .s (.int .i64 0)], h) => ob (h.get l) fun b => bif b.own && Nat.blt 0 n && Nat.ble n b.cells.length && Nat.beq q n then some (b.cells.take n) else none
  | _ => none
noncomputable def litV (res : List S) (h : Heap) : V × Heap := match res with
  | [] => (.t [.s .nils, .s (.int .i64 0)], h)
  | res => (.t [.s (.sl h.next 0 res.length 1 (some res.length)), .s (.int .i64 0)], h.alloc res)
theorem Post.lit [Base] {h : Heap} {r : Ren} {B fl : Nat} {w w1 : World} (hi : Inv h r B w) (hb : Below w.heap.size w w1) {res : List S} {vals : List Value} {u : Value} (hn : NewLit w w1 u vals) (hv : All2 (VS r) res vals) :
    Post B fl h r w (litV res h).1 (litV res h).2 (.tuple #[u, .int .i64 0]) w1 := by
  cases hn with
  | none =>
    match res, hv with
    | [], _ => exact Post.below hi hb ⟨[_, _], rfl, rfl, rfl, trivial⟩
  | @row g C T fz us hp hg hnew hfz hus =>
    match res, hv with
    | [], hv =>
      have := hv.len
      exact absurd (List.eq_nil_of_length_eq_zero this.symm) hp
    | x :: res, hv =>
      have hl : (x :: res).length = vals.length := hv.len
      obtain ⟨h1, h2⟩ := hi.newAt (w1 := w1) (cs := x :: res) hg hb.os hb.tape hb.output hb.block hnew hfz (fun i y hy => by
        obtain ⟨u, hu, hv⟩ := All2.nth hv hy
        refine ⟨u, ?_, hv⟩
        rw [← hus, List.getElem?_take] at hu
        split at hu
        · rw [← Array.getElem?_toList]; exact hu
        · cases hu) fl
      refine ⟨_, h1, ⟨[_, _], rfl, ?_, rfl, trivial⟩, h2⟩
      show VS _ (.sl h.next 0 (x :: res).length 1 (some (x :: res).length)) _
      rw [hl]
      exact ⟨.inr rfl, by decide, Nat.le_refl _, by rw [Ren.new_at]⟩
def targetsJ (pre : List Value) : List Int := if cellI pre 0 = 3 ∨ cellI pre 0 = 5 then [] else if cellI pre 0 = 2 ∧ cellI pre 7 ≠ cellI pre 8 then [cellI pre 7, cellI pre 8] else [cellI pre 7]
def setJ (pre post : List Value) : Int := if cellI pre 0 = 4 ∧ ¬ partJ post then cellI post 0 else -1
noncomputable def LJs : Lf := (Lf.startB [(true, kJ)] [] []).lo 9 0
noncomputable def LK (c : Nat) : Lf := match c with
  | 1 => onlyB LJs 0 1
  | 2 => (onlyB LJs 0 2).unify 7 8
  | 3 => (onlyB LJs 0 2).differ 7 8
  | 4 => onlyB LJs 0 3
  | 5 => onlyB LJs 0 5
  | 6 => zeroB (onlyB LJs 0 4) 11 2
  | 7 => onlyB (onlyB LJs 0 4) 11 1
  | _ => (onlyB (onlyB LJs 0 4) 11 0).lo 12 1
def expT (c : Nat) : List S := match c with
  | 3 => [.xi .i64 7, .xi .i64 8]
  | 4 => []
  | 5 => []
  | _ => [.xi .i64 7]
def expS (c : Nat) : S := match c with | 6 => .xi .i64 10 | _ => .int .i64 (-1)
noncomputable def rowsK (L : Lf) : List Oracle := [rowG 87 [.g (cellsJ.map L.nS)] (m8 true), rowG 78 [.g (cellsJ.map L.nS)] (mB true)]
noncomputable def runK (F : FuncId) (c : Nat) : R := @runsL ((LK c).know []) (tyOf Tryz.prog) (fnOf Tryz.prog) (orcs (rowsK (LK c))) tbJ (fun _ _ _ _ => none) 30 10 F (([.g cellsJ] : List A).map (LK c).nA) ⟨[], 0⟩ 0
noncomputable def goodT (F : FuncId) (c : Nat) : Bool := Option.rec false (fun cs => sameL S.eqv (expT c) cs) (rowLit (runK F c))
noncomputable def goodS (F : FuncId) (c : Nat) : Bool := sayV (.t [.s (expS c), .s (.int .i64 0)]) (runK F c)
def clsK : List Nat := [1, 2, 3, 4, 5, 6, 7, 8]
theorem setA_runs : clsK.all (goodS 61) = true := by kernel_rfl
def SetJ (F : FuncId) : Prop :=
  ∀ (w : World) (v : Value) (pre : List Value) (sv : Value) (post : List Value) (els : List (List Value)), JumpIs w v pre sv post els → okJ pre els post = true →
    Calls Tryz.prog F #[v] w fun x w' => x = .returned (.tuple #[.int .i64 (setJ pre post), .int .i64 0]) ∧ Below w.heap.size w w'
section
variable {w : World} {v : Value} {pre : List Value} {sv : Value} {post : List Value} {els : List (List Value)} (hj : JumpIs w v pre sv post els)
include hj
theorem some_K (h : okJ pre els post = true) : ∃ c : Nat, c ∈ clsK ∧ (LK c).Holds (baseJ hj []).rho (baseJ hj []).sig ∧ (∀ r, All2 (@VS (baseJ hj []) r) (expT c) (intsJ (targetsJ pre))) ∧ ∀ r, @VS (baseJ hj []) r (expS c) (.int .i64 (setJ pre post)) := by
  have h0 : LJs.Holds (baseJ hj []).rho (baseJ hj []).sig := startJ_ok hj (ivI := []) (i0 := []) (i1 := []) trivial
  have rp : ∀ {i : Nat}, i < 9 → (baseJ hj []).rho i = cellI pre i := fun {i} hi => (rhoJ_lt hj _ (by omega)).trans (fl_pre hj hi)
  have ro : ∀ {i : Nat}, i < 3 → (baseJ hj []).rho (10 + i) = cellI post i := fun {i} hi => (rhoJ_lt hj _ (by omega)).trans (fl_post hj i)
  have t7 : ∀ r, @VS (baseJ hj []) r (.xi .i64 7) (.int .i64 (cellI pre 7)) := fun r => congrArg (Value.int .i64) (rp (by decide)).symm
  have t8 : ∀ r, @VS (baseJ hj []) r (.xi .i64 8) (.int .i64 (cellI pre 8)) := fun r => congrArg (Value.int .i64) (rp (by decide)).symm
  have t10 : ∀ r, @VS (baseJ hj []) r (.xi .i64 10) (.int .i64 (cellI post 0)) := fun r => congrArg (Value.int .i64) (ro (i := 0) (by decide)).symm
  rcases isJ hj h with ⟨k, _, _, _, _, _⟩ | ⟨k, _, _, _, _, _, _⟩ | ⟨k, _, _, _⟩ | ⟨k, _, _, _, _, _, d, _⟩
  · have e1 : targetsJ pre = [cellI pre 7] := by unfold targetsJ; rw [if_neg (by omega), if_neg (by omega)]
    have e2 : setJ pre post = -1 := by unfold setJ; rw [if_neg (by omega)]
    exact ⟨1, by decide, Lf.Holds.onlyB hj h0 ((rp (by decide)).trans k), fun r => by rw [e1]; exact ⟨t7 r, trivial⟩, fun r => by rw [e2]; rfl⟩
  · have e2 : setJ pre post = -1 := by unfold setJ; rw [if_neg (by omega)]
    have hk := Lf.Holds.onlyB hj h0 (i := 0) (c := 2) ((rp (by decide)).trans k)
    by_cases he : cellI pre 7 = cellI pre 8
    · have e1 : targetsJ pre = [cellI pre 7] := by unfold targetsJ; rw [if_neg (by omega), if_neg (by omega)]
      exact ⟨2, by decide, hk.unify (i := 7) (j := 8) (by rw [rp (by decide), rp (by decide)]; exact he), fun r => by rw [e1]; exact ⟨t7 r, trivial⟩, fun r => by rw [e2]; rfl⟩
    · have e1 : targetsJ pre = [cellI pre 7, cellI pre 8] := by unfold targetsJ; rw [if_neg (by omega), if_pos ⟨k, he⟩]
      refine ⟨3, by decide, ⟨hk.iv, fun i j hij => ?_, hk.lt, hk.to, hk.st, hk.sn, hk.cf⟩, fun r => by rw [e1]; exact ⟨t7 r, t8 r, trivial⟩, fun r => by rw [e2]; rfl⟩
      have : (i, j) ∈ [((7 : Nat), (8 : Nat))] := hij
      simp only [List.mem_singleton, Prod.mk.injEq] at this
      obtain ⟨rfl, rfl⟩ := this
      rw [rp (by decide), rp (by decide)]
      exact he
  · have e1 : targetsJ pre = [] := by unfold targetsJ; rw [if_pos k]
    have e2 : setJ pre post = -1 := by unfold setJ; rw [if_neg (by omega)]
    rcases k with k | k
    · exact ⟨4, by decide, Lf.Holds.onlyB hj h0 ((rp (by decide)).trans k), fun r => by rw [e1]; trivial, fun r => by rw [e2]; rfl⟩
    · exact ⟨5, by decide, Lf.Holds.onlyB hj h0 ((rp (by decide)).trans k), fun r => by rw [e1]; trivial, fun r => by rw [e2]; rfl⟩
  · have e1 : targetsJ pre = [cellI pre 7] := by unfold targetsJ; rw [if_neg (by omega), if_neg (by omega)]
    have hk := Lf.Holds.onlyB hj h0 (i := 0) (c := 4) ((rp (by decide)).trans k)
    have hb := post_b hj
    have hf := post_f hj
    rcases hb with hb | hb
    · by_cases h2 : cellI post 2 = 0
      · have e2 : setJ pre post = cellI post 0 := by unfold setJ; rw [if_pos ⟨k, by unfold partJ; omega⟩]
        refine ⟨6, by decide, Lf.Holds.zeroB hj hk fun i hi => ?_, fun r => by rw [e1]; exact ⟨t7 r, trivial⟩, fun r => by rw [e2]; exact t10 r⟩
        rw [show 11 + i = 10 + (1 + i) by omega, ro (by omega)]
        match i, hi with
        | 0, _ => exact hb
        | 1, _ => exact h2
      · have e2 : setJ pre post = -1 := by unfold setJ; rw [if_neg (fun q => q.2 (by unfold partJ; omega))]
        exact ⟨8, by decide, (Lf.Holds.onlyB hj hk (i := 11) (c := 0) ((ro (i := 1) (by decide)).trans hb)).lo (i := 12) (c := 1) (by rw [show (12 : Nat) = 10 + 2 by rfl, ro (by decide)]; omega), fun r => by rw [e1]; exact ⟨t7 r, trivial⟩, fun r => by rw [e2]; rfl⟩
    · have e2 : setJ pre post = -1 := by unfold setJ; rw [if_neg (fun q => q.2 (by unfold partJ; omega))]
      exact ⟨7, by decide, Lf.Holds.onlyB hj hk (i := 11) (c := 1) ((ro (i := 1) (by decide)).trans hb), fun r => by rw [e1]; exact ⟨t7 r, trivial⟩, fun r => by rw [e2]; rfl⟩
theorem sound_K (h : okJ pre els post = true) {L : Lf} (hL : L.Holds (baseJ hj []).rho (baseJ hj []).sig) : @Sound ((baseJ hj []).withK (L.know []) (Lf.ok hL (lensJ hj []))) Tryz.prog (@runsL (L.know []) (tyOf Tryz.prog) (fnOf Tryz.prog) (orcs (rowsK L)) tbJ (fun _ _ _ _ => none) 30 10) := by
  letI bL : Base := (baseJ hj []).withK (L.know []) (Lf.ok hL (lensJ hj []))
  have hca : All2 (@VA bL r0) (([.g cellsJ] : List A).map L.nA) [v] := @Lf.nAs_ok bL _ r0 hL _ _ (cellsJ_ok hj _)
  have frz : ∀ w' : World, (∀ k, k < bL.nb → w'.heap[k]? = bL.g k) → JumpIs w' v pre sv post els := fun w' hw => by
    refine ⟨hj.v, hj.pre, hj.post, ⟨hj.ops.sl, hj.ops.most, fun i el he => ?_, hj.ops.kd, hj.ops.cap⟩⟩
    obtain ⟨b', off, c', e1, e2⟩ := hj.ops.at_ i el he
    refine ⟨b', off, c', e1, fun f u hf => ?_⟩
    have hcell := e2 f u hf
    rw [← hcell]
    exact World.cell?_of_block (hw b' (World.block_lt_of_cell? w ⟨b', off + i * 5 + f, none⟩ hcell))
  refine @runsL_ok bL _ _ (@tyOf_ok bL Tryz.prog) _ fnOkN _ (@sound_orcs bL _ _ fun O hO => ?_) mixedN _ (TabsOk.withK (tabsJ_ok hj _) _) _ (fun f F cd _ _ => Loops.ok_all (fun c => @LoopOk.none bL _ c) cd) 30 10
  simp only [rowsK, List.mem_cons, List.not_mem_nil, or_false] at hO
  rcases hO with rfl | rfl
  · exact @sound_rowG bL _ _ ⟨_, Tryz.func87, by kernel_rfl, by kernel_rfl⟩ _ _ (cells_one _) _ hca (v8 true) (fun _ => rfl) fun w' hw => by
      have := jA_tests w' v pre sv post els (frz w' hw)
      rw [h] at this
      exact this
  · exact @sound_rowG bL _ _ ⟨_, Tryz.func78, by kernel_rfl, by kernel_rfl⟩ _ _ (cells_one _) _ hca (.bool true) (fun _ => rfl) fun w' hw => by
      have := jV_tests w' v pre sv post els (frz w' hw)
      rw [h] at this
      exact this
end
theorem set_of {F : FuncId} (hrun : clsK.all (goodS F) = true) : SetJ F := fun w v pre sv post els hj hok => by
  obtain ⟨c, hc, hL, _, hS⟩ := some_K hj hok
  have hall := List.all_eq_true.1 hrun c hc
  letI bL : Base := (baseJ hj []).withK ((LK c).know []) (Lf.ok hL (lensJ hj []))
  have hca : All2 (@VA bL r0) (([.g cellsJ] : List A).map (LK c).nA) [v] := @Lf.nAs_ok bL _ r0 hL _ _ (cellsJ_ok hj _)
  obtain ⟨h', hr⟩ := sayV_is hall
  refine (@calls_flat bL _ w (Nat.le_refl _) (fun _ _ => rfl) _ (sound_K hj hok hL) F _ _ hca _ _ hr).mono fun x w' ⟨u, r', e1, e2, e3⟩ => ⟨?_, e3⟩
  obtain ⟨us, rfl, hus⟩ := e2
  match us, hus with
  | [a, b], ⟨ha, hb, _⟩ =>
    have hb : b = .int .i64 0 := hb
    subst hb
    have ha : @VS bL r' (expS c) a := ha
    have : a = .int .i64 (setJ pre post) := by
      have h2 := hS r'
      have : c = 1 ∨ c = 2 ∨ c = 3 ∨ c = 4 ∨ c = 5 ∨ c = 6 ∨ c = 7 ∨ c = 8 := by simpa [clsK] using hc
      rcases this with rfl | rfl | rfl | rfl | rfl | rfl | rfl | rfl <;> exact Eq.trans ha (Eq.symm h2)
    rw [e1, this]
theorem jSetA : SetJ 61 := set_of setA_runs
end Go.Proofs.YthdcahkedlijpaaGreat.Am
