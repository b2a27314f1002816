/- The reference's Occurs: how often each local occurs in a statement. -/
import Derived.Test.YtbebbbclhgjcbaaFn14
namespace Go.Proofs.Ytbebbbclhgjcbaa.Am
open Go.RowKit
set_option linter.unusedVariables false
/-- the first one, in a row of noughts -/
structure CntZ where
  dst : Nat
  l : Nat
  m : Nat
def zeros16 : List S := List.replicate 16 (.int .i64 0)
def trZX (Z : List CntZ) (T : List Cnt) : XTab := { fnFx.xt with ld := Z.map (fun t => (zeros16, t.l, t.m)) ++ T.map fun t => (cells16 t.src, t.l, t.m), sr := Z.map (fun t => (zeros16, t.l, t.m + 1, cells16 t.dst)) ++ T.map fun t => (cells16 t.src, t.l, t.m + 1, cells16 t.dst) }
def trZFx (Z : List CntZ) (T : List Cnt) : Fx := ⟨Z.map (fun t => (t.m, 1, t.m + 1)) ++ T.map fun t => (t.m, 1, t.m + 1), trZX Z T⟩
structure CntZOk (rho : Nat → Int) (t : CntZ) : Prop where
  d : ∀ j, j < 16 → rho (nm t.dst j) = bump (fun _ => 0) (rho t.l) j
  m0 : rho t.m = 0
  m1 : rho (t.m + 1) = 1
theorem zeros_at {j : Nat} {c : S} (h : zeros16[j]? = some c) : j < 16 ∧ c = .int .i64 0 := by
  have hj : j < 16 := by have := (List.getElem?_eq_some_iff.1 h).1; simpa [zeros16] using this
  unfold zeros16 at h
  rw [List.getElem?_replicate, if_pos hj] at h
  cases h
  exact ⟨hj, rfl⟩
theorem trZFx_ok {Z : List CntZ} {T : List Cnt} {rho : Nat → Int} (h0 : FxOk fnFx rho) (hz : ∀ t ∈ Z, CntZOk rho t) (h : ∀ t ∈ T, CntOk rho t) : FxOk (trZFx Z T) rho := by
  have hT := trFx_ok h0 h
  refine ⟨fun i c k hm => ?_, ⟨h0.xt.lf, h0.xt.sm, fun cs i m hm => ?_, fun cs i m ds hm => ?_, h0.xt.eq⟩⟩
  · rcases List.mem_append.1 (show (i, c, k) ∈ Z.map (fun t => (t.m, (1 : Int), t.m + 1)) ++ T.map fun t => (t.m, (1 : Int), t.m + 1) from hm) with hm | hm
    · obtain ⟨t, ht, e⟩ := List.mem_map.1 hm
      cases e
      have k := hz t ht
      rw [k.m0, k.m1]
      exact ⟨rfl, by decide, by decide⟩
    · exact hT.ad i c k hm
  · rcases List.mem_append.1 (show (cs, i, m) ∈ Z.map (fun t => (zeros16, t.l, t.m)) ++ T.map fun t => (cells16 t.src, t.l, t.m) from hm) with hm | hm
    · obtain ⟨t, ht, e⟩ := List.mem_map.1 hm
      cases e
      intro j c hc _
      obtain ⟨_, rfl⟩ := zeros_at hc
      show some (0 : Int) = some (rho t.m)
      rw [(hz t ht).m0]
    · exact hT.xt.ld cs i m hm
  · rcases List.mem_append.1 (show (cs, i, m, ds) ∈ Z.map (fun t => (zeros16, t.l, t.m + 1, cells16 t.dst)) ++ T.map fun t => (cells16 t.src, t.l, t.m + 1, cells16 t.dst) from hm) with hm | hm
    · obtain ⟨t, ht, e⟩ := List.mem_map.1 hm
      cases e
      have k := hz t ht
      refine ⟨by simp [cells16, zeros16], fun j c d hc hd => ?_⟩
      obtain ⟨hj, rfl⟩ := zeros_at hc
      obtain ⟨_, rfl⟩ := cells16_at hd
      refine ⟨0, rfl, ?_⟩
      show some (rho (nm t.dst j)) = _
      rw [k.d j hj, k.m1]
      unfold bump
      by_cases e : rho t.l = (j : Int)
      · rw [if_pos e, decide_eq_true e]; rfl
      · rw [if_neg e, decide_eq_false e]; rfl
    · exact hT.xt.sr cs i m ds hm
theorem cntZ_ok {D : FnD} {q : At} {fs : List (Nat → Int)} {tail : List Int} {t : CntZ} {n N : Nat} (hn : fs.length = N) (h2 : fs[t.dst]? = some (bump (fun _ => 0) (xsAt (fnXs D q (rows16 fs ++ tail)) t.l))) (hm : t.m = 77 + (16 * N + n)) (e0 : xsAt tail n = 0) (e1 : xsAt tail (n + 1) = 1) : CntZOk (xsAt (fnXs D q (rows16 fs ++ tail))) t :=
  ⟨fun j hj => fn_row h2 hj, by rw [hm, fn_tail hn, e0], by rw [hm, show 77 + (16 * N + n) + 1 = 77 + (16 * N + (n + 1)) by omega, fn_tail hn, e1]⟩
end Go.Proofs.Ytbebbbclhgjcbaa.Am
namespace Go.Proofs.Ytbebbbclhgjcbaa.occurs
open Go.RowKit Go.Proofs.Ytbebbbclhgjcbaa.Am
set_option maxRecDepth 100000
set_option linter.unusedVariables false
set_option linter.unusedSectionVars false
noncomputable def f : FuncId := 49
def Z : List CntZ := [⟨0, 49, 189⟩, ⟨1, 46, 191⟩, ⟨2, 25, 193⟩]
def T : List Cnt := [⟨2, 3, 41, 195⟩, ⟨2, 4, 33, 197⟩, ⟨4, 5, 38, 199⟩, ⟨2, 6, 38, 201⟩]
def o0 : Nat → Int := fun _ => 0
def rows (st : List Value) : List (Nat → Int) :=
  [bump o0 (cellI st 25), bump o0 (cellI st 22), bump o0 (cellI st 1), bump (bump o0 (cellI st 1)) (cellI st 17), bump (bump o0 (cellI st 1)) (cellI st 9), bump (bump (bump o0 (cellI st 1)) (cellI st 9)) (cellI st 14), bump (bump o0 (cellI st 1)) (cellI st 14)]
def more (st : List Value) : List Int := rows16 (rows st) ++ ([0, 1, 0, 1, 0, 1] ++ (twos.two1 (bump o0 (cellI st 1)) (cellI st 17) ++ (twos.two1 (bump o0 (cellI st 1)) (cellI st 9) ++ (twos.two1 (bump (bump o0 (cellI st 1)) (cellI st 9)) (cellI st 14) ++ twos.two1 (bump o0 (cellI st 1)) (cellI st 14)))))
def out (bs : List Bool) : V := .a (.g (bif Nat.beq (twos.stateOf bs) 0 then zeros16 else cells16 (twos.stateOf bs - 1)))
def op4 (k : Nat) (t : HT) : HT := .by k 1 t (.by k 2 t (.by k 3 t (.by k 4 t t)))
def sa0 : HT := .by 44 1 .leaf .leaf
def asT : HT := .on 28 1 .leaf (.on 28 2 (op4 31 sa0) (.on 28 3 (op4 31 (op4 36 sa0)) (.on 28 4 (op4 31 (op4 36 sa0)) (.on 28 6 (.by 28 5 sa0 sa0) .leaf))))
def stT : HT := .on 24 1 .leaf (.on 24 2 asT (.on 24 3 (op4 44 .leaf) (.on 24 4 sa0 (.on 24 5 (op4 44 .leaf) .leaf))))
noncomputable def L1 : Lf := twos.LI (Lf.of (fnIv ++ []))
noncomputable def run : Lf → Bool := callT (rigP libN Tabs.nought noLoops) f (trZFx Z T) [(okSN, true)] (twos.placeE.map twos.at24) out [.g stmCells]
theorem run_ok : autoB run stT L1 = true := by kernel_rfl
end Go.Proofs.Ytbebbbclhgjcbaa.occurs
