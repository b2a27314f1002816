/- TopCode for every place, rvalue and number: the cases joined. -/
import Derived.Test.YtnhnelgkcldkbaaGreatDoorTopCode
namespace Go.Proofs.YtnhnelgkcldkbaaGreatDoor.enc
open Go.RowKit Go.Proofs.YtnhnelgkcldkbaaGreatDoor Go.Proofs.YtnhnelgkcldkbaaGreatDoor.Am Go.Proofs.YtnhnelgkcldkbaaGreatDoor.loan Go.Proofs.YtnhnelgkcldkbaaGreatDoor.bld
set_option linter.unusedVariables false
theorem code_walk {w : World} {v0 v1 v2 : Value} (h0 : ∃ us : List Value, v0 = .agg us.toArray ∧ All2 Kd.ok kPl us) (h1 : ∃ us : List Value, v1 = .agg us.toArray ∧ All2 Kd.ok kRv us) (h2 : Kd.ok (.i .i64) v2) (kt : TabOk w) : Calls Tryz.prog 4 #[v0, v1, v2] w (bld.Ans w (.bool true)) := by
  obtain ⟨pc, rfl, hp⟩ := h0
  obtain ⟨rc, rfl, hr⟩ := h1
  obtain ⟨code, rfl, _⟩ := h2
  cases hc : okStE.val (stC pc rc) with
  | false => exact code_bad hp hr kt hc
  | true =>
    by_cases ho : code < 0 ∨ 7 < code
    · exact code_out hp hr kt hc ho
    · obtain ⟨s, hs, e⟩ := st_form (stC_kd hp hr) hc
      cases s with
      | asg q r =>
        have e : Value.int .u8 1 :: (pc ++ (rc ++ (zO ++ [Value.int .i64 0]))) = Value.int .u8 1 :: (q.c ++ (r.c ++ (zO ++ [Value.int .i64 0]))) := e
        injection e with _ e2
        obtain ⟨rfl, e3⟩ := List.append_inj e2 (by rw [← hp.len]; rfl)
        obtain ⟨rfl, _⟩ := List.append_inj e3 (by rw [rv_len r]; exact hr.len.symm)
        exact code_main hs.1 hs.2 hp hr kt hc (by omega) (by omega)
      | one m a =>
        have e : Value.int .u8 1 = Value.int .u8 (kdO m) := by injection e
        cases m <;> exact absurd e (by unfold kdO; simp)
      | fresh l =>
        have e : Value.int .u8 1 = Value.int .u8 3 := by injection e
        exact absurd e (by simp)
end Go.Proofs.YtnhnelgkcldkbaaGreatDoor.enc
