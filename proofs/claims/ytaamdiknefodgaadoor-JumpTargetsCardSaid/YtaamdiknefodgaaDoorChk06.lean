/- One operand: value.CheckOperand and the reference's answer with the same number, 0 or 8. -/
import Derived.Test.YtaamdiknefodgaaDoorAmGo
import Derived.Test.YtaamdiknefodgaaDoorLn
namespace Go.Proofs.YtaamdiknefodgaaDoor.Am
open Go.RowKit
set_option maxRecDepth 100000
def gsO : List Gp := [(true, [.i .u8, .i .i64, .i .i64, .b, .i .u8])]
def opK : List Kd := [.i .u8, .i .i64, .i .i64, .b, .i .u8]
def spO : Sp := (.cut 0 1 .leaf (.cut 0 2 (.conj [(2, 0), (3, 0), (4, 0)] .leaf .leaf) (.cut 0 3 (.cut 1 0 .leaf (.cut 1 1 (.cut 2 0 .leaf (.cut 2 16 (.cut 4 3 .leaf .leaf) .leaf)) .leaf)) (.cut 0 4 (.cut 1 0 .leaf (.cut 1 1 (.cut 2 0 .leaf (.cut 2 16 (.cut 4 3 .leaf .leaf) .leaf)) .leaf)) .leaf))))
noncomputable def chkRun (f : FuncId) (L : Lf) : R := @runs (L.know []) (tyOf Tryd.prog) (fnOf Tryd.prog) noneO 10 10 f ((argsT 0 gsO).map L.nA) ⟨[], 0⟩ 0
noncomputable def isI (r : R) : Option Int := match r with | some (.a (.s (.int .i64 n)), _) => some n | _ => none
noncomputable def pairOk (L : Lf) : Bool := match isI (chkRun 62 L), isI (chkRun 93 L) with
  | some a, some b => decide (a = b) && (decide (a = 0) || decide (a = 8))
  | _, _ => false
theorem chk_runs : ((spO.leaves (Lf.start gsO)).all pairOk) = true := by kernel_rfl
theorem isI_some {r : R} {n : Int} (h : isI r = some n) : ∃ h', r = some (.a (.s (.int .i64 n)), h') := by
  unfold isI at h
  split at h
  · cases h; exact ⟨_, rfl⟩
  · cases h
/-- a function of one operand answers with this number, whoever calls -/
def Says (F : FuncId) (us : List Value) (n : Int) : Prop := ∀ w : World, Calls Tryd.prog F #[.agg us.toArray] w fun e w' => e = .returned (.int .i64 n) ∧ Below w.heap.size w w'
theorem chk_all {us : List Value} (h : All2 Kd.ok opK us) : ∃ n : Int, (n = 0 ∨ n = 8) ∧ Says 62 us n ∧ Says 93 us n := by
  have hg : Gps gsO [.agg us.toArray] us := ⟨us, [], (List.append_nil _).symm, ⟨h, .inl ⟨rfl, rfl⟩⟩, rfl⟩
  have k := lens_ok hg
  obtain ⟨L, hm, hL⟩ := spO.cover (Lf.start_ok hg)
  have hp := List.all_eq_true.1 chk_runs L hm
  unfold pairOk at hp
  split at hp
  · rename_i a b ha hb
    simp only [Bool.and_eq_true, Bool.or_eq_true, decide_eq_true_eq] at hp
    obtain ⟨rfl, hn⟩ := hp
    have key : ∀ F, isI (chkRun F L) = some a → Says F us a := fun F hF w => by
      obtain ⟨h', hr⟩ := isI_some hF
      letI : Base := baseN w (Lf.ok (ss := []) hL ⟨fun i _ => by
        have := k.all i (by simp [kindsT, gsO, strsT])
        exact this, fun _ h => by cases h⟩)
      have ha' : All2 (VA r0) (argsT 0 gsO) [.agg us.toArray] := argsT_ok (pre := []) (cs' := us) rfl rfl [] (by simp) hg
      refine (calls_flat w (Nat.zero_le _) (fun _ h => by cases h) (sound_runsN _ (sound_noneO _) 10 10) (Lf.nAs_ok hL ha') hr).mono fun e w' ⟨u, r', e1, e2, e3⟩ => ⟨?_, e3⟩
      rw [e1]
      exact congrArg _ e2
    exact ⟨a, hn, key _ ha, key _ hb⟩
  · cases hp
end Go.Proofs.YtaamdiknefodgaaDoor.Am
