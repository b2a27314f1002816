/- What a law's listed variables give: the table of powers is what it is. -/
import Derived.Test.YtnhnelgkcldkbaaGreatDoorLb
import Derived.Test.YtnhnelgkcldkbaaGreatDoorRows
import Derived.WalkKit
import Derived.ProofKit
import Derived.LaidMore
import Derived.OpenShut
import Derived.ShutString
import Derived.ChangeOld
import Derived.Below
import Derived.Stop.Joined
import Derived.MakeChecks
namespace Go.Proofs.YtnhnelgkcldkbaaGreatDoor.Am
open Go.ChangeShapes Go.WideShapes Go.ChangeAt Go.RowKit

theorem own : ownKnob Tryz.prog.godebug = none := by kernel_rfl
theorem laidOut : laidOutB Tryz.prog = true := by kernel_rfl

/-- one listed variable's reading -/
def Reads (P : Program) (w : World) (n : String) (d : DataW Unit) : Prop :=
  ∃ g t cs fuel p, P.globalNamed n = some g ∧ (P.globals[g]?).map (·.type) = some t ∧ w.var? P n = some cs ∧ DataW.trod (fun _ => ()) P w 0 (fun _ => true) false fuel t cs.toList = some (d, p)
theorem reads_of {P : Program} {w : World} : ∀ {l : List (String × DataW Unit)} {ps : List MemPlace}, DataW.LaidVars P w l ps → ∀ n d, (n, d) ∈ l → Reads P w n d
  | [], _, _, _, _, hm => by cases hm
  | (_, _) :: r, ps, h, n, d, hm => by
    obtain ⟨g, t, cs, fuel, p, q, h1, h2, h3, h4, h5, _⟩ := h
    rcases List.mem_cons.1 hm with e | e
    · cases e
      exact ⟨g, t, cs, fuel, p, h1, h2, h3, h4⟩
    · exact reads_of h5 n d e
theorem met_reads {P : Program} {w : World} {l : List (String × DataW Unit)} (hh : (l.all fun x => x.2.handleName?.isNone) = true) (h : laidMetH P l w) {n : String} {d : DataW Unit} (hm : (n, d) ∈ l) : Reads P w n d := by
  rw [MakeChecks.laidMetH_plain _ _ _ hh] at h
  obtain ⟨_, hv, _⟩ := h
  exact reads_of hv n d hm
theorem var_size {P : Program} {w : World} {n : String} {g : Nat} {cs : Array Value} (hg : P.globalNamed n = some g) (h : w.var? P n = some cs) : g < w.heap.size := by
  simp only [World.var?, hg, Option.bind_some] at h
  split at h
  · rename_i he
    exact (Array.getElem?_eq_some_iff.1 he).1
  · cases h

theorem gPow : Tryz.prog.globalNamed "internal/strconv.uint64pow10" = some 2 := by kernel_rfl
theorem gLast : Tryz.prog.globalNamed "math/bits.deBruijn64tab" = some 5 := by kernel_rfl
theorem tabOk {w : World} {l : List (String × DataW Unit)} (hh : (l.all fun x => x.2.handleName?.isNone) = true)
    (h2 : ("internal/strconv.uint64pow10", Rows.laid_internal_strconv_uint64pow10) ∈ l) (h3 : ("math/bits.deBruijn64tab", Rows.laid_math_bits_deBruijn64tab) ∈ l) (h : laidMetH Tryz.prog l w) : TabOk w := by
  obtain ⟨g', t', cs, fuel, p, k1, k2, k3, k4⟩ := met_reads hh h h3
  have := var_size gLast k3
  refine ⟨by omega, ?_⟩
  obtain ⟨g', t', cs, fuel, p, k1, k2, k3, k4⟩ := met_reads hh h h2
  obtain rfl := Option.some.inj (gPow.symm.trans k1)
  obtain rfl := Option.some.inj ((show (Tryz.prog.globals[2]?).map (·.type) = some 285 by kernel_rfl).symm.trans k2)
  have e : (Rows.laid_internal_strconv_uint64pow10 : DataW Unit) = Lib.tabData .u64 Lib.pow10Tab := by kernel_rfl
  rw [e] at k4
  have hc := Lib.cells_of_tab Tryz.underlying285 Tryz.underlying93 (by kernel_rfl) (by kernel_rfl) k4
  unfold Lib.TabIs
  rw [k3, ← hc]
end Go.Proofs.YtnhnelgkcldkbaaGreatDoor.Am
