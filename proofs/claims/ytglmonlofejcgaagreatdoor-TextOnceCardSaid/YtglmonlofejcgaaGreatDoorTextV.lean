/- pawnshopref07.Great and Twin, of any function that is not great; what a copy keeps. -/
import Derived.Test.YtglmonlofejcgaaGreatDoorPgQ
import Derived.Test.YtglmonlofejcgaaGreatDoorTwin1
open List renaming getD_eq_getElem?_getD → apu
set_option linter.unusedVariables false
namespace Go.Proofs.YtglmonlofejcgaaGreatDoor
namespace txt
open Go.RowKit Am loan bld
theorem aoz {w : World} {v : Value} {D : FnD} (h : aV w v D) : Calls Tryz.prog 7 #[v] w (bld.Ans w (.bool (great.CB D))) := great.RV h
theorem vZ {D D' : FnD} (h : D'.core = D.core) : D'.p = D.p /\ D'.u = D.u /\ D'.ls = D.ls /\ D'.bs.map bK.core = D.bs.map bK.core := by
 unfold FnD.core at h
 injection h with h1 h2 _ _ h3 h4
 exact ⟨h1, h2, h3, h4⟩
theorem a5G (i : Nat) {b b' : bK} (h : b'.core = b.core) : CG i b' = CG i b := by
 unfold bK.core at h
 injection h with _ h1 _ h2 h3 h4
 unfold CG jmL
 rw [h1, h2, h3, h4]
theorem acd {D D' : FnD} (h : D'.bs.map bK.core = D.bs.map bK.core) (i : Nat) : (D'.bs.getD i noB).core = (D.bs.getD i noB).core := by
 have hi := congrArg (fun l => l[i]?) h
 simp only [List.getElem?_map] at hi
 rw [apu, apu]
 cases h1 : D'.bs[i]? <;> cases h2 : D.bs[i]? <;> rw [h1, h2] at hi <;> simp_all
theorem YX {D D' : FnD} (h : D'.bs.map bK.core = D.bs.map bK.core) : D'.bs.length = D.bs.length := by simpa using congrArg List.length h
theorem zA {D D' : FnD} (h : D'.core = D.core) (n : Int) : textF D' n = textF D n := by
 obtain ⟨h1, h2, h3, h4⟩ := vZ h
 have hb : ∀ i, lW D' i = lW D i := fun i => by
  unfold lW
  congr 1
  funext k
  exact a5G k (acd h4 k)
 unfold textF lg lC
 rw [h1, h2, h3, hb, YX h4]
end txt
end Go.Proofs.YtglmonlofejcgaaGreatDoor
