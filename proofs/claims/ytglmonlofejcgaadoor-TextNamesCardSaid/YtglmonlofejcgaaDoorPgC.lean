/- program.Check, and pawnshopref08.Check and Great: what they answer at any program. -/
import Derived.Test.YtglmonlofejcgaaDoorPgE
namespace Go.Proofs.YtglmonlofejcgaaDoor.prg
open Go.RowKit Go.Proofs.YtglmonlofejcgaaDoor Go.Proofs.YtglmonlofejcgaaDoor.Am Go.Proofs.YtglmonlofejcgaaDoor.loan Go.Proofs.YtglmonlofejcgaaDoor.bld
set_option linter.unusedVariables false
def badF : List FnD → Int
 | [] => 0
 | D :: Ds => if check.chkF D = 0 then badF Ds else check.chkF D
theorem badF_all : ∀ {Ds : List FnD}, (∀ D ∈ Ds, check.chkF D = 0) → badF Ds = 0
 | [], _ => rfl
 | D :: Ds, h => by
  unfold badF
  rw [if_pos (h D List.mem_cons_self)]
  exact badF_all fun x hx => h x (List.mem_cons_of_mem _ hx)
theorem badF_at : ∀ {Ds : List FnD} {i : Nat} {D : FnD}, Ds[i]? = some D → (∀ x ∈ Ds.take i, check.chkF x = 0) → check.chkF D ≠ 0 → badF Ds = check.chkF D
 | [], _, _, h, _, _ => by simp at h
 | D :: Ds, 0, E, h, _, hn => by
  have h : D = E := by simpa using h
  subst h
  unfold badF
  rw [if_neg hn]
 | D :: Ds, i + 1, E, h, h0, hn => by
  unfold badF
  rw [if_pos (h0 D (by simp))]
  exact badF_at (by simpa using h) (fun x hx => h0 x (by rw [List.take_succ_cons]; exact List.mem_cons_of_mem _ hx)) hn
def inputsB (Ds : List FnD) : Bool := (((Ds.getD 0 noF).ls.drop 1).take (Ds.getD 0 noF).p.toNat).all intT
def callsP (Ds : List FnD) : Bool := Ds.all fun D => D.bs.all (callB Ds)
def chkP (Ds : List FnD) : Int := if 8 < Ds.length then 4 else if Ds.length = 0 then 8 else if badF Ds = 0 then (if inputsB Ds && callsP Ds then 0 else 8) else badF Ds
end Go.Proofs.YtglmonlofejcgaaDoor.prg
