/- What a program's checks answer, and what a sound program is. -/
import Derived.Test.YtglmonlofejcgaaDoorPgD
import Derived.Test.YtglmonlofejcgaaDoorPgT
namespace Go.Proofs.YtglmonlofejcgaaDoor.prg
open Go.RowKit Go.Proofs.YtglmonlofejcgaaDoor Go.Proofs.YtglmonlofejcgaaDoor.Am Go.Proofs.YtglmonlofejcgaaDoor.loan Go.Proofs.YtglmonlofejcgaaDoor.bld
set_option linter.unusedVariables false
theorem chk8_a {w : World} {v fv : Value} {Ds : List FnD} (h : ProgOk w v fv Ds) : ChkP 35 w v (chkP Ds) := fun w1 hb => by
 have h1 := h.below hb
 by_cases hm : 8 < Ds.length
 ·have : chkP Ds = 4 := by unfold chkP; rw [if_pos hm]
  rw [this]
  exact chka_many h1 hm
 ·by_cases h0 : Ds.length = 0
  ·have : chkP Ds = 8 := by unfold chkP; rw [if_neg hm, if_pos h0]
   rw [this]
   exact chka_none h1 h0
  ·exact chka_c h1 (by omega) (by omega)
structure Sound8 (Ds : List FnD) : Prop where
 n0 : 0 < Ds.length
 n8 : Ds.length ≤ 8
 ok : ∀ D ∈ Ds, check.chkF D = 0
theorem badF_zero : ∀ {Ds : List FnD}, badF Ds = 0 → ∀ D ∈ Ds, check.chkF D = 0
 | [], _, _, h => by cases h
 | D :: Ds, h, E, hE => by
  unfold badF at h
  by_cases hc : check.chkF D = 0
  ·rw [if_pos hc] at h
   rcases List.mem_cons.1 hE with rfl | hE
   ·exact hc
   ·exact badF_zero h E hE
  ·rw [if_neg hc] at h
   exact absurd h hc
theorem sound8_of {Ds : List FnD} (h : chkP Ds = 0) : Sound8 Ds := by
 unfold chkP at h
 by_cases hm : 8 < Ds.length
 ·rw [if_pos hm] at h; exact absurd h (by decide)
 ·rw [if_neg hm] at h
  by_cases h0 : Ds.length = 0
  ·rw [if_pos h0] at h; exact absurd h (by decide)
  ·rw [if_neg h0] at h
   by_cases hb : badF Ds = 0
   ·exact ⟨by omega, by omega, badF_zero hb⟩
   ·rw [if_neg hb] at h; exact absurd h hb
theorem pgm_ok {w : World} {v fv : Value} {Ds : List FnD} (h : ProgOk w v fv Ds) (kt : TabOk w) (hc : chkP Ds = 0) : Calls Tryd.prog 17 #[v] w (txt.AnsT (textP 0 Ds) 0 w) := by
 have k := sound8_of hc
 exact pgm_c h k.n8 (fun D hD => txt.lim_of (h.fn D hD) (k.ok D hD)) (fun D hD => txt.cons_of (h.fn D hD) kt (k.ok D hD)) (by have := chk8_a h; rwa [hc] at this)
end Go.Proofs.YtglmonlofejcgaaDoor.prg
