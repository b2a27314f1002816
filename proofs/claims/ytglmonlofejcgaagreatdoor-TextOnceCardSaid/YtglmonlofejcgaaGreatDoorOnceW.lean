/- TextOnce: different functions and programs have different texts; so the law answers true. -/
import Derived.Test.YtglmonlofejcgaaGreatDoorTextOnce
open List renaming getElem?_eq_getElem → apu, mem_of_getElem? → apv
set_option linter.unusedVariables false
namespace Go.Proofs.YtglmonlofejcgaaGreatDoor
namespace prg
open Go.RowKit Am loan bld
open txt (rJ textF Lim Jt Vo Oz TD zA Vt)
theorem La : ∀ {a b : List FnD} {i : Nat}, a.map FnD.core = b.map FnD.core -> fU i a = fU i b
 | [], [], _, _ => rfl
 | [], _ :: _, _, e => by cases e
 | _ :: _, [], _, e => by cases e
 | x :: a, y :: b, i, e => by
  obtain ⟨h1, h2⟩ := List.cons.inj (show x.core :: a.map FnD.core = y.core :: b.map FnD.core from e)
  rw [fU, fU, zA h1, La h2]
theorem Wy {q : Bool} {p r : Prop} [Decidable r] (h : q = true ↔ p) (k : p ↔ r) : q = decide r := by
 cases q with
 | true => exact (decide_eq_true (k.1 (h.1 rfl))).symm
 | false => exact (decide_eq_false (fun hr => Bool.noConfusion (h.2 (k.2 hr)))).symm
theorem a7R {w : World} {v v' v2 v3 fv fv' : Value} {Ds Es : List FnD} (h : cu w v fv Ds) (k : cu w v' fv' Es) (hn : Kd.ok (.i .i64) v2) (hm : Kd.ok (.i .i64) v3) (kt : dL w) : Calls Tryz.prog 5 #[v, v', v2, v3] w (UQ w) := by
 obtain ⟨n, rfl, hn1, hn2⟩ := hn
 obtain ⟨m, rfl, hm1, hm2⟩ := hm
 by_cases hg1 : jJ Ds = true
 ·exact oQ h k kt (.inl hg1)
 have hg1 : jJ Ds = false := by simpa using hg1
 by_cases hg2 : jJ Es = true
 ·exact oQ h k kt (.inr ⟨hg1, .inl hg2⟩)
 have hg2 : jJ Es = false := by simpa using hg2
 by_cases hc1 : gJ Ds = 0 -> False
 ·exact oQ h k kt (.inr ⟨hg1, .inr ⟨hg2, .inl (by simpa using hc1)⟩⟩)
 have hc1 : gJ Ds = 0 := Classical.not_not.1 hc1
 by_cases hc2 : gJ Es = 0 -> False
 ·exact oQ h k kt (.inr ⟨hg1, .inr ⟨hg2, .inr ⟨hc1, .inl (by simpa using hc2)⟩⟩⟩)
 have hc2 : gJ Es = 0 := Classical.not_not.1 hc2
 by_cases n0 : n < 0
 ·exact oQ h k kt (.inr ⟨hg1, .inr ⟨hg2, .inr ⟨hc1, .inr ⟨hc2, .inl n0⟩⟩⟩⟩)
 by_cases n7 : n > 7
 ·exact oQ h k kt (.inr ⟨hg1, .inr ⟨hg2, .inr ⟨hc1, .inr ⟨hc2, .inr ⟨n0, .inl n7⟩⟩⟩⟩⟩)
 by_cases m0 : m < 0
 ·exact oQ h k kt (.inr ⟨hg1, .inr ⟨hg2, .inr ⟨hc1, .inr ⟨hc2, .inr ⟨n0, .inr ⟨n7, .inl m0⟩⟩⟩⟩⟩⟩)
 by_cases m7 : m > 7
 ·exact oQ h k kt (.inr ⟨hg1, .inr ⟨hg2, .inr ⟨hc1, .inr ⟨hc2, .inr ⟨n0, .inr ⟨n7, .inr ⟨m0, m7⟩⟩⟩⟩⟩⟩⟩)
 have s1 := um hc1
 have s2 := um hc2
 obtain ⟨D, hD⟩ : ∃ D, Ds[0]? = some D := ⟨_, apu s1.n0⟩
 obtain ⟨E, hE⟩ : ∃ E, Es[0]? = some E := ⟨_, apu s2.n0⟩
 have hDm := apv hD
 have hEm := apv hE
 have tD : ∀ D ∈ Ds, Jt w D := fun D hD => Vo (h.fn D hD) (s1.ok D hD)
 have tE : ∀ D ∈ Es, Jt w D := fun D hD => Vo (k.fn D hD) (s2.ok D hD)
 have lD : ∀ D ∈ Ds, Lim D := fun D hD => txt.sW (h.fn D hD) (s1.ok D hD)
 have lE : ∀ D ∈ Es, Lim D := fun D hD => txt.sW (k.fn D hD) (s2.ok D hD)
 have hP : Ds.map FnD.core = Es.map FnD.core ↔ fU 0 Ds = fU 0 Es := ⟨La, TD tD tE s1.n8 s2.n8⟩
 have n8 : n < 8 := by omega
 have m8 : m < 8 := by omega
 refine a7W (la := fU 0 Ds) (lb := fU 0 Es) (lx := textF D n) (ly := textF E m) h k kt hg1 hg2 hc1 hc2 n0 n7 m0 m7 hD hE fun A c B d e e' => ?_
 subst e e'
 refine ⟨fun w1 hb => V6 (h.below hb) (txt.gB kt hb) hc1, fun w1 hb => V6 (k.below hb) (txt.gB kt hb) hc2, fun w1 hb => JK ((h.fn D hDm).frz hb.block) (txt.gB kt hb) (s1.ok D hDm) (by omega) n8, fun w1 hb => JK ((k.fn E hEm).frz hb.block) (txt.gB kt hb) (s2.ok E hEm) (by omega) m8, fun w1 hb => ?_, fun hnm w1 hb => ?_, fun hnm e => hnm (Oz (tD D hDm) (tE E hEm) ⟨hn1, hn2⟩ ⟨hm1, hm2⟩ e).1⟩
 ·refine (aj2 (k.below hb) (h.below hb) (by have := s2.n8; omega) lE lD).mono ?_
  rintro e w2 ⟨q, rfl, hq, b2⟩
  exact ⟨by rw [Wy hq hP], b2⟩
 ·subst hnm
  refine (Vt ((k.fn E hEm).frz hb.block) ((h.fn D hDm).frz hb.block) (lE E hEm) (lD D hDm)).mono ?_
  rintro e w2 ⟨q, rfl, hq, b2⟩
  exact ⟨by rw [Wy hq ⟨fun e => zA e n, fun e => (Oz (tD D hDm) (tE E hEm) ⟨hn1, hn2⟩ ⟨hn1, hn2⟩ e).2⟩], b2⟩
end prg
end Go.Proofs.YtglmonlofejcgaaGreatDoor
