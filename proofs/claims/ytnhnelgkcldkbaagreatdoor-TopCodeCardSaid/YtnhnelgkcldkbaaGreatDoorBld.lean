/- A builder of the call's own, while other memory is made; rows of strings. (No program in sight.) -/
import Derived.Test.YtnhnelgkcldkbaaGreatDoorLoanK
import Derived.Lib.OthersKept
namespace Go.Proofs.YtnhnelgkcldkbaaGreatDoor.bld
open Go.RowKit Go.Proofs.YtnhnelgkcldkbaaGreatDoor Go.Proofs.YtnhnelgkcldkbaaGreatDoor.Am Go.Proofs.YtnhnelgkcldkbaaGreatDoor.loan
set_option linter.unusedVariables false
/-- a value, and nothing that was there has changed -/
def Ans (W : World) (v : Value) (e : Ending) (W' : World) : Prop := e = .returned v ∧ Below W.heap.size W W'
/-- a builder is kept where all that is there is kept -/
theorem BuilderAtF.keep {T e : TypeId} {B b : Nat} {p : Value} {bs : List Value} {w w' : World} (h : Lib.BuilderAtF T e B b p bs w) (hk : ∀ k, k < w.heap.size → w'.heap[k]? = w.heap[k]?) : Lib.BuilderAtF T e B b p bs w' := by
  obtain ⟨hB, v, hb, hown, hne⟩ := h
  refine ⟨hB, v, (hk _ (Array.getElem?_eq_some_iff.1 hb).1).trans hb, ⟨hown.1, ?_⟩, hne⟩
  rcases hown.2 with hn | ⟨g, cap, cur, fz, hv, hbg, hg, rest⟩
  · exact .inl hn
  · exact .inr ⟨g, cap, cur, fz, hv, hbg, (hk _ (Array.getElem?_eq_some_iff.1 hg).1).trans hg, rest⟩
/-- a builder that holds these bytes -/
def Bld (T e : TypeId) (b : Nat) (l : List UInt8) (w : World) : Prop := Lib.IsBuilderF T e b b (Lib.byteCells l) w
theorem Bld.keep {T e : TypeId} {b : Nat} {l : List UInt8} {w w' : World} (h : Bld T e b l w) (hk : ∀ k, k < w.heap.size → w'.heap[k]? = w.heap[k]?) : Bld T e b l w' :=
  h.elim (fun x => .inl (BuilderAtF.keep x hk)) (fun x => .inr (BuilderAtF.keep x hk))
theorem Bld.below {T e : TypeId} {b : Nat} {l : List UInt8} {w w' : World} (h : Bld T e b l w) (hb : Below w.heap.size w w') : Bld T e b l w' := h.keep hb.block
theorem Bld.lt {T e : TypeId} {b : Nat} {l : List UInt8} {w : World} (h : Bld T e b l w) : b < w.heap.size := by
  rcases h with ⟨_, v, hb, _⟩ | ⟨_, v, hb, _⟩ <;> exact (Array.getElem?_eq_some_iff.1 hb).1
/-- what a call that writes a builder leaves: all below the builder, and all that is neither the builder nor a row of bytes -/
structure Wrote (e : TypeId) (b : Nat) (w w' : World) : Prop where
  bel : Below b w w'
  oth : Lib.OthersKept e (some b) w w'
theorem Wrote.refl (e : TypeId) (b : Nat) (w : World) : Wrote e b w w := ⟨Below.refl _ _, .refl _ _ _⟩
theorem Wrote.trans {e : TypeId} {b : Nat} {x y z : World} (h : Wrote e b x y) (k : Wrote e b y z) : Wrote e b x z := ⟨h.bel.trans k.bel, h.oth.trans k.oth⟩
theorem Wrote.block {e : TypeId} {b k : Nat} {w w' : World} {cs : Array Value} {t : TypeId} {fz : Nat × Nat} (h : Wrote e b w w') (hk : w.heap[k]? = some (.cells cs t fz)) (hb : k ≠ b) (ht : t ≠ e) : w'.heap[k]? = some (.cells cs t fz) :=
  h.oth k _ hk (fun x => hb (Option.some.inj x)) (fun c f x => ht (by injection x))
/-- strings, where they lie, in a row that no builder writes -/
def StrsAt (w : World) (b : Nat) (e : TypeId) (A : Option Addr) (l : List (List UInt8)) : Prop :=
  ∀ i s, l[i]? = some s → ∃ g o cs t fz, A = some ⟨g, o, none⟩ ∧ g ≠ b ∧ w.heap[g]? = some (.cells cs t fz) ∧ t ≠ e ∧ cs[o + i]? = some (.string ⟨s.toArray⟩)
theorem StrsAt.cell {w : World} {b : Nat} {e : TypeId} {A : Option Addr} {l : List (List UInt8)} (h : StrsAt w b e A l) {i : Nat} {s : List UInt8} (hi : l[i]? = some s) : ∃ g o, A = some ⟨g, o, none⟩ ∧ w.cell? ⟨g, o + i, none⟩ = some (.string ⟨s.toArray⟩) := by
  obtain ⟨g, o, cs, t, fz, hA, hg, hc, ht, hs⟩ := h i s hi
  exact ⟨g, o, hA, by rw [cell_of_row w g (o + i) cs t fz hc]; exact hs⟩
/-- a row that has just been made of strings -/
theorem StrsAt.new {w : World} {b g : Nat} {e t : TypeId} {l : List (List UInt8)} (hb : g ≠ b) (ht : t ≠ e) (h : w.heap[g]? = some (.cells (l.map fun s => Value.string ⟨s.toArray⟩).toArray t (0, 0))) : StrsAt w b e (some ⟨g, 0, none⟩) l := fun i s hi =>
  ⟨g, 0, _, t, _, rfl, hb, h, ht, by simp [hi]⟩
end Go.Proofs.YtnhnelgkcldkbaaGreatDoor.bld
