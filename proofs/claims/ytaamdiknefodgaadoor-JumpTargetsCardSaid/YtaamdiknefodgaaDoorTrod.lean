/- An argument's cells, each with what its type says, whatever structs lie in structs. (No program in sight.) -/
import Derived.Test.YtaamdiknefodgaaDoorAmGo
import Derived.Deep.Slices
import Derived.Deep.Fields
import Derived.ChangeSame
namespace Go.Proofs.YtaamdiknefodgaaDoor.Am
open Go.ChangeShapes Go.WideShapes Go.Deep
section
variable {H : Type} {enc : TypeId × Value → H} {P : Program} {w : World} {base : Nat} {spare : Nat → Bool} {held : Bool}
def oneT (P : Program) (t : TypeId) : Bool := match P.underlying t with | some .bool => true | some (.int _) => true | some .string => true | some (.slice _) => true | _ => false
/-- the cells of a value of a type: places and types -/
def leafT (P : Program) : Nat → Nat → TypeId → List (Nat × TypeId)
  | 0, _, _ => []
  | n + 1, o, t => bif oneT P t then [(o, t)] else match P.underlying t with
    | some (.struct fs) => fs.toList.flatMap fun f => leafT P n (o + f.offset) f.type
    | _ => []
theorem trod_one {t : TypeId} {fuel : Nat} {cs : List Value} {x : DataW H × List MemPlace} (ht : oneT P t = true) (h : DataW.trod enc P w base spare held fuel t cs = some x) : ∃ v, cs = [v] := by
  unfold oneT at ht
  split at ht <;> rename_i hu
  · obtain ⟨b, rfl, _⟩ := DataW.trod_bool hu h; exact ⟨_, rfl⟩
  · obtain ⟨n, rfl, _⟩ := DataW.trod_int hu h; exact ⟨_, rfl⟩
  · obtain ⟨s, rfl, _⟩ := DataW.trod_string hu h; exact ⟨_, rfl⟩
  · rcases open_slice hu h with ⟨rfl, _⟩ | ⟨a, l, c, m, n, D, Pl, rfl, _⟩ <;> exact ⟨_, rfl⟩
  · cases ht
theorem leaf_trod : ∀ (n o : Nat) (t : TypeId) (fuel : Nat) (cs : List Value) (x : DataW H × List MemPlace), DataW.trod enc P w base spare held fuel t cs = some x →
    ∀ p ∈ leafT P n o t, o ≤ p.1 ∧ ∃ v y m, cs[p.1 - o]? = some v ∧ oneT P p.2 = true ∧ DataW.trod enc P w base spare held m p.2 [v] = some y
  | 0, _, _, _, _, _, _, p, hp => by simp [leafT] at hp
  | n + 1, o, t, fuel, cs, x, h, p, hp => by
    rw [leafT] at hp
    cases ho : oneT P t <;> rw [ho] at hp <;> simp only [cond_true, cond_false] at hp
    · split at hp
      · rename_i fs hu
        obtain ⟨f, hf, hp⟩ := List.mem_flatMap.1 hp
        obtain ⟨xs, m, _, _, _, hlen, hg⟩ := DataW.trod_struct hu h
        obtain ⟨i, hi⟩ := List.getElem?_of_mem hf
        have hi : fs[i]? = some f := by rw [← Array.getElem?_toList]; exact hi
        have h1 := hg i f hi
        have hil : i < xs.length := by have := (Array.getElem?_eq_some_iff.1 hi).1; omega
        rw [List.getElem?_eq_getElem hil] at h1
        obtain ⟨k1, v, y, m', k2, k3, k4⟩ := leaf_trod n (o + f.offset) f.type m _ _ h1 p hp
        refine ⟨by omega, v, y, m', ?_, k3, k4⟩
        rw [List.getElem?_take] at k2
        split at k2
        · rw [List.getElem?_drop] at k2
          rw [← k2]
          congr 1
          omega
        · cases k2
      · cases hp
    · rcases List.mem_singleton.1 hp with rfl
      obtain ⟨v, rfl⟩ := trod_one ho h
      exact ⟨Nat.le_refl _, v, x, fuel, by simp, ho, h⟩
theorem kd_trod {t : TypeId} {kd : Kd} (hk : kdOf P t = some kd) {m : Nat} {v : Value} {y : DataW H × List MemPlace} (h : DataW.trod enc P w base spare held m t [v] = some y) : kd.ok v := by
  unfold kdOf at hk
  split at hk <;> cases hk <;> rename_i hu
  · obtain ⟨b, e, _⟩ := DataW.trod_bool hu h
    cases e
    exact ⟨b, rfl⟩
  · obtain ⟨n, e, _, hw⟩ := DataW.trod_int hu h
    cases e
    refine ⟨n, rfl, ?_⟩
    simpa [Lit.wf, IntKind.has] using hw
  · obtain ⟨s, e, _, hs⟩ := DataW.trod_string hu h
    cases e
    exact ⟨s, rfl, by have : s.size ≤ 9223372036854775807 := hs; show (s.size : Int) ≤ 9223372036854775807; omega⟩
/-- all cells, by their kinds -/
theorem kds_trod {n : Nat} {t : TypeId} {fuel : Nat} {cs : List Value} {x : DataW H × List MemPlace} (h : DataW.trod enc P w base spare held fuel t cs = some x) {kds : List Kd} (hk : mapO (fun p => kdOf P p.2) (leafT P n 0 t) = some kds)
    (hi : (leafT P n 0 t).map (·.1) = List.range kds.length) (hl : cs.length = kds.length) : All2 Kd.ok kds cs := by
  refine all2_by_nth (by omega) fun i kd v hkd hv => ?_
  obtain ⟨hlen, hat⟩ := mapO_nth hk
  have hil : i < kds.length := (List.getElem?_eq_some_iff.1 hkd).1
  have hp : (leafT P n 0 t)[i]? = some ((leafT P n 0 t)[i]'(by omega)) := List.getElem?_eq_getElem _
  obtain ⟨_, v', y, m, k2, _, k4⟩ := leaf_trod n 0 t fuel cs x h _ (List.mem_of_getElem? hp)
  have hfst : ((leafT P n 0 t)[i]'(by omega)).1 = i := by
    have e : ((leafT P n 0 t).map (·.1))[i]? = some i := by rw [hi]; simp [hil]
    rw [List.getElem?_map, hp] at e
    simpa using e
  rw [hfst, Nat.sub_zero, hv] at k2
  cases k2
  exact kd_trod (hat i _ kd hp hkd) k4
end
end Go.Proofs.YtaamdiknefodgaaDoor.Am
