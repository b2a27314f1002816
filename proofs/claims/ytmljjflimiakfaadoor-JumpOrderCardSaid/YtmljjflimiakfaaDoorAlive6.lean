/- strings.Join as an oracle of the machine; alive of chapter 06 answers true, whoever calls. -/
import Derived.Test.YtmljjflimiakfaaDoorLb
import Derived.Test.YtmljjflimiakfaaDoorAmC
/-! strings.Join as an oracle of the machine. -/
namespace Go.Proofs.YtmljjflimiakfaaDoor.Am
open Go.RowKit

/-- the strings that a row's cells hold -/
def strsOf (cs : List S) : Option (List (List UInt8)) := match cs with
  | [] => some []
  | .str s :: r => match strsOf r with | some l => some (s :: l) | none => none
  | _ => none
def joinK (sep : List UInt8) : List (List UInt8) → List UInt8
  | [] => []
  | [x] => x
  | x :: y :: r => x ++ sep ++ joinK sep (y :: r)
noncomputable def joinO : Oracle := fun f args h _ => bif f == 29 then (match args with
  | [.s (.sl l o n 1 _), .s (.str sep)] => ob (h.read l o n) fun cs => ob (strsOf cs) fun ss => bif Nat.ble (joinK sep ss).length 1000000 && Nat.ble n 1000000 then some (V.s (.str (joinK sep ss)), h) else none
  | [.s .nils, .s (.str _)] => some (V.s (.str []), h)
  | _ => none) else none

theorem joinK_eq (sep : List UInt8) : ∀ ss : List (List UInt8), joinK sep ss = Lib.join ss sep
  | [] => by simp [joinK, Lib.join]
  | [x] => by simp [joinK, Lib.join]
  | x :: y :: r => by
    have ih := joinK_eq sep (y :: r)
    unfold Lib.join at ih ⊢
    rw [joinK, ih]
    simp [List.intercalate, List.intersperse]
theorem strsOf_ok [Base] {r : Ren} : ∀ {cs : List S} {ss : List (List UInt8)} {us : List Value}, strsOf cs = some ss → All2 (VS r) cs us → us = ss.map fun s => Value.string ⟨s.toArray⟩
  | [], ss, [], h, _ => by cases h; rfl
  | [], _, _ :: _, _, h => h.elim
  | _ :: _, _, [], _, h => h.elim
  | c :: cs, ss, u :: us, h, k => by
    cases c <;> simp only [strsOf] at h <;> (try (cases h; done))
    split at h
    · rename_i hl
      cases h
      have := strsOf_ok hl k.2
      have k1 : u = _ := k.1
      rw [this, k1]
      rfl
    · cases h
theorem sound_join [Base] : Sound Tryd.prog joinO := by
  intro f args h fl v h' e
  unfold joinO at e
  cases hf : (f == 29) <;> rw [hf] at e <;> simp only [cond_true, cond_false] at e
  · cases e
  obtain rfl : f = 29 := by simpa using hf
  refine ⟨⟨_, Tryd.func29, by kernel_rfl, by kernel_rfl⟩, fun r B w vs hi ha => ?_⟩
  split at e
  · rename_i l o n c sep
    obtain ⟨cs, hcs, e⟩ := ob_some e
    obtain ⟨ss, hss, e⟩ := ob_some e
    cases hb : (Nat.ble (joinK sep ss).length 1000000 && Nat.ble n 1000000) <;> rw [hb] at e <;> simp only [cond_true, cond_false] at e
    · cases e
    cases e
    simp only [Bool.and_eq_true] at hb
    have hb1 := Nat.le_of_ble_eq_true hb.1
    have hb2 := Nat.le_of_ble_eq_true hb.2
    obtain ⟨u1, u2, rfl, hu1, hu2⟩ := all2_two ha
    cases hu2
    obtain ⟨cc, rfl, hl, _, hn, _⟩ := sl_val hu1
    obtain ⟨us, k1, k2, k3⟩ := read_ok hi hcs
    obtain rfl := strsOf_ok hss k1
    have hlen : ss.length = n := by simpa using k2
    rw [joinK_eq] at hb1 ⊢
    rcases Nat.eq_zero_or_pos n with h0 | h0
    · subst h0
      have : ss = [] := List.eq_nil_of_length_eq_zero hlen
      subst this
      refine (Tryd.strings_Join_none _ _ _ w).mono fun e w' ⟨e1, e2⟩ => ⟨_, e1, Post.below hi (by rw [e2]; exact Below.refl _ _) rfl⟩
    · have hcell : ∀ (j : Nat) x, (ss.map fun s => (⟨s.toArray⟩ : ByteArray))[j]? = some x → w.cell? ⟨r.blk l, r.off l + o + j, none⟩ = some (.string x) := fun j x hx => by
        simp only [List.getElem?_map, Option.map_eq_some_iff] at hx
        obtain ⟨s, hs, rfl⟩ := hx
        have := k3 j (.string ⟨s.toArray⟩) (by simp [hs])
        rw [← this]
        simp [Ren.at, Nat.add_assoc]
      have hblk : r.blk l < w.heap.size := by
        obtain ⟨s, hs⟩ : ∃ s, ss[0]? = some s := ⟨ss[0], by rw [List.getElem?_eq_getElem]⟩
        have := hcell 0 _ (by rw [List.getElem?_map, hs]; rfl)
        unfold World.cell? at this
        by_cases hlt : r.blk l < w.heap.size
        · exact hlt
        · rw [Array.getElem?_eq_none (Nat.le_of_not_lt hlt)] at this
          cases this
      have hmap : ((ss.map fun s => (⟨s.toArray⟩ : ByteArray)).map fun x => x.data.toList) = ss := by simp [List.map_map, Function.comp_def]
      have hj := Tryd.strings_Join (r.blk l) (r.off l + o) cc (ss.map fun s => ⟨s.toArray⟩) ⟨sep.toArray⟩ w hcell hblk (by simp; omega) (by simp; omega) (by rw [hmap]; show (Lib.join ss sep.toArray.toList).length ≤ _; simp; omega)
      rw [hmap] at hj
      simp only [List.length_map, hlen] at hj
      refine Calls.mono hj fun e w' ⟨e1, e2⟩ => ⟨_, e1, Post.below hi e2 ?_⟩
      show _ = _
      simp
  · obtain ⟨u1, u2, rfl, hu1, hu2⟩ := all2_two ha
    cases hu1; cases hu2; cases e
    exact (Tryd.strings_Join_none _ _ _ w).mono fun e w' ⟨e1, e2⟩ => ⟨_, e1, Post.below hi (by rw [e2]; exact Below.refl _ _) rfl⟩
  · cases e
/-- numbers to digits; strings joined -/
noncomputable def numJoinO : Oracle := fun f a h fl => orR (numO f a h fl) (joinO f a h fl)
theorem sound_numJoin {w0 : World} {K : Know} {rho : Nat → Int} {sig : Nat → List UInt8} (ok : KnowOk K rho sig) (k : TabOk w0) : @Sound (base0 w0 ok) Tryd.prog numJoinO :=
  @sound_or (base0 w0 ok) _ _ _ (sound_num ok k) (@sound_join (base0 w0 ok))
end Go.Proofs.YtmljjflimiakfaaDoor.Am
/-! alive of chapter 06 answers true, whoever calls. -/
namespace Go.Proofs.YtmljjflimiakfaaDoor.Am
open Go.RowKit
theorem TabOk.all {w w0 : World} (k : TabOk w0) (h : ∀ b, b < 3 → w.heap[b]? = w0.heap[b]?) : TabOk w := by
  refine ⟨?_, k.here h⟩
  have hs := k.size
  have h3 : w0.heap[2]? = some w0.heap[2] := Array.getElem?_eq_getElem (by omega)
  have := (Array.getElem?_eq_some_iff.1 ((h 2 (by decide)).trans h3)).1
  omega
theorem alive06_run : tells true (@runs Know.nought (tyOf Tryd.prog) (fnOf Tryd.prog) numJoinO 100 25 5 [] ⟨[], 0⟩ 0) = true := by kernel_rfl
theorem alive06 (w : World) (h : TabOk w) : Calls Tryd.prog 5 #[] w fun e w' => e = .returned (.bool true) ∧ Below w.heap.size w w' := by
  have hS := sound_runs (KnowOk.nought (fun _ => 0) (fun _ => [])) (sound_numJoin (KnowOk.nought (fun _ => 0) (fun _ => [])) h) 100 25
  exact calls_closed w h.size hS alive06_run
end Go.Proofs.YtmljjflimiakfaaDoor.Am
