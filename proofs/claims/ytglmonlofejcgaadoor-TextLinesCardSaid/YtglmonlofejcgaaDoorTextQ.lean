/- Lines of a text: none of them holds what ends a line; one text for each list of lines. In plain words. -/
import Derived.Test.YtglmonlofejcgaaDoorTextR
namespace Go.Proofs.YtglmonlofejcgaaDoor.txt
open Go.RowKit Go.Proofs.YtglmonlofejcgaaDoor Go.Proofs.YtglmonlofejcgaaDoor.Am
set_option linter.unusedVariables false
def noNL (l : List UInt8) : Prop := ∀ c ∈ l, c ≠ 10
theorem no_of {p : UInt8 → Bool} (hp : p 10 = false) {l : List UInt8} (h : l.all p = true) : noNL l := fun c hc e => by
 have := List.all_eq_true.1 h c hc
 rw [e, hp] at this
 cases this
theorem no_nil : noNL [] := fun c hc => by cases hc
theorem no_app {a b : List UInt8} (h : noNL a) (k : noNL b) : noNL (a ++ b) := fun c hc => (List.mem_append.1 hc).elim (h c) (k c)
theorem no_cons {x : UInt8} {b : List UInt8} (h : x ≠ 10) (k : noNL b) : noNL (x :: b) := fun c hc => (List.mem_cons.1 hc).elim (fun e => e ▸ h) (k c)
theorem no_lit {l : List UInt8} (h : l.all (fun c => !(c == 10)) = true) : noNL l := no_of (p := fun c => !(c == 10)) rfl h
theorem no_dec (n : Int) : noNL (decT n) := no_of (p := isNum) (by decide) (decT_num n)
theorem no_place (l : Int) (d : Bool) (f : Int) : noNL (placeT l d f) := no_of (p := isPlc) (by decide) (placeT_plc l d f)
theorem no_op (o : Opd) : noNL (opT o) := by
 unfold opT
 split
 ·exact no_dec _
 ·split
  ·exact no_app (no_lit rfl) (no_place _ _ _)
  ·exact no_app (no_lit rfl) (no_place _ _ _)
theorem no_sgn (x : Int) : sgn x ≠ 10 := by
 unfold sgn
 repeat' split
 all_goals decide
theorem no_bor (k bo : Int) : noNL (borT k bo) := by
 unfold borT
 repeat' split
 all_goals exact no_lit rfl
theorem no_rv (r : Rv) : noNL (rvT r) := by
 unfold rvT
 split
 ·exact no_op _
 ·split
  ·exact no_app (no_op _) (no_cons (by decide) (no_cons (no_sgn _) (no_cons (by decide) (no_op _))))
  ·split
   ·exact no_cons (by decide) (no_app (no_op _) (no_cons (by decide) (no_cons (by decide) (no_app (no_op _) (no_lit rfl)))))
   ·exact no_app (no_bor _ _) (no_place _ _ _)
theorem no_st (s : Stm) : noNL (stT s) := by
 unfold stT
 split
 ·exact no_app (no_place _ _ _) (no_app (no_lit rfl) (no_rv _))
 ·split
  ·exact no_app (no_lit rfl) (no_op _)
  ·split
   ·exact no_app (no_lit rfl) (no_op _)
   ·exact no_app (no_lit rfl) (no_place _ _ _)
theorem no_join {sep : List UInt8} (hs : noNL sep) : ∀ {l : List (List UInt8)}, (∀ x ∈ l, noNL x) → noNL (joinK sep l)
 | [], _ => no_nil
 | [x], h => h x (List.mem_singleton.2 rfl)
 | x :: y :: r, h => by
  show noNL (x ++ sep ++ joinK sep (y :: r))
  exact no_app (no_app (h x List.mem_cons_self) hs) (no_join hs fun z hz => h z (List.mem_cons_of_mem _ hz))
theorem no_jump (pre : List Value) (els : List (List Value)) (post : List Value) : noNL (jumpT pre els post) := by
 unfold jumpT
 split
 ·exact no_app (no_lit rfl) (no_dec _)
 ·split
  ·exact no_app (no_lit rfl) (no_app (no_op _) (no_app (no_lit rfl) (no_app (no_dec _) (no_app (no_lit rfl) (no_dec _)))))
  ·split
   ·exact no_lit rfl
   ·split
    ·exact no_lit rfl
    ·refine no_app (no_place _ _ _) (no_app (no_lit rfl) (no_app (no_dec _) (no_app (no_lit rfl) (no_app (no_join (no_lit rfl) fun x hx => ?_) (no_app (no_lit rfl) (no_dec _))))))
     obtain ⟨el, _, rfl⟩ := List.mem_map.1 hx
     exact no_op _
theorem no_base (k : Int) : noNL (baseT k) := by unfold baseT; split <;> exact no_lit rfl
theorem no_mark (k : Int) : noNL (markT k) := by
 unfold markT
 repeat' split
 all_goals exact no_lit rfl
theorem no_typ (t : List Value) : noNL (typT t) := by
 unfold typT
 split
 ·exact no_base _
 ·exact no_app (no_mark _) (no_base _)
theorem no_head (n p : Int) (u : Bool) : noNL (headT n p u) :=
 no_app (no_lit rfl) (no_app (no_dec _) (no_app (no_lit rfl) (no_app (no_dec _) (no_app (no_lit rfl) (by cases u <;> exact no_lit rfl)))))
theorem no_loc (i : Nat) (t : List Value) : noNL (locT i t) := no_cons (by decide) (no_app (no_dec _) (no_app (no_lit rfl) (no_typ _)))
theorem no_bh (i : Nat) : noNL (bhT i) := no_cons (by decide) (no_app (no_dec _) (no_lit rfl))
theorem no_stL (el : List Value) : noNL (stL el) := no_app (no_lit rfl) (no_st _)
theorem no_jmL (b : BlkD) : noNL (jmL b) := no_app (no_lit rfl) (no_jump _ _ _)
theorem no_blk (i : Nat) (b : BlkD) : ∀ l ∈ blkL i b, noNL l := fun l hl => by
 rcases List.mem_cons.1 hl with rfl | hl
 ·exact no_bh _
 ·rcases List.mem_append.1 hl with hl | hl
  ·obtain ⟨s, _, rfl⟩ := List.mem_map.1 hl
   exact no_stL _
  ·rw [List.mem_singleton.1 hl]; exact no_jmL _
theorem no_lines (D : FnD) (n : Int) : ∀ l ∈ linesF D n, noNL l := fun l hl => by
 rcases List.mem_cons.1 hl with rfl | hl
 ·exact no_head _ _ _
 ·rcases List.mem_append.1 hl with hl | hl
  ·obtain ⟨k, _, rfl⟩ := List.mem_map.1 hl
   exact no_loc _ _
  ·obtain ⟨k, _, hl⟩ := List.mem_flatMap.1 hl
   exact no_blk _ _ l hl
theorem nl_at : ∀ {ls : List (List UInt8)} {j : Nat} {l : List UInt8}, ls[j]? = some l → ∀ k, k ≤ l.length → (nl ls)[(nl (ls.take j)).length + k]? = (l ++ [10])[k]?
 | [], _, _, h, _, _ => by simp at h
 | m :: ls, 0, l, h, k, hk => by
  have h : m = l := by simpa using h
  subst h
  rw [nl_cons]
  show (m ++ 10 :: nl ls)[0 + k]? = _
  rw [Nat.zero_add]
  rcases Nat.lt_or_ge k m.length with h | h
  ·rw [List.getElem?_append_left h, List.getElem?_append_left h]
  ·obtain rfl : k = m.length := by omega
   rw [List.getElem?_append_right (Nat.le_refl _), List.getElem?_append_right (Nat.le_refl _), Nat.sub_self]
   rfl
 | m :: ls, j + 1, l, h, k, hk => by
  have h : ls[j]? = some l := by simpa using h
  have ih := nl_at h k hk
  rw [List.take_succ_cons, nl_cons, nl_cons, List.length_append, List.length_cons]
  rw [show m.length + ((nl (ls.take j)).length + 1) + k = m.length + (((nl (ls.take j)).length + k) + 1) by omega]
  rw [List.getElem?_append_right (by omega), Nat.add_sub_cancel_left, List.getElem?_cons_succ]
  exact ih
end Go.Proofs.YtglmonlofejcgaaDoor.txt
