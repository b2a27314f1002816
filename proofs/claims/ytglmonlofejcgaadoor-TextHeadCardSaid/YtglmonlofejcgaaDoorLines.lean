/- Lines of a text: none of them holds what ends a line; one text for each list of lines. In plain words. The law's own lines: the lines of a text, each of which ends, as a new list. -/
import Derived.Test.YtglmonlofejcgaaDoorTextR
import Derived.Test.YtglmonlofejcgaaDoorLoanK
import Derived.Test.YtglmonlofejcgaaDoorTextX
import Derived.Test.YtglmonlofejcgaaDoorProg
import Derived.Deep.DeepCutAuto
namespace Go.Proofs.YtglmonlofejcgaaDoor.txt
open Go.RowKit Go.Proofs.YtglmonlofejcgaaDoor Go.Proofs.YtglmonlofejcgaaDoor.Am
set_option linter.unusedVariables false
def noNL (l : List UInt8) : Prop := ∀ c ∈ l, c ≠ 10
theorem no_of {p : UInt8 → Bool} (hp : p 10 = false) {l : List UInt8} (h : l.all p = true) : noNL l := fun c hc e => by
  have := List.all_eq_true.1 h c hc
  rw [e, hp] at this
  cases this
theorem no_nil : noNL [] := fun c hc => by cases hc
theorem no_app {a b : List UInt8} (h : noNL a) (k : noNL b) : noNL (a ++ b) := fun c hc => (List.mem_append.1 hc).elim (h c) (k c)
theorem no_cons {x : UInt8} {b : List UInt8} (h : x ≠ 10) (k : noNL b) : noNL (x :: b) := fun c hc => (List.mem_cons.1 hc).elim (fun e => e ▸ h) (k c)
theorem no_lit {l : List UInt8} (h : l.all (fun c => !(c == 10)) = true) : noNL l := no_of (p := fun c => !(c == 10)) rfl h
theorem no_dec (n : Int) : noNL (decT n) := no_of (p := isNum) (by decide) (decT_num n)
theorem no_place (l : Int) (d : Bool) (f : Int) : noNL (placeT l d f) := no_of (p := isPlc) (by decide) (placeT_plc l d f)
theorem no_op (o : Opd) : noNL (opT o) := by
  unfold opT
  split
  · exact no_dec _
  · split
    · exact no_app (no_lit rfl) (no_place _ _ _)
    · exact no_app (no_lit rfl) (no_place _ _ _)
theorem no_sgn (x : Int) : sgn x ≠ 10 := by
  unfold sgn
  repeat' split
  all_goals decide
theorem no_bor (k bo : Int) : noNL (borT k bo) := by
  unfold borT
  repeat' split
  all_goals exact no_lit rfl
theorem no_rv (r : Rv) : noNL (rvT r) := by
  unfold rvT
  split
  · exact no_op _
  · split
    · exact no_app (no_op _) (no_cons (by decide) (no_cons (no_sgn _) (no_cons (by decide) (no_op _))))
    · split
      · exact no_cons (by decide) (no_app (no_op _) (no_cons (by decide) (no_cons (by decide) (no_app (no_op _) (no_lit rfl)))))
      · exact no_app (no_bor _ _) (no_place _ _ _)
theorem no_st (s : Stm) : noNL (stT s) := by
  unfold stT
  split
  · exact no_app (no_place _ _ _) (no_app (no_lit rfl) (no_rv _))
  · split
    · exact no_app (no_lit rfl) (no_op _)
    · split
      · exact no_app (no_lit rfl) (no_op _)
      · exact no_app (no_lit rfl) (no_place _ _ _)
theorem no_join {sep : List UInt8} (hs : noNL sep) : ∀ {l : List (List UInt8)}, (∀ x ∈ l, noNL x) → noNL (joinK sep l)
  | [], _ => no_nil
  | [x], h => h x (List.mem_singleton.2 rfl)
  | x :: y :: r, h => by
    show noNL (x ++ sep ++ joinK sep (y :: r))
    exact no_app (no_app (h x List.mem_cons_self) hs) (no_join hs fun z hz => h z (List.mem_cons_of_mem _ hz))
theorem no_jump (pre : List Value) (els : List (List Value)) (post : List Value) : noNL (jumpT pre els post) := by
  unfold jumpT
  split
  · exact no_app (no_lit rfl) (no_dec _)
  · split
    · exact no_app (no_lit rfl) (no_app (no_op _) (no_app (no_lit rfl) (no_app (no_dec _) (no_app (no_lit rfl) (no_dec _)))))
    · split
      · exact no_lit rfl
      · split
        · exact no_lit rfl
        · refine no_app (no_place _ _ _) (no_app (no_lit rfl) (no_app (no_dec _) (no_app (no_lit rfl) (no_app (no_join (no_lit rfl) fun x hx => ?_) (no_app (no_lit rfl) (no_dec _))))))
          obtain ⟨el, _, rfl⟩ := List.mem_map.1 hx
          exact no_op _
theorem no_base (k : Int) : noNL (baseT k) := by unfold baseT; split <;> exact no_lit rfl
theorem no_mark (k : Int) : noNL (markT k) := by
  unfold markT
  repeat' split
  all_goals exact no_lit rfl
theorem no_typ (t : List Value) : noNL (typT t) := by
  unfold typT
  split
  · exact no_base _
  · exact no_app (no_mark _) (no_base _)
theorem no_head (n p : Int) (u : Bool) : noNL (headT n p u) :=
  no_app (no_lit rfl) (no_app (no_dec _) (no_app (no_lit rfl) (no_app (no_dec _) (no_app (no_lit rfl) (by cases u <;> exact no_lit rfl)))))
theorem no_loc (i : Nat) (t : List Value) : noNL (locT i t) := no_cons (by decide) (no_app (no_dec _) (no_app (no_lit rfl) (no_typ _)))
theorem no_bh (i : Nat) : noNL (bhT i) := no_cons (by decide) (no_app (no_dec _) (no_lit rfl))
theorem no_stL (el : List Value) : noNL (stL el) := no_app (no_lit rfl) (no_st _)
theorem no_jmL (b : BlkD) : noNL (jmL b) := no_app (no_lit rfl) (no_jump _ _ _)
theorem no_blk (i : Nat) (b : BlkD) : ∀ l ∈ blkL i b, noNL l := fun l hl => by
  rcases List.mem_cons.1 hl with rfl | hl
  · exact no_bh _
  · rcases List.mem_append.1 hl with hl | hl
    · obtain ⟨s, _, rfl⟩ := List.mem_map.1 hl
      exact no_stL _
    · rw [List.mem_singleton.1 hl]; exact no_jmL _
theorem no_lines (D : FnD) (n : Int) : ∀ l ∈ linesF D n, noNL l := fun l hl => by
  rcases List.mem_cons.1 hl with rfl | hl
  · exact no_head _ _ _
  · rcases List.mem_append.1 hl with hl | hl
    · obtain ⟨k, _, rfl⟩ := List.mem_map.1 hl
      exact no_loc _ _
    · obtain ⟨k, _, hl⟩ := List.mem_flatMap.1 hl
      exact no_blk _ _ l hl
/-- the byte at place k of line j -/
theorem nl_at : ∀ {ls : List (List UInt8)} {j : Nat} {l : List UInt8}, ls[j]? = some l → ∀ k, k ≤ l.length → (nl ls)[(nl (ls.take j)).length + k]? = (l ++ [10])[k]?
  | [], _, _, h, _, _ => by simp at h
  | m :: ls, 0, l, h, k, hk => by
    have h : m = l := by simpa using h
    subst h
    rw [nl_cons]
    show (m ++ 10 :: nl ls)[0 + k]? = _
    rw [Nat.zero_add]
    rcases Nat.lt_or_ge k m.length with h | h
    · rw [List.getElem?_append_left h, List.getElem?_append_left h]
    · obtain rfl : k = m.length := by omega
      rw [List.getElem?_append_right (Nat.le_refl _), List.getElem?_append_right (Nat.le_refl _), Nat.sub_self]
      rfl
  | m :: ls, j + 1, l, h, k, hk => by
    have h : ls[j]? = some l := by simpa using h
    have ih := nl_at h k hk
    rw [List.take_succ_cons, nl_cons, nl_cons, List.length_append, List.length_cons]
    rw [show m.length + ((nl (ls.take j)).length + 1) + k = m.length + (((nl (ls.take j)).length + k) + 1) by omega]
    rw [List.getElem?_append_right (by omega), Nat.add_sub_cancel_left, List.getElem?_cons_succ]
    exact ih
end Go.Proofs.YtglmonlofejcgaaDoor.txt
namespace Go.Proofs.YtglmonlofejcgaaDoor.txt
open Go.RowKit Go.Proofs.YtglmonlofejcgaaDoor Go.Proofs.YtglmonlofejcgaaDoor.Am Go.Proofs.YtglmonlofejcgaaDoor.loan Go.Proofs.YtglmonlofejcgaaDoor.bld
set_option linter.unusedVariables false
def strsV (ls : List (List UInt8)) : List Value := ls.map fun l => Value.string ⟨l.toArray⟩
theorem strsV_push (ls : List (List UInt8)) (l : List UInt8) : strsV (ls ++ [l]) = strsV ls ++ [.string ⟨l.toArray⟩] := by simp [strsV]
theorem nl_next {ls : List (List UInt8)} {j : Nat} {l : List UInt8} (h : ls[j]? = some l) : nl (ls.take (j + 1)) = nl (ls.take j) ++ (l ++ [10]) := by
  rw [List.take_add_one, h]
  exact nl_push _ _
theorem nl_split {ls : List (List UInt8)} {j : Nat} {l : List UInt8} (h : ls[j]? = some l) : nl ls = nl (ls.take j) ++ (l ++ (10 :: nl (ls.drop (j + 1)))) := by
  have h1 : nl ls = nl (ls.take (j + 1)) ++ nl (ls.drop (j + 1)) := by rw [← nl_append, List.take_append_drop]
  rw [h1, nl_next h]
  simp
theorem cut_line {ls : List (List UInt8)} {j : Nat} {l : List UInt8} (h : ls[j]? = some l) : ((nl ls).drop (nl (ls.take j)).length).take l.length = l := by
  rw [nl_split h, List.drop_left, List.take_left]
theorem strR : (Tryd.prog.info? tS1).map (fun i => (i.zero, i.size, i.bytes)) = some (some (.string ⟨#[]⟩), 1, 16) := by kernel_rfl
theorem byte_at {l : List UInt8} {i : Nat} {b : UInt8} (h : l[i]? = some b) {hi : i < (⟨l.toArray⟩ : ByteArray).size} : (⟨l.toArray⟩ : ByteArray)[i]'hi = b := by
  obtain ⟨h1, h2⟩ := List.getElem?_eq_some_iff.1 h
  exact h2
set_option maxHeartbeats 4000000 in
set_option maxRecDepth 100000 in
theorem lawlines_c {w : World} {ls : List (List UInt8)} (hno : ∀ l ∈ ls, noNL l) (hn : ls.length ≤ 100000) (hlen : (nl ls).length ≤ 100000000) :
    Calls Tryd.prog 10 #[.string ⟨(nl ls).toArray⟩] w fun e w' => ∃ s, e = .returned (.tuple #[s, .bool true]) ∧ w'.ownsRow w.heap.size tS1 1 s ls.length (strsV ls) ∧ Below w.heap.size w w' := by
  have HNO := Lib.hid hno
  clear hno
  go_enter Tryd.func10, Tryd.ntmps10
  go_wp2_with fail
  go_loopg [4, 5, 6] (nl ls).length (fun g s4 s5 s6 w8 => ∃ j k : Nat, s6 = .int .i64 (((nl (ls.take j)).length + k : Nat) : Int) ∧ s5 = .int .i64 (((nl (ls.take j)).length : Nat) : Int) ∧ g = (nl ls).length - ((nl (ls.take j)).length + k) ∧ j ≤ ls.length ∧ (∀ l, ls[j]? = some l → k ≤ l.length) ∧ (j = ls.length → k = 0) ∧ w8.ownsRow w.heap.size tS1 1 s4 j (strsV (ls.take j)) ∧ Below w.heap.size w w8)
  case atStart => exact ⟨0, 0, rfl, rfl, rfl, Nat.zero_le _, fun _ _ => Nat.zero_le _, fun _ => rfl, World.ownsRow_nil _ _ _ _, Below.refl _ _⟩
  case round =>
    obtain ⟨j, k, rfl, rfl, rfl, hj, hk, hk0, hown, hbel⟩ := hrel
    have HO := Lib.hid hown
    have HB := Lib.hid hbel
    clear hown hbel
    rcases Nat.lt_or_ge j ls.length with hlt | hge
    · obtain ⟨l, hl⟩ : ∃ l, ls[j]? = some l := ⟨_, List.getElem?_eq_getElem hlt⟩
      have hkl := hk l hl
      have hsp := congrArg List.length (nl_split hl)
      simp only [List.length_append, List.length_cons] at hsp
      have hat := nl_at hl k hkl
      have h0I : (0 : Int) ≤ (((nl (ls.take j)).length + k : Nat) : Int) := Int.natCast_nonneg _
      have hin : (nl (ls.take j)).length + k < (nl ls).length := by omega
      have hinI : (((nl (ls.take j)).length + k : Nat) : Int) < ((nl ls).length : Int) := by omega
      have HL := Lib.hid hl
      have hcut := cut_line hl
      have HCUT := Lib.hid hcut
      have HNX := Lib.hid (nl_next hl)
      have HSP := Lib.hid hsp
      rcases Nat.lt_or_ge k l.length with hkl2 | hkg
      · obtain ⟨b, hb⟩ : ∃ b, l[k]? = some b := ⟨_, List.getElem?_eq_getElem hkl2⟩
        have hb10 : b ≠ 10 := HNO.out l (List.mem_of_getElem? hl) b (List.mem_of_getElem? hb)
        rw [List.getElem?_append_left hkl2, hb] at hat
        have hby : (⟨(nl ls).toArray⟩ : ByteArray)[(nl (ls.take j)).length + k]'(by show _ < ((nl ls).toArray).size; simpa using hin) = b := byte_at hat
        have hb2 : ((b.toNat : Int) == 10) = false := by
          rw [beq_eq_false_iff_ne]
          intro e
          apply hb10
          apply UInt8.toNat.inj
          have : b.toNat = 10 := by exact_mod_cast e
          rw [this]; rfl
        clear hat hl hsp hb hkl hk hcut
        generalize hP : (nl (ls.take j)).length = P at *
        have HP := Lib.hid hP
        clear hP
        go_wp2_with fail
        go_roundg ((nl ls).length - (P + (k + 1)))
        case measure => omega
        case rel => exact ⟨j, k + 1, by rw [HP.out]; simp; omega, by rw [HP.out], by rw [HP.out], hj, fun l2 h2 => by rw [HL.out] at h2; cases h2; omega, fun e => by omega, HO.out, HB.out⟩
      · obtain rfl : k = l.length := by omega
        rw [List.getElem?_append_right (Nat.le_refl _), Nat.sub_self] at hat
        have hat : (nl ls)[(nl (ls.take j)).length + l.length]? = some 10 := hat
        have hby : (⟨(nl ls).toArray⟩ : ByteArray)[(nl (ls.take j)).length + l.length]'(by show _ < ((nl ls).toArray).size; simpa using hin) = 10 := byte_at hat
        have hext : (⟨(nl ls).toArray⟩ : ByteArray).extract (nl (ls.take j)).length ((nl (ls.take j)).length + l.length) = ⟨l.toArray⟩ := by
          apply ByteArray.ext
          rw [ByteArray.data_extract, List.extract_toArray, List.extract_eq_take_drop, Nat.add_sub_cancel_left, hcut]
        clear hat hl hsp hk hkl hcut
        generalize hP : (nl (ls.take j)).length = P at *
        have HP := Lib.hid hP
        clear hP
        go_wp2_with (at_builtin; refine wpList_appendN rfl _ _ 32 rfl w.heap.size tS1 (.string ⟨#[]⟩) 1 16 Tryd.underlying32 strR rfl (by decide) _ _ _ rfl (HO.out.alloc _) [.string ⟨l.toArray⟩] _ 1 rfl (at_alloc rfl) rfl (by simp [Value.oneCell']) (by omega) (by omega) (HB.out.alloc HB.out.size _) (by have := HB.out.size; simp; omega) ?_; intro v1 w2 hown1 hbel1)
        have hlen2 : (nl (ls.take (j + 1))).length = P + l.length + 1 := by rw [HNX.out, List.length_append, HP.out, List.length_append]; rfl
        have HL2 := Lib.hid hlen2
        have hst : strsV (ls.take (j + 1)) = strsV (ls.take j) ++ [.string ⟨l.toArray⟩] := by rw [List.take_add_one, HL.out]; exact strsV_push _ _
        have HST := Lib.hid hst
        clear hlen2 hst
        go_roundg ((nl ls).length - (P + (l.length + 1)))
        case measure => omega
        case rel => exact ⟨j + 1, 0, by rw [HL2.out]; simp, by rw [HL2.out]; simp, by rw [HL2.out]; omega, by omega, fun _ _ => Nat.zero_le _, fun _ => rfl, by rw [HST.out]; exact hown1, hbel1⟩
    · obtain rfl : j = ls.length := by omega
      obtain rfl := hk0 rfl
      rw [List.take_length] at HO
      rw [List.take_length]
      clear hk hk0
      go_wp2_with fail
      go_ret2
      exact ⟨_, by simp, HO.out, HB.out⟩
end Go.Proofs.YtglmonlofejcgaaDoor.txt
