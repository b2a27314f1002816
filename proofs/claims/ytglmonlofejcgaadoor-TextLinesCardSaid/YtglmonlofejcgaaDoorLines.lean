/- The law's own lines: the lines of a text, each of which ends, as a new list. -/
import Derived.Test.YtglmonlofejcgaaDoorTextQ
import Derived.Test.YtglmonlofejcgaaDoorLoanK
import Derived.Test.YtglmonlofejcgaaDoorTextX
import Derived.Test.YtglmonlofejcgaaDoorProg
import Derived.Deep.DeepCutAuto
namespace Go.Proofs.YtglmonlofejcgaaDoor.txt
open Go.RowKit Go.Proofs.YtglmonlofejcgaaDoor Go.Proofs.YtglmonlofejcgaaDoor.Am Go.Proofs.YtglmonlofejcgaaDoor.loan Go.Proofs.YtglmonlofejcgaaDoor.bld
set_option linter.unusedVariables false
def strsV (ls : List (List UInt8)) : List Value := ls.map fun l => Value.string ⟨l.toArray⟩
theorem strsV_push (ls : List (List UInt8)) (l : List UInt8) : strsV (ls ++ [l]) = strsV ls ++ [.string ⟨l.toArray⟩] := by simp [strsV]
theorem nl_next {ls : List (List UInt8)} {j : Nat} {l : List UInt8} (h : ls[j]? = some l) : nl (ls.take (j + 1)) = nl (ls.take j) ++ (l ++ [10]) := by
 rw [List.take_add_one, h]
 exact nl_push _ _
theorem nl_split {ls : List (List UInt8)} {j : Nat} {l : List UInt8} (h : ls[j]? = some l) : nl ls = nl (ls.take j) ++ (l ++ (10 :: nl (ls.drop (j + 1)))) := by
 have h1 : nl ls = nl (ls.take (j + 1)) ++ nl (ls.drop (j + 1)) := by rw [← nl_append, List.take_append_drop]
 rw [h1, nl_next h]
 simp
theorem cut_line {ls : List (List UInt8)} {j : Nat} {l : List UInt8} (h : ls[j]? = some l) : ((nl ls).drop (nl (ls.take j)).length).take l.length = l := by
 rw [nl_split h, List.drop_left, List.take_left]
theorem strR : (Tryd.prog.info? tS1).map (fun i => (i.zero, i.size, i.bytes)) = some (some (.string ⟨#[]⟩), 1, 16) := by kernel_rfl
theorem byte_at {l : List UInt8} {i : Nat} {b : UInt8} (h : l[i]? = some b) {hi : i < (⟨l.toArray⟩ : ByteArray).size} : (⟨l.toArray⟩ : ByteArray)[i]'hi = b := by
 obtain ⟨h1, h2⟩ := List.getElem?_eq_some_iff.1 h
 exact h2
set_option maxHeartbeats 4000000 in
set_option maxRecDepth 100000 in
theorem lawlines_c {w : World} {ls : List (List UInt8)} (hno : ∀ l ∈ ls, noNL l) (hn : ls.length ≤ 100000) (hlen : (nl ls).length ≤ 100000000) :
  Calls Tryd.prog 10 #[.string ⟨(nl ls).toArray⟩] w fun e w' => ∃ s, e = .returned (.tuple #[s, .bool true]) ∧ w'.ownsRow w.heap.size tS1 1 s ls.length (strsV ls) ∧ Below w.heap.size w w' := by
 have HNO := Lib.hid hno
 clear hno
 go_enter Tryd.func10, Tryd.ntmps10
 go_wp2_with fail
 go_loopg [4, 5, 6] (nl ls).length (fun g s4 s5 s6 w8 => ∃ j k : Nat, s6 = .int .i64 (((nl (ls.take j)).length + k : Nat) : Int) ∧ s5 = .int .i64 (((nl (ls.take j)).length : Nat) : Int) ∧ g = (nl ls).length - ((nl (ls.take j)).length + k) ∧ j ≤ ls.length ∧ (∀ l, ls[j]? = some l → k ≤ l.length) ∧ (j = ls.length → k = 0) ∧ w8.ownsRow w.heap.size tS1 1 s4 j (strsV (ls.take j)) ∧ Below w.heap.size w w8)
 case atStart => exact ⟨0, 0, rfl, rfl, rfl, Nat.zero_le _, fun _ _ => Nat.zero_le _, fun _ => rfl, World.ownsRow_nil _ _ _ _, Below.refl _ _⟩
 case round =>
  obtain ⟨j, k, rfl, rfl, rfl, hj, hk, hk0, hown, hbel⟩ := hrel
  have HO := Lib.hid hown
  have HB := Lib.hid hbel
  clear hown hbel
  rcases Nat.lt_or_ge j ls.length with hlt | hge
  ·obtain ⟨l, hl⟩ : ∃ l, ls[j]? = some l := ⟨_, List.getElem?_eq_getElem hlt⟩
   have hkl := hk l hl
   have hsp := congrArg List.length (nl_split hl)
   simp only [List.length_append, List.length_cons] at hsp
   have hat := nl_at hl k hkl
   have h0I : (0 : Int) ≤ (((nl (ls.take j)).length + k : Nat) : Int) := Int.natCast_nonneg _
   have hin : (nl (ls.take j)).length + k < (nl ls).length := by omega
   have hinI : (((nl (ls.take j)).length + k : Nat) : Int) < ((nl ls).length : Int) := by omega
   have HL := Lib.hid hl
   have hcut := cut_line hl
   have HCUT := Lib.hid hcut
   have HNX := Lib.hid (nl_next hl)
   have HSP := Lib.hid hsp
   rcases Nat.lt_or_ge k l.length with hkl2 | hkg
   ·obtain ⟨b, hb⟩ : ∃ b, l[k]? = some b := ⟨_, List.getElem?_eq_getElem hkl2⟩
    have hb10 : b ≠ 10 := HNO.out l (List.mem_of_getElem? hl) b (List.mem_of_getElem? hb)
    rw [List.getElem?_append_left hkl2, hb] at hat
    have hby : (⟨(nl ls).toArray⟩ : ByteArray)[(nl (ls.take j)).length + k]'(by show _ < ((nl ls).toArray).size; simpa using hin) = b := byte_at hat
    have hb2 : ((b.toNat : Int) == 10) = false := by
     rw [beq_eq_false_iff_ne]
     intro e
     apply hb10
     apply UInt8.toNat.inj
     have : b.toNat = 10 := by exact_mod_cast e
     rw [this]; rfl
    clear hat hl hsp hb hkl hk hcut
    generalize hP : (nl (ls.take j)).length = P at *
    have HP := Lib.hid hP
    clear hP
    go_wp2_with fail
    go_roundg ((nl ls).length - (P + (k + 1)))
    case measure => omega
    case rel => exact ⟨j, k + 1, by rw [HP.out]; simp; omega, by rw [HP.out], by rw [HP.out], hj, fun l2 h2 => by rw [HL.out] at h2; cases h2; omega, fun e => by omega, HO.out, HB.out⟩
   ·obtain rfl : k = l.length := by omega
    rw [List.getElem?_append_right (Nat.le_refl _), Nat.sub_self] at hat
    have hat : (nl ls)[(nl (ls.take j)).length + l.length]? = some 10 := hat
    have hby : (⟨(nl ls).toArray⟩ : ByteArray)[(nl (ls.take j)).length + l.length]'(by show _ < ((nl ls).toArray).size; simpa using hin) = 10 := byte_at hat
    have hext : (⟨(nl ls).toArray⟩ : ByteArray).extract (nl (ls.take j)).length ((nl (ls.take j)).length + l.length) = ⟨l.toArray⟩ := by
     apply ByteArray.ext
     rw [ByteArray.data_extract, List.extract_toArray, List.extract_eq_take_drop, Nat.add_sub_cancel_left, hcut]
    clear hat hl hsp hk hkl hcut
    generalize hP : (nl (ls.take j)).length = P at *
    have HP := Lib.hid hP
    clear hP
    go_wp2_with (at_builtin; refine wpList_appendN rfl _ _ 32 rfl w.heap.size tS1 (.string ⟨#[]⟩) 1 16 Tryd.underlying32 strR rfl (by decide) _ _ _ rfl (HO.out.alloc _) [.string ⟨l.toArray⟩] _ 1 rfl (at_alloc rfl) rfl (by simp [Value.oneCell']) (by omega) (by omega) (HB.out.alloc HB.out.size _) (by have := HB.out.size; simp; omega) ?_; intro v1 w2 hown1 hbel1)
    have hlen2 : (nl (ls.take (j + 1))).length = P + l.length + 1 := by rw [HNX.out, List.length_append, HP.out, List.length_append]; rfl
    have HL2 := Lib.hid hlen2
    have hst : strsV (ls.take (j + 1)) = strsV (ls.take j) ++ [.string ⟨l.toArray⟩] := by rw [List.take_add_one, HL.out]; exact strsV_push _ _
    have HST := Lib.hid hst
    clear hlen2 hst
    go_roundg ((nl ls).length - (P + (l.length + 1)))
    case measure => omega
    case rel => exact ⟨j + 1, 0, by rw [HL2.out]; simp, by rw [HL2.out]; simp, by rw [HL2.out]; omega, by omega, fun _ _ => Nat.zero_le _, fun _ => rfl, by rw [HST.out]; exact hown1, hbel1⟩
  ·obtain rfl : j = ls.length := by omega
   obtain rfl := hk0 rfl
   rw [List.take_length] at HO
   rw [List.take_length]
   clear hk hk0
   go_wp2_with fail
   go_ret2
   exact ⟨_, by simp, HO.out, HB.out⟩
end Go.Proofs.YtglmonlofejcgaaDoor.txt
