/- pawnshopref12.Written and Func: the text of a sound function with a number; else why not. -/
import Derived.Test.YtglmonlofejcgaaGreatDoorTextL
set_option maxHeartbeats 4000000
set_option maxRecDepth 100000
open List renaming length_map → apu
set_option linter.unusedVariables false
namespace Go.Proofs.YtglmonlofejcgaaGreatDoor
namespace txt
open Go.RowKit Am loan bld
theorem QE : ∀ ls : List (List UInt8), (ls.map fun l => [Value.string ⟨l.toArray⟩]).flatten = Dj ls
 | [] => rfl
 | a :: l => by rw [List.map_cons, List.flatten_cons, QE l]; rfl
theorem a2J {ls : List (List UInt8)} {i : Nat} {l : List UInt8} (h : ls[i]? = some l) : nl (ls.take (i + 1)) = nl (ls.take i) ++ (l ++ [10]) := by
 rw [List.take_add_one, h]
 exact qh _ _
theorem a0K {ls : List (List UInt8)} {i : Nat} {l : List UInt8} (h : ls[i]? = some l) : (nl (ls.take i)).length + l.length + 1 <= (nl ls).length := by
 have h1 : nl ls = nl (ls.take (i + 1)) ++ nl (ls.drop (i + 1)) := by rw [<- Gg, List.take_append_drop]
 rw [h1, a2J h]
 simp only [List.length_append, List.length_cons, List.length_nil]
 omega
theorem YC.more {w w1 : World} {D : FnD} (hC : YC w D) (hb : Below w.heap.size w w1) : YC w1 D :=
 ⟨fun n h0 h1 W hW => hC.nu n h0 h1 W (hb.trans (hW.mono hb.size)), hC.nm, fun t ht => by obtain ⟨j, h1, h2⟩ := hC.ty t ht; exact ⟨j, h1, fun W hW => h2 W (hb.trans (hW.mono hb.size))⟩, fun b hb1 s hs W hW => hC.st b hb1 s hs W (hb.trans (hW.mono hb.size)), fun b hb1 W hW => hC.jm b hb1 W (hb.trans (hW.mono hb.size))⟩
theorem RF {w : World} {v : Value} {D : FnD} {n : Int} (hF : aV w v D) (hL : Lim D) (hC : YC w D) (hn : -9223372036854775808 <= n /\ n <= 9223372036854775807) :
  Calls Tryz.prog 25 #[v, .int .i64 n] w (bld.Ans w (.string ⟨(textF D n).toArray⟩)) := by
 have hW := fun w1 (hb : Below w.heap.size w w1) => aku (hF.frz hb.block) hL (n := n) (hC.more hb) hn
 have hT := kM hL n
 unfold textF at hT |-
 have hcnt : (lg D n).length <= 1000 := by
  have := FC hL n D.bs.length
  have hb := hL.b
  have : (lg D n).length <= 17 + 26 * D.bs.length := this
  omega
 rw [hF.eq] at hW |-
 generalize lg D n = ls at *
 have HW := Lib.hid hW
 have HT := Lib.hid hT
 clear hW hF hL hC hT
 have b0 : Below w.heap.size w (w.alloc (.cells #[.int .i64 D.p, .bool D.u, D.lv, D.bv] tFn)) := (Below.refl _ _).alloc (Nat.le_refl _) _
 go_enter Tryz.func25, Tryz.ntmps25
 go_upto_region 3 with (go_at_call 45; refine (HW.out _ b0).mono ?_; rintro e w1 ⟨s, rfl, hown, b1⟩)
 obtain ⟨A, c, rfl, hr⟩ := gY.own (els := ls.map fun l => [Value.string ⟨l.toArray⟩]) (by rw [QE]; exact hown) (apu _) (by decide) (fun x hx => by obtain ⟨n, _, rfl⟩ := List.mem_map.1 hx; rfl)
 rw [apu] at *
 have HB := Lib.hid (b0.trans (b1.mono b0.size))
 have HR := Lib.hid hr
 clear hown hr b1 b0
 go_wp2_with fail
 go_loopg [5, 7] ls.length (fun g s5 s7 w8 => ∃ i : Nat, s7 = .int .i64 i /\ i <= ls.length /\ g = ls.length - i /\ s5 = .string ⟨(nl (ls.take i)).toArray⟩ /\ w8 = w1)
 case atStart => exact ⟨0, rfl, Nat.zero_le _, rfl, rfl, rfl⟩
 case round =>
  obtain ⟨i, rfl, hi, rfl, rfl, rfl⟩ := hrel
  have h0I : (0 : Int) <= (i : Int) := Int.natCast_nonneg _
  rcases Nat.lt_or_ge i ls.length with hlt | hge
  ·have hltI : (i : Int) < (ls.length : Int) := by omega
   obtain ⟨l, hl⟩ : ∃ l, ls[i]? = some l := ⟨_, List.getElem?_eq_getElem hlt⟩
   obtain ⟨g, o, eA, hg, hc⟩ := HR.out i [.string ⟨l.toArray⟩] (by rw [List.getElem?_map, hl]; rfl)
   subst eA
   have p0 := hc 0 _ rfl
   simp only [Nat.mul_one, Nat.add_zero] at p0
   have hle := a0K hl
   have hT := HT.out
   have hc1 : ¬ 9223372036854775807 < l.length + 1 := by omega
   have hc2 : ¬ 9223372036854775807 < (nl (ls.take i)).length + (l.length + 1) := by omega
   have HTK := Lib.hid (a2J hl)
   clear hc hl hT hle
   go_wp2_with fail
   go_roundg (ls.length - (i + 1))
   case measure => omega
   case rel =>
    refine ⟨i + 1, by simp, by omega, rfl, ?_, rfl⟩
    rw [HTK.out]
    (congr 1) <;> (apply ByteArray.ext; simp)
  ·obtain rfl : i = ls.length := by omega
   rw [List.take_length]
   go_wp2_with fail
   go_ret
   exact ⟨rfl, HB.out⟩
end txt
end Go.Proofs.YtglmonlofejcgaaGreatDoor
