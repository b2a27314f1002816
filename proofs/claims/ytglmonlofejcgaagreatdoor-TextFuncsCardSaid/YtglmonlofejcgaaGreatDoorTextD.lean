/- pawnshopref12.Written and Func: the text of a sound function with a number; else why not. What the reference's Func calls: numbers, names of types, statements, jumps. -/
import Derived.Test.YtglmonlofejcgaaGreatDoorTextL
import Derived.Test.YtglmonlofejcgaaGreatDoorTextC
set_option linter.unusedVariables false
namespace Go.Proofs.YtglmonlofejcgaaGreatDoor.txt
open Go.RowKit Am loan bld
theorem Oo : ∀ ls : List (List UInt8), (ls.map fun l => [Value.string ⟨l.toArray⟩]).flatten = Ce ls
 | [] => rfl
 | a :: l => by rw [List.map_cons, List.flatten_cons, Oo l]; rfl
theorem ZT {ls : List (List UInt8)} {i : Nat} {l : List UInt8} (h : ls[i]? = some l) : nl (ls.take (i + 1)) = nl (ls.take i) ++ (l ++ [10]) := by
 rw [List.take_add_one, h]
 exact oO _ _
theorem Yi {ls : List (List UInt8)} {i : Nat} {l : List UInt8} (h : ls[i]? = some l) : (nl (ls.take i)).length + l.length + 1 <= (nl ls).length := by
 have h1 : nl ls = nl (ls.take (i + 1)) ++ nl (ls.drop (i + 1)) := by rw [<- Qr, List.take_append_drop]
 rw [h1, ZT h]
 simp only [List.length_append, List.length_cons, List.length_nil]
 omega
theorem Xy.more {w w1 : World} {D : FnD} (hC : Xy w D) (hb : Below w.heap.size w w1) : Xy w1 D :=
 ⟨fun n h0 h1 W hW => hC.nu n h0 h1 W (hb.trans (hW.mono hb.size)), hC.nm, fun t ht => by obtain ⟨j, h1, h2⟩ := hC.ty t ht; exact ⟨j, h1, fun W hW => h2 W (hb.trans (hW.mono hb.size))⟩, fun b hb1 s hs W hW => hC.st b hb1 s hs W (hb.trans (hW.mono hb.size)), fun b hb1 W hW => hC.jm b hb1 W (hb.trans (hW.mono hb.size))⟩
set_option maxHeartbeats 4000000 in
set_option maxRecDepth 100000 in
theorem a3M {w : World} {v : Value} {D : FnD} {n : Int} (hF : aT w v D) (hL : Lim D) (hC : Xy w D) (hn : -9223372036854775808 <= n /\ n <= 9223372036854775807) :
  Calls Tryz.prog 25 #[v, .int .i64 n] w (bld.Ans w (.string ⟨(textF D n).toArray⟩)) := by
 have hW := fun w1 (hb : Below w.heap.size w w1) => ahP (hF.frz hb.block) hL (n := n) (hC.more hb) hn
 have hT := Qs hL n
 unfold textF at hT |-
 have hcnt : (BK D n).length <= 1000 := by
  have := Dl hL n D.bs.length
  have hb := hL.b
  have : (BK D n).length <= 17 + 26 * D.bs.length := this
  omega
 rw [hF.eq] at hW |-
 generalize BK D n = ls at *
 have HW := Lib.hid hW
 have HT := Lib.hid hT
 clear hW hF hL hC hT
 have b0 : Below w.heap.size w (w.alloc (.cells #[.int .i64 D.p, .bool D.u, D.lv, D.bv] tFn)) := (Below.refl _ _).alloc (Nat.le_refl _) _
 go_enter Tryz.func25, Tryz.ntmps25
 go_upto_region 3 with (go_at_call 45; refine (HW.out _ b0).mono ?_; rintro e w1 ⟨s, rfl, hown, b1⟩)
 obtain ⟨A, c, rfl, hr⟩ := pU.own (els := ls.map fun l => [Value.string ⟨l.toArray⟩]) (by rw [Oo]; exact hown) (List.length_map _) (by decide) (fun x hx => by obtain ⟨n, _, rfl⟩ := List.mem_map.1 hx; rfl)
 rw [List.length_map] at *
 have HB := Lib.hid (b0.trans (b1.mono b0.size))
 have HR := Lib.hid hr
 clear hown hr b1 b0
 go_wp2_with fail
 go_loopg [5, 7] ls.length (fun g s5 s7 w8 => ∃ i : Nat, s7 = .int .i64 i /\ i <= ls.length /\ g = ls.length - i /\ s5 = .string ⟨(nl (ls.take i)).toArray⟩ /\ w8 = w1)
 case atStart => exact ⟨0, rfl, Nat.zero_le _, rfl, rfl, rfl⟩
 case round =>
  obtain ⟨i, rfl, hi, rfl, rfl, rfl⟩ := hrel
  have h0I : (0 : Int) <= (i : Int) := Int.natCast_nonneg _
  rcases Nat.lt_or_ge i ls.length with hlt | hge
  ·have hltI : (i : Int) < (ls.length : Int) := by omega
   obtain ⟨l, hl⟩ : ∃ l, ls[i]? = some l := ⟨_, List.getElem?_eq_getElem hlt⟩
   obtain ⟨g, o, eA, hg, hc⟩ := HR.out i [.string ⟨l.toArray⟩] (by rw [List.getElem?_map, hl]; rfl)
   subst eA
   have p0 := hc 0 _ rfl
   simp only [Nat.mul_one, Nat.add_zero] at p0
   have hle := Yi hl
   have hT := HT.out
   have hc1 : ¬ 9223372036854775807 < l.length + 1 := by omega
   have hc2 : ¬ 9223372036854775807 < (nl (ls.take i)).length + (l.length + 1) := by omega
   have HTK := Lib.hid (ZT hl)
   clear hc hl hT hle
   go_wp2_with fail
   go_roundg (ls.length - (i + 1))
   case measure => omega
   case rel =>
    refine ⟨i + 1, by simp, by omega, rfl, ?_, rfl⟩
    rw [HTK.out]
    (congr 1) <;> (apply ByteArray.ext; simp)
  ·obtain rfl : i = ls.length := by omega
   rw [List.take_length]
   go_wp2_with fail
   go_ret
   exact ⟨rfl, HB.out⟩
set_option maxHeartbeats 4000000 in
set_option maxRecDepth 100000 in
theorem a5X {w : World} {v : Value} {D : FnD} (h : aT w v D) {x n : Int} (hx : x ≠ 0) (hC : kK 24 w v x) : Calls Tryz.prog 10 #[v, .int .i64 n] w (Oa [] x w) := by
 unfold kK at hC
 rw [h.eq] at hC |-
 have b0 : Below w.heap.size w (w.alloc (.cells #[.int .i64 D.p, .bool D.u, D.lv, D.bv] tFn)) := (Below.refl _ _).alloc (Nat.le_refl _) _
 have B0 : Box (w.alloc (.cells #[.int .i64 D.p, .bool D.u, D.lv, D.bv] tFn)) w.heap.size tFn (.int .i64 D.p) (.bool D.u) D.lv D.bv := Box.mk rfl
 have hx' : (x != 0) = true := by simpa using hx
 have HC := Lib.hid hC
 clear hC h
 go_enter Tryz.func10, Tryz.ntmps10
 go_upto_region 2 with (go_at_call 24; refine (HC.out _ b0).mono ?_; rintro e w1 ⟨rfl, b1⟩)
 have b01 := b0.trans (b1.mono b0.size)
 obtain ⟨y0, y1, y2, y3⟩ := (B0.below b1).cells
 have HB := Lib.hid b01
 clear b0 b1 b01 B0
 go_wp2_with (go_at_call 24; refine (HC.out _ HB.out).mono ?_; rintro e w2 ⟨rfl, b2⟩)
 go_ret2
 exact ⟨rfl, HB.out.trans (b2.mono HB.out.size)⟩
set_option maxHeartbeats 4000000 in
set_option maxRecDepth 100000 in
theorem a2L {w : World} {v : Value} {D : FnD} (h : aT w v D) {n : Int} (hn : n < 0 \/ 8 <= n) (hC : kK 24 w v 0) : Calls Tryz.prog 10 #[v, .int .i64 n] w (Oa [] 2 w) := by
 unfold kK at hC
 rw [h.eq] at hC |-
 have b0 : Below w.heap.size w (w.alloc (.cells #[.int .i64 D.p, .bool D.u, D.lv, D.bv] tFn)) := (Below.refl _ _).alloc (Nat.le_refl _) _
 have HC := Lib.hid hC
 clear hC h
 rcases Int.lt_or_le n 0 with h0 | h0
 ·clear hn
  go_enter Tryz.func10, Tryz.ntmps10
  go_wp2_with (go_at_call 24; refine (HC.out _ b0).mono ?_; rintro e w1 ⟨rfl, b1⟩)
  go_ret2
  exact ⟨rfl, b0.trans (b1.mono b0.size)⟩
 ·have h8 : 8 <= n := by omega
  have hd0 : ¬ n < 0 := by omega
  have hd : decide (n >= 8) = true := decide_eq_true h8
  clear hn
  go_enter Tryz.func10, Tryz.ntmps10
  go_wp2_with (go_at_call 24; refine (HC.out _ b0).mono ?_; rintro e w1 ⟨rfl, b1⟩)
  go_ret2
  exact ⟨rfl, b0.trans (b1.mono b0.size)⟩
set_option maxHeartbeats 4000000 in
set_option maxRecDepth 100000 in
theorem agx {w : World} {v : Value} {D : FnD} (h : aT w v D) (hL : Lim D) (hK : Xy w D) {n : Int} (h0 : 0 <= n) (h8 : n < 8) (hC : kK 24 w v 0) : Calls Tryz.prog 10 #[v, .int .i64 n] w (Oa (textF D n) 0 w) := by
 have hW := fun w1 (hb : Below w.heap.size w w1) => a3M (h.frz hb.block) hL (n := n) (hK.more hb) (by omega)
 unfold kK at hC
 rw [h.eq] at hC hW |-
 have b0 : Below w.heap.size w (w.alloc (.cells #[.int .i64 D.p, .bool D.u, D.lv, D.bv] tFn)) := (Below.refl _ _).alloc (Nat.le_refl _) _
 have B0 : Box (w.alloc (.cells #[.int .i64 D.p, .bool D.u, D.lv, D.bv] tFn)) w.heap.size tFn (.int .i64 D.p) (.bool D.u) D.lv D.bv := Box.mk rfl
 have HC := Lib.hid hC
 have HW := Lib.hid hW
 have hd0 : ¬ n < 0 := by omega
 have hd1 : ¬ 8 <= n := by omega
 have hd : decide (n >= 8) = false := decide_eq_false hd1
 clear hC hW h hL hK h0 h8
 go_enter Tryz.func10, Tryz.ntmps10
 go_upto_region 3 with (go_at_call 24; refine (HC.out _ b0).mono ?_; rintro e w1 ⟨rfl, b1⟩)
 have b01 := b0.trans (b1.mono b0.size)
 obtain ⟨y0, y1, y2, y3⟩ := (B0.below b1).cells
 have HB := Lib.hid b01
 clear b0 b1 b01 B0
 go_wp2_with (go_at_call 25; refine (HW.out _ HB.out).mono ?_; rintro e w2 ⟨rfl, b2⟩)
 go_ret2
 exact ⟨rfl, HB.out.trans (b2.mono HB.out.size)⟩
open Go.RowKit Am loan bld
set_option maxRecDepth 100000 in
theorem alJ (n : Int) (h0 : -9223372036854775808 <= n) (h1 : n <= 9223372036854775807) (w : World) : Calls Tryz.prog 83 #[.int .i64 n] w (bld.Ans w (.string ⟨(dD n).toArray⟩)) := by
 have H := Lib.hid (fun W => FH n h0 h1 W)
 go_enter Tryz.func83, Tryz.ntmps83
 go_wp2_with (go_at_call 111; refine (H.out _).mono ?_; rintro e w1 ⟨rfl, b1⟩)
 go_ret
 exact ⟨rfl, b1⟩
set_option maxRecDepth 100000 in
theorem afA (W : World) : Calls Tryz.prog 84 #[] W fun e W' => ∃ g, e = .returned (.slice (some ⟨g, 0, none⟩) 8 8) /\ g < W'.heap.size /\ (∀ i s, Mc[i]? = some s -> W'.cell? ⟨g, i, none⟩ = some (.string ⟨s.toArray⟩)) /\ Below W.heap.size W W' := by
 go_enter Tryz.func84, Tryz.ntmps84
 go_wp2_with fail
 go_ret
 refine ⟨W.heap.size, rfl, by simp, fun i s hi => ?_, (Below.refl _ _).alloc (Nat.le_refl _) _⟩
 rw [cell_of_row _ W.heap.size i _ tS1 (0, 0) (cu rfl)]
 have h8 : i < 8 := (List.getElem?_eq_some_iff.1 hi).1
 match i, h8, hi with
 | 0, _, hi => cases hi; rfl
 | 1, _, hi => cases hi; rfl
 | 2, _, hi => cases hi; rfl
 | 3, _, hi => cases hi; rfl
 | 4, _, hi => cases hi; rfl
 | 5, _, hi => cases hi; rfl
 | 6, _, hi => cases hi; rfl
 | 7, _, hi => cases hi; rfl
def ah6 (p : Nat × Nat) : Nat := if p.2 = 0 then p.1 - 1 else 2 * (p.1 - 2) + (p.2 - 1)
theorem UO : SQ.all (fun p => vg (.a (.s (.int .i64 (ah6 p : Nat)))) (a3p 85 p)) = true := by kernel_rfl
theorem a6r : ∀ p ∈ SQ, Mc[ah6 p]? = some (uH (a5q p)) := by decide
theorem aaA {t : List Value} (h : ak Kd.ok [.i .u8, .i .u8] t) (hk : ou t = true) : ∃ j : Nat, Mc[j]? = some (uH t) /\ ∀ W, Calls Tryz.prog 85 #[.agg t.toArray] W (bld.Ans W (.int .i64 (j : Nat))) := by
 obtain ⟨p, hp, rfl⟩ := Qo h hk
 refine ⟨ah6 p, a6r p hp, fun W => (Ov W (List.all_eq_true.1 UO p hp)).mono ?_⟩
 rintro e w' ⟨u, rfl, ⟨r, hu⟩, hb⟩
 exact ⟨by rw [show u = .int .i64 (ah6 p : Nat) from hu], hb⟩
theorem agS {w : World} {v : Value} {D : FnD} (h : aT w v D) (kt : gq w) (hc : check.oV D = 0) : Xy w D := by
 have k := og hc
 refine ⟨fun n h0 h1 W _ => alJ n h0 h1 W, afA, fun t ht => ?_, fun b hb s hs W hW => ?_, fun b hb W hW => ?_⟩
 ·obtain ⟨j, h1, h2⟩ := aaA (h.lkd t ht) (k.ty t ht)
  exact ⟨j, h1, fun W _ => h2 W⟩
 ·exact Xn _ ((h.blk b hb).skd s hs) (k.st b hb s hs) W (qg kt hW)
 ·exact akl (qg kt hW) (wu ((h.frz hW.block).blk b hb)) (k.jm b hb)
end Go.Proofs.YtglmonlofejcgaaGreatDoor.txt
