/- strings.Builder: copyCheck, WriteString, WriteByte at a builder of the call's own. (The shelf's forms do not lie at a dump whose copyCheck ends in a refusal: walked here.) text.line, and the closure that writes a line behind two blanks. text.function$1: a line behind two blanks. -/
import Derived.Test.YtglmonlofejcgaaGreatDoorTextT
import Derived.Test.YtglmonlofejcgaaGreatDoorShelfN
import Derived.Test.YtglmonlofejcgaaGreatDoorRegC
import Derived.Deep.DeepCutAuto
import Derived.Deep.MidRow
set_option linter.unusedVariables false
namespace Go.Proofs.YtglmonlofejcgaaGreatDoor.bld
open Go.RowKit Am loan
abbrev tB : TypeId := 66
abbrev tU : TypeId := 5
theorem akG : (Tryz.prog.info? 66).map (·.size) = some 2 := by kernel_rfl
set_option maxHeartbeats 1000000 in
set_option maxRecDepth 100000 in
theorem YT (b : Nat) (w : World) (h0 : w.cell? ⟨b, 0, none⟩ = some (.pointer (some ⟨b, 0, none⟩))) :
  Calls Tryz.prog 99 #[.pointer (some ⟨b, 0, none⟩)] w fun e w' => e = .returned (.tuple #[]) /\ w' = w := by
 obtain ⟨j, hj, _⟩ := Option.map_eq_some_iff.1 akG
 go_enter Tryz.func99, Tryz.ntmps99
 go_wp2
 rw [Lib.run_neq_ptr_same w _ Tryz.underlying63 hj]
 go_wp2
 go_end0
 exact ⟨rfl, rfl⟩
set_option maxHeartbeats 1000000 in
set_option maxRecDepth 100000 in
theorem VQ (b : Nat) (w : World) (h0 : w.cell? ⟨b, 0, none⟩ = some (.pointer none)) (hsh : w.shape? b = some (tB, 2)) (hfz : w.frozen? ⟨b, 0, none⟩ = false) :
  Calls Tryz.prog 99 #[.pointer (some ⟨b, 0, none⟩)] w fun e w' => e = .returned (.tuple #[]) /\ w' = w.setCell ⟨b, 0, none⟩ (.pointer (some ⟨b, 0, none⟩)) := by
 obtain ⟨j, hj, hjs⟩ := Option.map_eq_some_iff.1 akG
 go_enter Tryz.func99, Tryz.ntmps99
 go_wp2
 rw [Lib.run_to_unsafe w ⟨b, 0, none⟩ Tryz.underlying63 Tryz.underlying160 hj (by rw [hjs]; decide) hsh (Nat.zero_lt_succ 1)]
 simp only [Result.andThen]
 rw [Oper.upon_value]
 go_wp2
 rw [run_callFunc_extern Tryz.func121 (by kernel_rfl) (by kernel_rfl) (by kernel_rfl) (e := Extern.AbiNoEscape.same) (by kernel_rfl)]
 rw [Lib.run_noEscape]
 simp only [Result.andThen]
 rw [Oper.upon_value]
 go_wp2
 rw [Lib.run_from_unsafe w ⟨b, 0, none⟩ Tryz.underlying160 Tryz.underlying63 hj hsh (Tryz.Builder_Extra_169.liesBuilder)]
 simp only [Result.andThen]
 rw [Oper.upon_value]
 go_wp2
 go_end0
 exact ⟨rfl, rfl⟩
theorem a0C {b : Nat} {bs : List Value} {w : World} (h : Lib.IsBuilderF tB tU b b bs w) :
  Calls Tryz.prog 99 #[.pointer (some ⟨b, 0, none⟩)] w fun e w' => e = .returned (.tuple #[]) /\ Lib.BuilderAtF tB tU b b (.pointer (some ⟨b, 0, none⟩)) bs w' /\ Below b w w' /\ Lib.OthersKept tU (some b) w w' := by
 rcases h with h | h
 ·refine (VQ b w h.cell0 h.shape h.frozen0).mono ?_
  rintro e w' ⟨rfl, rfl⟩
  exact ⟨rfl, h.used _, (Below.refl b w).setCell (p := ⟨b, 0, none⟩) h.1 _, (Lib.OthersKept.refl _ _ w).setCell ⟨b, 0, none⟩ rfl _⟩
 ·refine (YT b w h.cell0).mono ?_
  rintro e w' ⟨rfl, rfl⟩
  exact ⟨rfl, h, Below.refl b _, Lib.OthersKept.refl _ _ _⟩
set_option maxHeartbeats 2000000 in
set_option maxRecDepth 100000 in
theorem Vw {b : Nat} {l : List UInt8} (c : UInt8) {w : World} (h : Bld tB tU b l w) (hlen : l.length + 1 <= 140737488355328) :
  Calls Tryz.prog 64 #[.pointer (some ⟨b, 0, none⟩), .int .u8 c.toNat] w fun e w' => e = .returned .nilIface /\ Bld tB tU b (l ++ [c]) w' /\ Wrote tU b w w' := by
 have hBw : b <= w.heap.size := Nat.le_of_lt h.lt
 have hlen2 : (Lib.byteCells l).length + 1 <= 140737488355328 := by rw [Lib.byteCells_length l]; exact hlen
 clear hlen
 have hbc : Lib.byteCells (l ++ [c]) = Lib.byteCells l ++ [.int .u8 c.toNat] := Lib.byteCells_append l [c]
 unfold Bld at h |-
 rw [hbc]
 generalize Lib.byteCells l = bs at *
 generalize (c.toNat : Int) = c at *
 obtain ⟨i0, hi, hz0, hz1, hz2⟩ := info_parts Tryz.Builder_Extra_169.infoByte
 go_enter Tryz.func64, Tryz.ntmps64
 go_wp2_with (go_at_call 99; refine (a0C h).mono ?_)
 rintro e w1 ⟨rfl, h1, hb1, hk1⟩
 obtain ⟨hB, v, hbk, hown, hne⟩ := h1
 have c0 : w1.cell? ⟨b, 0, none⟩ = some (.pointer (some ⟨b, 0, none⟩)) := by rw [Lib.cell_of_heap hbk]; rfl
 have c1 : w1.cell? ⟨b, 1, none⟩ = some v := by rw [Lib.cell_of_heap hbk]; rfl
 go_wp2_with (at_builtin; refine wpList_append_ownF _ rfl _ _ 64 rfl b tU i0 (.int .u8 0) 1 1 Tryz.underlying64 hi hz0 hz1 hz2 rfl (by decide) _ _ _ rfl (hown.alloc _) ⟨w1.heap.size, 0, none⟩ 1 1 [.int .u8 c] rfl rfl ?c1 ?c2 ?c3 ?c4 ?c5 ?_)
 case c1 =>
  intro j u hj
  match j, hj with
  | 0, hj => simp at hj; subst hj; simp [Addr.add]
 case c2 => intro u hu; simp at hu; subst hu; rfl
 case c3 => unfold maxLen; omega
 case c4 => omega
 case c5 => have := hb1.size; simp; omega
 intro v' w2 hown' hgrow _
 have hlt : b < w1.heap.size := (Array.getElem?_eq_some_iff.1 hbk).1
 have hb2 : w2.heap[b]? = some (.cells #[.pointer (some ⟨b, 0, none⟩), v] tB (0, 0)) := by
  rw [hgrow.block b (by simp; omega) (fun e => hne e.symm), Lib.alloc_old w1 _ b hlt]
  exact hbk
 have d0 : w2.cell? ⟨b, 0, none⟩ = some (.pointer (some ⟨b, 0, none⟩)) := by rw [Lib.cell_of_heap hb2]; rfl
 have d1 : w2.cell? ⟨b, 1, none⟩ = some v := by rw [Lib.cell_of_heap hb2]; rfl
 have f1 : w2.frozen? ⟨b, 1, none⟩ = false := Lib.frozen_of_heap hb2 1
 obtain ⟨g, cap, rfl⟩ : ∃ g cap, v' = .slice (some ⟨g, 0, none⟩) (bs.length + 1) cap := by
  rcases hown'.2 with ⟨_, h0⟩ | ⟨g, cap, cur, fz, hv, _⟩
  ·omega
  ·exact ⟨g, cap, hv⟩
 go_wp2
 go_ret
 refine ⟨rfl, .inr ?_, ?_, ((hk1.alloc _).grown hgrow (Lib.ownsRowF_kind (hown.alloc _))).setCell ⟨b, 1, none⟩ rfl _⟩
 ·exact Lib.BuilderAtF.put (T := tB) (e := tU) hB hb2 (bs' := bs ++ [.int .u8 c]) (by simpa using hown') Tryz.Builder_Extra_169.neB5
 ·exact ((hb1.alloc (by have := hb1.size; omega) _).grown hgrow (by have := hb1.size; simp; omega) (fun k hk => (hown.lt k hk).1)).setCell (p := ⟨b, 1, none⟩) hB _
set_option maxHeartbeats 2000000 in
set_option maxRecDepth 100000 in
theorem Ob {b : Nat} {l : List UInt8} (m : List UInt8) {w : World} (h : Bld tB tU b l w) (hlen : l.length + m.length <= 140737488355328) :
  Calls Tryz.prog 63 #[.pointer (some ⟨b, 0, none⟩), .string ⟨m.toArray⟩] w fun e w' => (∃ v, e = .returned v) /\ Bld tB tU b (l ++ m) w' /\ Wrote tU b w w' := by
 have hBw : b <= w.heap.size := Nat.le_of_lt h.lt
 have hlen2 : (Lib.byteCells l).length + m.length <= 140737488355328 := by rw [Lib.byteCells_length l]; exact hlen
 clear hlen
 have hbc : Lib.byteCells (l ++ m) = Lib.byteCells l ++ Lib.strCells ⟨m.toArray⟩ := by rw [a2P]; exact Lib.byteCells_append l m
 have hsz : (⟨m.toArray⟩ : ByteArray).size = m.length := by simp [ByteArray.size]
 rw [<- hsz] at hlen2
 clear hsz
 unfold Bld at h |-
 rw [hbc]
 generalize (⟨m.toArray⟩ : ByteArray) = s at *
 generalize Lib.byteCells l = bs at *
 obtain ⟨i0, hi, hz0, hz1, hz2⟩ := info_parts Tryz.Builder_Extra_169.infoByte
 go_enter Tryz.func63, Tryz.ntmps63
 go_wp2_with (go_at_call 99; refine (a0C h).mono ?_)
 rintro e w1 ⟨rfl, h1, hb1, hk1⟩
 obtain ⟨hB, v, hbk, hown, hne⟩ := h1
 have c0 : w1.cell? ⟨b, 0, none⟩ = some (.pointer (some ⟨b, 0, none⟩)) := by rw [Lib.cell_of_heap hbk]; rfl
 have c1 : w1.cell? ⟨b, 1, none⟩ = some v := by rw [Lib.cell_of_heap hbk]; rfl
 go_wp2_with (at_builtin; refine Lib.wpList_append_own_stringF _ rfl _ _ 64 9 rfl b tU i0 Tryz.underlying64 Tryz.underlying9 hi hz0 hz1 hz2 _ _ _ rfl hown s rfl ?c3 ?c4 ?c5 ?_)
 case c3 => unfold maxLen; omega
 case c4 => omega
 case c5 => have := hb1.size; omega
 intro v' w2 hown' hgrow _
 have hlt : b < w1.heap.size := (Array.getElem?_eq_some_iff.1 hbk).1
 have hb2 : w2.heap[b]? = some (.cells #[.pointer (some ⟨b, 0, none⟩), v] tB (0, 0)) := by
  rw [hgrow.block b hlt (fun e => hne e.symm)]
  exact hbk
 have d0 : w2.cell? ⟨b, 0, none⟩ = some (.pointer (some ⟨b, 0, none⟩)) := by rw [Lib.cell_of_heap hb2]; rfl
 have d1 : w2.cell? ⟨b, 1, none⟩ = some v := by rw [Lib.cell_of_heap hb2]; rfl
 have f1 : w2.frozen? ⟨b, 1, none⟩ = false := Lib.frozen_of_heap hb2 1
 obtain ⟨ao, n', cap, rfl⟩ : ∃ ao n' cap, v' = .slice ao n' cap := by
  rcases hown'.2 with ⟨hv, _⟩ | ⟨g, cap, cur, fz, hv, _⟩
  ·exact ⟨_, _, _, hv⟩
  ·exact ⟨_, _, _, hv⟩
 go_wp2
 go_ret2
 refine ⟨⟨_, rfl⟩, .inr ?_, ?_, (hk1.grown hgrow (Lib.ownsRowF_kind hown)).setCell ⟨b, 1, none⟩ rfl _⟩
 ·exact Lib.BuilderAtF.put (T := tB) (e := tU) hB hb2 (bs' := bs ++ Lib.strCells s) (by simpa [Lib.strCells_length] using hown') Tryz.Builder_Extra_169.neB5
 ·exact (hb1.grown hgrow (by have := hb1.size; omega) (fun k hk => (hown.lt k hk).1)).setCell (p := ⟨b, 1, none⟩) hB _
end Go.Proofs.YtglmonlofejcgaaGreatDoor.bld
namespace Go.Proofs.YtglmonlofejcgaaGreatDoor.txt
open Go.RowKit Am loan bld
abbrev tS1 : TypeId := 9
abbrev tPB : TypeId := 63
def Wr (b : Nat) (l : List UInt8) (W : World) (e : Ending) (W' : World) : Prop := e = .returned (.tuple #[]) /\ Bld tB tU b l W' /\ Wrote tU b W W'
theorem amm {b : Nat} {l : List UInt8} {w : World} (h : Bld tB tU b l w) (hlen : l.length + 1 <= 140737488355328) :
  Calls Tryz.prog 64 #[.pointer (some ⟨b, 0, none⟩), .int .u8 10] w fun e w' => e = .returned .nilIface /\ Bld tB tU b (l ++ [10]) w' /\ Wrote tU b w w' := Vw 10 h hlen
theorem afJ {l : List (List UInt8)} {i : Nat} {s : List UInt8} (h : l[i]? = some s) : (l.take i).flatten.length + s.length <= l.flatten.length := by
 have h1 : l.flatten = (l.take (i + 1)).flatten ++ (l.drop (i + 1)).flatten := by rw [<- List.flatten_append, List.take_append_drop]
 have h2 : l.take (i + 1) = l.take i ++ [s] := by rw [List.take_add_one, h]; rfl
 rw [h1, h2, List.flatten_append]
 simp only [List.length_append, List.flatten_cons, List.flatten_nil, List.append_nil]
 omega
set_option maxHeartbeats 2000000 in
set_option maxRecDepth 100000 in
theorem Rk {b : Nat} {acc : List UInt8} {A : Option Addr} {c : Nat} {parts : List (List UInt8)} {w : World} (h : Bld tB tU b acc w) (hp : nX w b tU A parts) (hlen : acc.length + parts.flatten.length + 1 <= 140737488355328) (hn : (parts.length : Int) <= 1000) :
  Calls Tryz.prog 35 #[.pointer (some ⟨b, 0, none⟩), .slice A parts.length c] w (Wr b (acc ++ (parts.flatten ++ [10])) w) := by
 have HP := Lib.hid hp
 have HB := Lib.hid h
 clear hp h
 go_enter Tryz.func35, Tryz.ntmps35
 go_wp2
 go_loopg [8] parts.length (fun g s8 wr => ∃ i : Nat, s8 = .int .i64 i /\ i <= parts.length /\ g = parts.length - i /\ Bld tB tU b (acc ++ (parts.take i).flatten) wr /\ Wrote tU b w wr)
 case atStart => exact ⟨0, rfl, Nat.zero_le _, rfl, by simpa using HB.out, .refl _ _ _⟩
 case round =>
  obtain ⟨i, rfl, hi, rfl, hb, hw⟩ := hrel
  have h0I : (0 : Int) <= (i : Int) := Int.natCast_nonneg _
  have HW := Lib.hid hw
  have HBI := Lib.hid hb
  have hp := HP.out.wrote hw
  clear hw hb
  rcases Nat.lt_or_ge i parts.length with hlt | hge
  ·have hltI : (i : Int) < (parts.length : Int) := by omega
   obtain ⟨s, hs⟩ : ∃ s, parts[i]? = some s := ⟨_, List.getElem?_eq_getElem hlt⟩
   obtain ⟨g, o, eA, hc⟩ := hp.cell hs
   subst eA
   have hfl := afJ hs
   have HS := Lib.hid hs
   clear hs hp
   go_wp2_with (go_at_call 63; refine (Ob s HBI.out (by rw [List.length_append]; omega)).mono ?_; rintro e w2 ⟨⟨v, rfl⟩, hb2, hw2⟩)
   go_roundg (parts.length - (i + 1))
   case measure => omega
   case rel =>
    refine ⟨i + 1, by simp, by omega, rfl, ?_, HW.out.trans hw2⟩
    rw [List.take_add_one, HS.out, List.flatten_append]
    simpa using hb2
  ·obtain rfl : i = parts.length := by omega
   have hl2 := HBI.out
   rw [List.take_length] at hl2
   have HL := Lib.hid hl2
   clear hl2 hp
   go_wp2_with (go_at_call 64; refine (amm HL.out (by rw [List.length_append]; omega)).mono ?_; rintro e w2 ⟨rfl, hb2, hw2⟩)
   go_end0
   exact ⟨rfl, by rw [<- List.append_assoc]; exact hb2, HW.out.trans hw2⟩
open Go.RowKit Am loan bld
set_option maxHeartbeats 2000000 in
set_option maxRecDepth 100000 in
theorem akR {b X : Nat} {acc m : List UInt8} {w : World} (h : Bld tB tU b acc w) (hX : w.heap[X]? = some (.cells #[.pointer (some ⟨b, 0, none⟩)] tPB (0, 0))) (hlen : acc.length + m.length <= 100000000000) :
  Calls Tryz.prog 38 #[.string ⟨m.toArray⟩, .int .i64 0, .pointer (some ⟨X, 0, none⟩)] w (Wr b (acc ++ (([32, 32] ++ m) ++ [10])) w) := by
 have hc : w.cell? ⟨X, 0, none⟩ = some (.pointer (some ⟨b, 0, none⟩)) := by rw [cell_of_row w X 0 _ tPB (0, 0) hX]; rfl
 have HB := Lib.hid h
 have hbl := h.lt
 clear h hX
 go_enter Tryz.func38, Tryz.ntmps38
 have hb1 : Below w.heap.size w (w.alloc (.cells #[.string ⟨#[32, 32]⟩, .string ⟨m.toArray⟩] tS1)) := (Below.refl _ _).alloc (Nat.le_refl _) _
 have HL := Lib.hid (Rk (c := 2) (parts := [[32, 32], m]) (HB.out.below hb1) (nX.new (b := b) (t := tS1) (l := [[32, 32], m]) (Nat.ne_of_gt hbl) (by decide) (cu rfl)) (by simp; omega) (by simp))
 have HW := Lib.hid (Wrote.of_below (e := tU) hb1 (Nat.le_of_lt hbl))
 clear hb1
 go_wp2_with (go_at_call 35; refine HL.out.mono ?_; rintro e w2 ⟨rfl, hb2, hw2⟩)
 go_end0
 exact ⟨rfl, by simpa using hb2, HW.out.trans hw2⟩
end Go.Proofs.YtglmonlofejcgaaGreatDoor.txt
