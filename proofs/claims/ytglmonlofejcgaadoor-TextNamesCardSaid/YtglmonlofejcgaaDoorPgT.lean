/- text.Program: the texts of a program's functions, one behind the other. -/
import Derived.Test.YtglmonlofejcgaaDoorPgB
import Derived.Test.YtglmonlofejcgaaDoorTextV
namespace Go.Proofs.YtglmonlofejcgaaDoor.prg
open Go.RowKit Go.Proofs.YtglmonlofejcgaaDoor Go.Proofs.YtglmonlofejcgaaDoor.Am Go.Proofs.YtglmonlofejcgaaDoor.loan Go.Proofs.YtglmonlofejcgaaDoor.bld
set_option linter.unusedVariables false
open Go.Proofs.YtglmonlofejcgaaDoor.txt (textF AnsT Lim Cons Wr function_c textF_lim new_bld)
def textP : Nat → List FnD → List UInt8
 | _, [] => []
 | i, D :: Ds => textF D (i : Nat) ++ textP (i + 1) Ds
theorem textP_add : ∀ (j : Nat) (a b : List FnD), textP j (a ++ b) = textP j a ++ textP (j + a.length) b
 | j, [], b => by simp [textP]
 | j, D :: a, b => by rw [List.cons_append, textP, textP, textP_add (j + 1) a b, List.append_assoc, List.length_cons, show j + 1 + a.length = j + (a.length + 1) by omega]
theorem textP_next {Ds : List FnD} {i : Nat} {D : FnD} (h : Ds[i]? = some D) : textP 0 (Ds.take (i + 1)) = textP 0 (Ds.take i) ++ textF D (i : Nat) := by
 have hl : (Ds.take i).length = i := by have := (List.getElem?_eq_some_iff.1 h).1; rw [List.length_take]; omega
 rw [List.take_add_one, h, textP_add, hl, Nat.zero_add]
 simp [textP]
theorem textP_len : ∀ {Ds : List FnD} {j : Nat}, (∀ D ∈ Ds, Lim D) → (textP j Ds).length ≤ 1000000 * Ds.length
 | [], _, _ => by simp [textP]
 | D :: Ds, j, h => by
  have h1 := textF_lim (h D List.mem_cons_self) (j : Nat)
  have h2 := textP_len (j := j + 1) fun x hx => h x (List.mem_cons_of_mem _ hx)
  rw [textP, List.length_append, List.length_cons]
  omega
theorem take_lim {Ds : List FnD} {i : Nat} (h : ∀ D ∈ Ds, Lim D) : (textP 0 (Ds.take i)).length ≤ 1000000 * Ds.length := by
 have h1 := textP_len (Ds := Ds.take i) (j := 0) fun D hD => h D (List.mem_of_mem_take hD)
 have h2 : (Ds.take i).length ≤ Ds.length := by rw [List.length_take]; omega
 have := Nat.mul_le_mul_left 1000000 h2
 omega
def ChkP (f : FuncId) (w : World) (v : Value) (x : Int) : Prop := ∀ w1, Below w.heap.size w w1 → Calls Tryd.prog f #[v] w1 (bld.Ans w1 (.int .i64 x))
set_option maxHeartbeats 4000000 in
set_option maxRecDepth 100000 in
theorem pgm_bad {w : World} {v fv : Value} {Ds : List FnD} (h : ProgOk w v fv Ds) {x : Int} (hx : x ≠ 0) (hC : ChkP 35 w v x) : Calls Tryd.prog 17 #[v] w (AnsT [] x w) := by
 obtain ⟨A, c, e, _, hm, hr⟩ := h.rows
 unfold ChkP at hC
 rw [e] at hC ⊢
 have b0 : Below w.heap.size w (w.alloc (.cells #[.slice A Ds.length c] tPr)) := (Below.refl _ _).alloc (Nat.le_refl _) _
 have hx' : (x != 0) = true := by simpa using hx
 have HC := Lib.hid hC
 have HB := Lib.hid b0
 clear hC h hr e b0
 go_enter Tryd.func17, Tryd.ntmps17
 go_wp2_with (go_at_call 35; refine (HC.out _ HB.out).mono ?_; rintro e w1 ⟨rfl, b1⟩)
 go_ret2
 exact ⟨rfl, HB.out.trans (b1.mono HB.out.size)⟩
set_option maxHeartbeats 8000000 in
set_option maxRecDepth 100000 in
theorem pgm_c {w : World} {v fv : Value} {Ds : List FnD} (h : ProgOk w v fv Ds) (h8 : Ds.length ≤ 8) (hL : ∀ D ∈ Ds, Lim D) (hK : ∀ D ∈ Ds, Cons w D) (hC : ChkP 35 w v 0) : Calls Tryd.prog 17 #[v] w (AnsT (textP 0 Ds) 0 w) := by
 obtain ⟨A, c, e, _, hm, hr⟩ := h.rows
 unfold ChkP at hC
 have HF := Lib.hid (fun (D : FnD) (hD : D ∈ Ds) (w1 : World) (b : Nat) (acc : List UInt8) (n : Nat) (hn : n < 100) (hb : w.heap.size ≤ b) (hb1 : Below w.heap.size w w1) (hB : Bld tB tU b acc w1) (ha : acc.length ≤ 100000000) => function_c (h.fn D hD) (hL D hD) (hK D hD) hb hb1 hB ha (n := (n : Int)) (by omega))
 have HSL := Lib.hid (fun (D : FnD) (hD : D ∈ Ds) => fn_slices (h.fn D hD))
 have HLIM := Lib.hid (fun i => take_lim (i := i) hL)
 rw [e] at hC ⊢
 have b0 : Below w.heap.size w (w.alloc (.cells #[.slice A Ds.length c] tPr)) := (Below.refl _ _).alloc (Nat.le_refl _) _
 have P0 : (w.alloc (.cells #[.slice A Ds.length c] tPr)).heap[w.heap.size]? = some (.cells #[.slice A Ds.length c] tPr (0, 0)) := at_alloc rfl
 have HC := Lib.hid hC
 have HR := Lib.hid hr
 clear hC h hr e hL hK
 go_enter Tryd.func17, Tryd.ntmps17
 go_upto_region 4 with (go_at_call 35; refine (HC.out _ b0).mono ?_; rintro e w1 ⟨rfl, b1⟩)
 have b01 := b0.trans (b1.mono b0.size)
 have P1 := (b1.block _ (Array.getElem?_eq_some_iff.1 P0).1).trans P0
 have p1 : w1.cell? ⟨w.heap.size, 0, none⟩ = some (.slice A Ds.length c) := by rw [cell_of_row w1 _ 0 _ tPr (0, 0) P1]; rfl
 have HB := Lib.hid (new_bld w1)
 have HB01 := Lib.hid b01
 have hlt1 : w.heap.size < w1.heap.size := (Array.getElem?_eq_some_iff.1 P1).1
 have hbb : w.heap.size ≤ w1.heap.size := Nat.le_of_lt hlt1
 have HB2 := Lib.hid (b01.alloc hbb (.cells #[.pointer none, .slice none 0 0] tB))
 clear P0 P1 b0 b1 b01 HC
 go_wp2_with fail
 clear p1
 generalize w1.heap.size = b at *
 generalize w1.alloc (.cells #[.pointer none, .slice none 0 0] tB) = w2 at *
 go_loopg [16] Ds.length (fun g s16 w8 => ∃ i : Nat, s16 = .int .i64 i ∧ i ≤ Ds.length ∧ g = Ds.length - i ∧ Bld tB tU b (textP 0 (Ds.take i)) w8 ∧ Wrote tU b w2 w8)
 case atStart => exact ⟨0, rfl, Nat.zero_le _, rfl, by simpa [textP] using HB.out, Wrote.refl _ _ _⟩
 case round =>
  obtain ⟨i, rfl, hi, rfl, hbl, hwr⟩ := hrel
  have h0I : (0 : Int) ≤ (i : Int) := Int.natCast_nonneg _
  have HBL := Lib.hid hbl
  have HWR := Lib.hid hwr
  have HO := Lib.hid (HB2.out.trans (hwr.bel.mono hbb))
  have hblt := hbl.lt
  clear hbl hwr
  rcases Nat.lt_or_ge i Ds.length with hlt | hge
  ·have hltI : (i : Int) < (Ds.length : Int) := by omega
   obtain ⟨D, hD⟩ : ∃ D, Ds[i]? = some D := ⟨_, List.getElem?_eq_getElem hlt⟩
   obtain ⟨g, o, eA, hg, hc⟩ := fn_range4 (HR.out.below HO.out) hD
   subst eA
   obtain ⟨A1, c1, q1, A2, c2, q2⟩ := HSL.out D (List.mem_of_getElem? hD)
   have HNX := Lib.hid (textP_next hD)
   have hbx : Below wr.heap.size wr (wr.alloc (.cells #[.int .i64 D.p, .bool D.u, D.lv, D.bv] tFn)) := (Below.refl _ _).alloc (Nat.le_refl _) _
   have hX := HO.out.trans (hbx.mono HO.out.size)
   have hW2 := HWR.out.trans (Wrote.of_below hbx (Nat.le_of_lt hblt))
   have hFD := HF.out D (List.mem_of_getElem? hD) _ b _ i (by omega) hbb hX (HBL.out.below hbx) (by have := HLIM.out i; omega)
   rw [q1, q2] at hc hX hW2 hFD
   have HCC := Lib.hid hc
   have HX := Lib.hid hX
   have HW2 := Lib.hid hW2
   have HFD := Lib.hid hFD
   clear hc hD hbx q1 q2 hX hW2 hFD
   go_wp2_with (first | (refine wpList_load_mid rfl tFn _ rfl g (o + i * 4) rfl [.int .i64 D.p, .bool D.u, .slice A1 D.ls.length c1, .slice A2 D.bs.length c2] _ HCC.out Tryd.underlying25 rfl fnR ?_) | (go_at_call 24; refine HFD.out.mono ?_; rintro e w3 ⟨rfl, hb3, wr3⟩))
   go_roundg (Ds.length - (i + 1))
   case measure => omega
   case rel => exact ⟨i + 1, by simp, by omega, rfl, by rw [HNX.out]; exact hb3, HW2.out.trans wr3⟩
  ·obtain rfl : i = Ds.length := by omega
   rw [List.take_length] at HBL
   go_wp2_with (go_at_call 25; refine (Tryd.Builder_String_any_k b b _ wr HBL.out (Nat.le_of_lt hblt)).mono ?_; rintro e w3 ⟨rfl, _, b3, _⟩)
   go_ret2
   exact ⟨by simp, HO.out.trans (b3.mono hbb)⟩
end Go.Proofs.YtglmonlofejcgaaDoor.prg
