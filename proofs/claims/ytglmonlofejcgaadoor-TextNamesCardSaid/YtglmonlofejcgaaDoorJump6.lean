/- Jumps' texts: jump.Text and the reference's answer with this text. Jumps' texts: the contracts, joined. One text for each valid jump. (No program in sight, but for the jumps' cells.) -/
import Derived.Test.YtglmonlofejcgaaDoorJump5
import Derived.Test.YtglmonlofejcgaaDoorJump4
import Derived.Test.YtglmonlofejcgaaDoorDigits
namespace Go.Proofs.YtglmonlofejcgaaDoor.Am
open Go.RowKit
set_option maxRecDepth 100000
set_option maxHeartbeats 1000000
set_option linter.unusedVariables false
set_option linter.unusedSectionVars false
def gotoB : List UInt8 := [103, 111, 116, 111, 32, 98]
def branchB : List UInt8 := [98, 114, 97, 110, 99, 104, 32]
def bB : List UInt8 := [32, 98]
def returnB : List UInt8 := [114, 101, 116, 117, 114, 110]
def abortB : List UInt8 := [97, 98, 111, 114, 116]
def fB : List UInt8 := [32, 58, 61, 32, 102]
def openB : List UInt8 := [40]
def commaB : List UInt8 := [44, 32]
def closeB : List UInt8 := [41, 32, 98]
def opTx (el : List Value) : List UInt8 := opT (opdAt el 0)
def plTx (post : List Value) : List UInt8 := placeT (cellI post 0) (decide (cellI post 1 = 1)) (cellI post 2)
def jumpT (pre : List Value) (els : List (List Value)) (post : List Value) : List UInt8 :=
 if cellI pre 0 = 1 then gotoB ++ decT (cellI pre 7)
 else if cellI pre 0 = 2 then branchB ++ (opTx ((pre.drop 1).take 5) ++ (bB ++ (decT (cellI pre 7) ++ (bB ++ decT (cellI pre 8)))))
 else if cellI pre 0 = 3 then returnB
 else if cellI pre 0 = 5 then abortB
 else plTx post ++ (fB ++ (decT (cellI pre 6) ++ (openB ++ (joinK commaB (els.map opTx) ++ (closeB ++ decT (cellI pre 7))))))
def TextsJ (F : FuncId) : Prop :=
 ∀ (w : World) (v : Value) (pre : List Value) (sv : Value) (post : List Value) (els : List (List Value)), TabOk w → JumpIs w v pre sv post els → okJ pre els post = true →
  Calls Tryd.prog F #[v] w fun x w' => x = .returned (vS2 (jumpT pre els post)) ∧ Below w.heap.size w w'
theorem itoa_calls {n : Int} (h0 : -9223372036854775808 ≤ n) (h1 : n ≤ 9223372036854775807) {w : World} (k : TabOk w) : Calls Tryd.prog 29 #[.int .i64 n] w fun e w' => e = .returned (vS1 (decT n)) ∧ Below w.heap.size w w' :=
 (Tryd.strconv_Itoa n h0 h1 w k.tab).mono fun e w' ⟨e1, n', os, e2⟩ => ⟨by rw [e1]; unfold vS1; rw [show decT n = Lib.itoa n from itoaK_eq n h0 h1], by rw [e2]; exact Lib.below_grow _ _ (Nat.le_refl _) _ _⟩
theorem placeT_most (l : Int) (d : Bool) (f : Int) : (placeT l d f).length ≤ 25 := by
 unfold placeT
 have h1 := decT_len l
 have h2 : (bif d then ([42] : List UInt8) else []).length ≤ 1 := by cases d <;> simp
 have h3 : (if f = 1 then ([46, 49] : List UInt8) else if f = 2 then [46, 50] else []).length ≤ 2 := by
  split
  ·simp
  ·split <;> simp
 simp only [List.length_append, List.length_cons]
 omega
theorem opT_most (o : Opd) : (opT o).length ≤ 30 := by
 unfold opT
 have h1 := decT_len o.n
 have h2 := placeT_most o.l o.d o.f
 have h3 : copyT.length = 5 := rfl
 have h4 : moveT.length = 5 := rfl
 split
 ·omega
 ·split <;> (rw [List.length_append]; omega)
section
variable {w : World} {v : Value} {pre : List Value} {sv : Value} {post : List Value} {els : List (List Value)} (hj : JumpIs w v pre sv post els)
include hj
def strsJ (_ : JumpIs w v pre sv post els) : List (List UInt8) := opTx ((pre.drop 1).take 5) :: plTx post :: decT (cellI pre 7) :: decT (cellI pre 8) :: decT (cellI pre 6) :: els.map opTx
def codesJ (_ : JumpIs w v pre sv post els) : List Int := els.flatten.map codeI
@[reducible] noncomputable def baseS : Base :=
 { Know.nought with nb := w.heap.size, g := fun k => w.heap[k]?, rho := rhoOf (behind (flatJ pre els post) (strsJ hj) (codesJ hj)), sig := sigOf (behind (flatJ pre els post) (strsJ hj) (codesJ hj)), ok := KnowOk.nought _ _, lst := fun _ => ⟨sv, els⟩ }
theorem strs_len : (strsJ hj).length = 5 + els.length := by simp [strsJ]; omega
theorem strs_most : ∀ l ∈ strsJ hj, l.length ≤ 30 := by
 intro l hl
 simp only [strsJ, List.mem_cons, List.mem_map] at hl
 rcases hl with rfl | rfl | rfl | rfl | rfl | ⟨el, _, rfl⟩
 ·exact opT_most _
 ·have := placeT_most (cellI post 0) (decide (cellI post 1 = 1)) (cellI post 2); unfold plTx; omega
 ·have := decT_len (cellI pre 7); omega
 ·have := decT_len (cellI pre 8); omega
 ·have := decT_len (cellI pre 6); omega
 ·exact opT_most _
theorem lensS : Lens (strsB 13 (5 + els.length)) (baseS hj).rho (baseS hj).sig := lens_behind (gps_flat hj) rfl (len_flat hj) (strs_len hj)
theorem rhoS {i : Nat} (h : i < 13) : (baseS hj).rho i = cellI (flatJ pre els post) i := behind_cell (by rw [len_flat hj]; exact h)
theorem sigS {j : Nat} {l : List UInt8} (h : (strsJ hj)[j]? = some l) : (baseS hj).sig (13 + j) = l := behind_str (len_flat hj) h
theorem sig_el {i : Nat} {el : List Value} (h : els[i]? = some el) : (baseS hj).sig (18 + i) = opTx el := by
 rw [show 18 + i = 13 + (5 + i) by omega]
 refine sigS hj ?_
 rw [show 5 + i = i + 1 + 1 + 1 + 1 + 1 by omega]
 simp only [strsJ, List.getElem?_cons_succ]
 rw [List.getElem?_map, h]
 rfl
theorem el_len {i : Nat} {el : List Value} (h : els[i]? = some el) : el.length = 5 := by have := (hj.ops.kd i el h).len; simp [opK] at this; omega
theorem flat_at5 : ∀ {l : List (List Value)}, (∀ x ∈ l, x.length = 5) → ∀ {i f : Nat} {el : List Value}, l[i]? = some el → f < 5 → l.flatten[5 * i + f]? = el[f]?
 | [], _, i, f, el, h, _ => by simp at h
 | x :: l, hl, 0, f, el, h, hf => by
  simp only [List.getElem?_cons_zero, Option.some.injEq] at h
  subst h
  rw [List.flatten_cons, List.getElem?_append_left (by rw [hl x (List.mem_cons_self ..)]; omega)]
  congr 1
  omega
 | x :: l, hl, i + 1, f, el, h, hf => by
  simp only [List.getElem?_cons_succ] at h
  have hx := hl x (List.mem_cons_self ..)
  rw [List.flatten_cons, List.getElem?_append_right (by omega), hx, show 5 * (i + 1) + f - 5 = 5 * i + f by omega]
  exact flat_at5 (fun y hy => hl y (List.mem_cons_of_mem _ hy)) h hf
theorem rho_cell {i f : Nat} {el : List Value} (h : els[i]? = some el) (hf : f < 5) : (baseS hj).rho (18 + els.length + 5 * i + f) = cellI el f := by
 have hall : ∀ x ∈ els, x.length = 5 := fun x hx => by
  obtain ⟨k, hk⟩ := List.getElem?_of_mem hx
  exact el_len hj hk
 have h5 := el_len hj h
 have hx : el[f]? = some (el[f]'(by omega)) := List.getElem?_eq_getElem _
 have : (codesJ hj)[5 * i + f]? = some (cellI el f) := by
  unfold codesJ
  rw [List.getElem?_map, flat_at5 hj hall h hf, hx]
  show some (codeI _) = _
  unfold cellI
  rw [hx]
 rw [show 18 + els.length + 5 * i + f = 13 + (5 + els.length) + (5 * i + f) by omega]
 exact behind_int (len_flat hj) (strs_len hj) this
theorem cells_el {i : Nat} {el : List Value} (h : els[i]? = some el) : All2 (@VS (baseS hj) r0) (elT els.length i) el ∧ ∀ r, All2 (@VS (baseS hj) r) (elT els.length i) el := by
 have key : ∀ r, All2 (@VS (baseS hj) r) (elT els.length i) el := fun r => by
  have rc : ∀ f, f < 5 → (baseS hj).rho (18 + els.length + 5 * i + f) = cellI el f := fun f hf => rho_cell hj h hf
  obtain ⟨a, b, c, d, e, rfl⟩ := opK_form (hj.ops.kd i el h)
  refine ⟨?_, ?_, ?_, ?_, ?_, trivial⟩
  ·show _ = Value.int .u8 ((baseS hj).rho (18 + els.length + 5 * i)); rw [show 18 + els.length + 5 * i = 18 + els.length + 5 * i + 0 by rfl, rc 0 (by decide)]; rfl
  ·show _ = Value.int .i64 ((baseS hj).rho (18 + els.length + 5 * i + 1)); rw [rc 1 (by decide)]; rfl
  ·show _ = Value.int .i64 ((baseS hj).rho (18 + els.length + 5 * i + 1 + 1)); rw [show 18 + els.length + 5 * i + 1 + 1 = 18 + els.length + 5 * i + 2 by omega, rc 2 (by decide)]; rfl
  ·show _ = Value.bool ([((18 + els.length + 5 * i + 1 + 1 + 1 : Nat), (1 : Int))].any fun p => decide ((baseS hj).rho p.1 = p.2))
   simp only [List.any_cons, List.any_nil, Bool.or_false]
   rw [show 18 + els.length + 5 * i + 1 + 1 + 1 = 18 + els.length + 5 * i + 3 by omega, rc 3 (by decide)]
   cases d <;> rfl
  ·show _ = Value.int .u8 ((baseS hj).rho (18 + els.length + 5 * i + 1 + 1 + 1 + 1)); rw [show 18 + els.length + 5 * i + 1 + 1 + 1 + 1 = 18 + els.length + 5 * i + 4 by omega, rc 4 (by decide)]; rfl
 exact ⟨key r0, key⟩
theorem elOf_find {n : Nat} : ∀ (l : List Nat) {k : Nat} {i : N} {cs : List S}, Tabs.elOf ⟨[], l.map fun (i : Nat) => ((0 : Nat), N.c (i : Int), elT n i), []⟩ k i = some cs → ∃ j ∈ l, k = 0 ∧ i = .c (j : Int) ∧ cs = elT n j
 | [], k, i, cs, h => by cases h
 | j :: l, k, i, cs, h => by
  have h : (bif Nat.beq 0 k && (N.c (j : Int)).eqv i then some (elT n j) else Tabs.elOf ⟨[], l.map fun (i : Nat) => ((0 : Nat), N.c (i : Int), elT n i), []⟩ k i) = some cs := h
  cases hb : (Nat.beq 0 k && (N.c (j : Int)).eqv i) <;> rw [hb] at h <;> simp only [cond_true, cond_false] at h
  ·obtain ⟨j', h1, h2⟩ := elOf_find l h
   exact ⟨j', List.mem_cons_of_mem _ h1, h2⟩
  ·cases h
   simp only [Bool.and_eq_true] at hb
   exact ⟨j, List.mem_cons_self .., (Nat.eq_of_beq_eq_true hb.1).symm, (N.eqv_ok hb.2).symm, rfl⟩
theorem tabsS_ok : @TabsOk (baseS hj) (tbT els.length) := by
 letI : Base := baseS hj
 refine ⟨fun l j h => ?_, fun l i cs h => ?_, fun i c j h => (by cases h)⟩
 ·have h : (bif Nat.beq 0 l then some 9 else none) = some j := h
  cases hb : Nat.beq 0 l <;> rw [hb] at h <;> cases h
  obtain ⟨A, c, e⟩ := hj.ops.sl
  exact ⟨A, els.length, c, e, by rw [rhoS hj (by decide)]; exact cell_len hj⟩
 ·obtain ⟨k, hk, rfl, rfl, rfl⟩ := elOf_find hj _ (show Tabs.elOf ⟨[], _, []⟩ l i = some cs from h)
  have hk := List.mem_range.1 hk
  have he : els[k]? = some els[k] := List.getElem?_eq_getElem hk
  obtain ⟨b, off, c, e, hc⟩ := hj.ops.at_ k _ he
  refine ⟨b, off, els.length, c, els[k], e, by show (0 : Int) ≤ (k : Int); omega, by show (k : Int) < _; omega, ⟨by show els[((k : Nat) : Int).toNat]? = _; rw [Int.toNat_natCast]; exact he, fun f u hf w1 hw => ?_⟩, ?_⟩
  ·have hcell := hc f u hf
   show w1.cell? ⟨b, off + ((k : Nat) : Int).toNat * 5 + f, none⟩ = some u
   rw [Int.toNat_natCast]
   have hblk : w1.heap[b]? = w.heap[b]? := hw b (World.block_lt_of_cell? w ⟨b, off + k * 5 + f, none⟩ hcell)
   rw [← hcell]
   exact World.cell?_of_block hblk
  ·have := (cells_el hj he).2
   obtain ⟨a, b, c, d, e, hel⟩ := opK_form (hj.ops.kd k _ he)
   rw [hel] at this ⊢
   exact ⟨fun r => (this r).1, fun r => (this r).2.1, fun r => (this r).2.2.1, fun r => (this r).2.2.2.1, fun r => (this r).2.2.2.2.1, trivial⟩
end
end Go.Proofs.YtglmonlofejcgaaDoor.Am
namespace Go.Proofs.YtglmonlofejcgaaDoor.Am
open Go.RowKit
set_option maxRecDepth 100000
set_option maxHeartbeats 1000000
set_option linter.unusedVariables false
set_option linter.unusedSectionVars false
theorem sigs_eq (b0 : Base) (l : List UInt8) (m : List Nat) (h : m.map UInt8.ofNat = l) (h2 : m.all (fun n => Nat.blt n 256) = true) : strX b0.sig m = l := by rw [strX_plain b0.sig h2, h]
theorem JumpIs.frz {w w' : World} {v : Value} {pre : List Value} {sv : Value} {post : List Value} {els : List (List Value)} (hj : JumpIs w v pre sv post els) (hw : ∀ k, k < w.heap.size → w'.heap[k]? = w.heap[k]?) : JumpIs w' v pre sv post els := by
 refine ⟨hj.v, hj.pre, hj.post, ⟨hj.ops.sl, hj.ops.most, fun i el he => ?_, hj.ops.kd, hj.ops.cap⟩⟩
 obtain ⟨b', off, c', e1, e2⟩ := hj.ops.at_ i el he
 refine ⟨b', off, c', e1, fun f u hf => ?_⟩
 have hcell := e2 f u hf
 rw [← hcell]
 exact World.cell?_of_block (hw b' (World.block_lt_of_cell? w ⟨b', off + i * 5 + f, none⟩ hcell))
section
variable {w : World} {v : Value} {pre : List Value} {sv : Value} {post : List Value} {els : List (List Value)} (hj : JumpIs w v pre sv post els)
include hj
theorem cellsS_ok : All2 (@VA (baseS hj) r0) [.g cellsJ] [v] := by
 letI : Base := baseS hj
 have hlenP := len_pre hj
 refine ⟨⟨pre ++ sv :: post, hj.v, ?_⟩, trivial⟩
 refine All2.app ?_ ⟨?_, ?_⟩
 ·exact cellsT_ok (pre := []) (us := pre) (post := Value.int .i64 els.length :: post ++ ((strsJ hj).map strV ++ (codesJ hj).map (Value.int .i64))) rfl rfl (by simp [behind, flatJ]) hj.pre
 ·obtain ⟨A, c, e⟩ := hj.ops.sl
  exact ⟨A, els.length, c, e, e⟩
 ·have := cellsT_ok (r := r0) (cs := behind (flatJ pre els post) (strsJ hj) (codesJ hj)) (pre := pre ++ [Value.int .i64 els.length]) (us := post) (post := (strsJ hj).map strV ++ (codesJ hj).map (Value.int .i64)) rfl rfl (by simp [behind, flatJ]) hj.post
  rw [List.length_append, hlenP] at this
  exact this
theorem rep_strs {R : Int × Int → List UInt8 → Prop} {p : Int × Int} : ∀ {l : List (List UInt8)}, (∀ x ∈ l, R p x) → All2 R (List.replicate l.length p) l
 | [], _ => trivial
 | x :: l, h => ⟨h x (List.mem_cons_self ..), rep_strs fun y hy => h y (List.mem_cons_of_mem _ hy)⟩
theorem holdsS : (Lf.startB [(true, kJ)] (List.replicate (5 + els.length) (0, 30)) []).Holds (baseS hj).rho (baseS hj).sig := by
 have h1 := rep_strs hj (R := fun p (l : List UInt8) => p.1 ≤ (l.length : Int) ∧ (l.length : Int) ≤ p.2) (p := ((0 : Int), (30 : Int))) (l := strsJ hj) fun x hx => by
  have := strs_most hj x hx
  constructor
  ·show (0 : Int) ≤ _; omega
  ·show (x.length : Int) ≤ 30; omega
 rw [strs_len hj] at h1
 exact Lf.startB_some (gps_flat hj) h1 (i0 := []) (i1 := codesJ hj) rfl trivial
theorem some_txt (h : okJ pre els post = true) : ∃ c : Nat, ((c = 1 ∨ c = 2 ∨ c = 3 ∨ c = 5) ∧ els = [] ∨ c = 4 ∧ els.length < 9) ∧ cellI pre 0 = (c : Int) ∧ (c = 2 → (okOpE 0).val ((pre.drop 1).take 5) = true) ∧ (c = 4 → (okPlE 0).val post = true ∧ (els.all fun el => (okOpE 0).val el) = true) ∧ (LT c els.length).Holds (baseS hj).rho (baseS hj).sig := by
 have r0 : (baseS hj).rho 0 = cellI pre 0 := (rhoS hj (by decide)).trans (fl_pre hj (by decide))
 have r9 : (baseS hj).rho 9 = els.length := (rhoS hj (by decide)).trans (cell_len hj)
 have hh := holdsS hj
 rcases isJ hj h with ⟨k, _, _, _, l, _⟩ | ⟨k, a, _, _, _, l, _⟩ | ⟨k, _, l, _⟩ | ⟨k, _, _, _, _, l, d, o⟩
 ·exact ⟨1, .inl ⟨.inl rfl, l⟩, k, fun e => (by cases e), fun e => (by cases e), Lf.Holds.onlyB hj hh (r0.trans k)⟩
 ·exact ⟨2, .inl ⟨.inr (.inl rfl), l⟩, k, fun _ => a, fun e => (by cases e), Lf.Holds.onlyB hj hh (r0.trans k)⟩
 ·rcases k with k | k
  ·exact ⟨3, .inl ⟨.inr (.inr (.inl rfl)), l⟩, k, fun e => (by cases e), fun e => (by cases e), Lf.Holds.onlyB hj hh (r0.trans k)⟩
  ·exact ⟨5, .inl ⟨.inr (.inr (.inr rfl)), l⟩, k, fun e => (by cases e), fun e => (by cases e), Lf.Holds.onlyB hj hh (r0.trans k)⟩
 ·exact ⟨4, .inr ⟨rfl, l⟩, k, fun e => (by cases e), fun _ => ⟨d, o⟩, Lf.Holds.onlyB hj (Lf.Holds.onlyB hj hh (r0.trans k)) r9⟩
theorem sig15 : (baseS hj).sig 15 = decT (cellI pre 7) := sigS hj (j := 2) rfl
theorem sig16 : (baseS hj).sig 16 = decT (cellI pre 8) := sigS hj (j := 3) rfl
theorem sig17 : (baseS hj).sig 17 = decT (cellI pre 6) := sigS hj (j := 4) rfl
theorem sig13 : (baseS hj).sig 13 = opTx ((pre.drop 1).take 5) := sigS hj (j := 0) rfl
theorem sig14 : (baseS hj).sig 14 = plTx post := sigS hj (j := 1) rfl
theorem exp_ok {c : Nat} (hc : (c = 1 ∨ c = 2 ∨ c = 3 ∨ c = 5) ∧ els = [] ∨ c = 4 ∧ els.length < 9) (k : cellI pre 0 = (c : Int)) : strX (baseS hj).sig (expJ c els.length) = jumpT pre els post := by
 letI : Base := baseS hj
 have g1 : strX (baseS hj).sig gotoN = gotoB := sigs_eq (baseS hj) _ _ rfl rfl
 have g2 : strX (baseS hj).sig branchN = branchB := sigs_eq (baseS hj) _ _ rfl rfl
 have g3 : strX (baseS hj).sig bN = bB := sigs_eq (baseS hj) _ _ rfl rfl
 have g4 : strX (baseS hj).sig returnN = returnB := sigs_eq (baseS hj) _ _ rfl rfl
 have g5 : strX (baseS hj).sig abortN = abortB := sigs_eq (baseS hj) _ _ rfl rfl
 have g6 : strX (baseS hj).sig fN = fB := sigs_eq (baseS hj) _ _ rfl rfl
 have g7 : strX (baseS hj).sig openN = openB := sigs_eq (baseS hj) _ _ rfl rfl
 have g8 : strX (baseS hj).sig commaN = commaB := sigs_eq (baseS hj) _ _ rfl rfl
 have g9 : strX (baseS hj).sig closeN = closeB := sigs_eq (baseS hj) _ _ rfl rfl
 unfold jumpT
 rw [k]
 rcases hc with ⟨rfl | rfl | rfl | rfl, _⟩ | ⟨rfl, hn⟩
 ·show strX (baseS hj).sig (gotoN ++ [256 + 15]) = _
  rw [strX_append, strX_one, g1, sig15 hj]
  rfl
 ·show strX (baseS hj).sig (branchN ++ ([256 + 13] ++ (bN ++ ([256 + 15] ++ (bN ++ [256 + 16]))))) = _
  simp only [strX_append, strX_one, g2, g3, sig13 hj, sig15 hj, sig16 hj]
  rfl
 ·exact g4
 ·exact g5
 ·show strX (baseS hj).sig ([256 + 14] ++ (fN ++ ([256 + 17] ++ (openN ++ (joinN commaN ((List.range els.length).map fun i => [256 + (18 + i)]) ++ (closeN ++ [256 + 15])))))) = _
  have hm : ((List.range els.length).map fun i => [256 + (18 + i)]).map (strX (baseS hj).sig) = els.map opTx := by
   refine List.ext_getElem? fun i => ?_
   by_cases hi : i < els.length
   ·rw [List.map_map, List.getElem?_map, List.getElem?_range hi, List.getElem?_map, List.getElem?_eq_getElem hi]
    show some (strX (baseS hj).sig [256 + (18 + i)]) = some _
    rw [strX_one, sig_el hj (List.getElem?_eq_getElem hi)]
   ·rw [List.getElem?_eq_none (by simp; omega), List.getElem?_eq_none (by simp; omega)]
  simp only [strX_append, strX_one, strX_joinN, g6, g7, g8, g9, sig14 hj, sig15 hj, sig17 hj, hm]
  rfl
noncomputable def goodTM (mk : S → V) (F : FuncId) (c n : Nat) : Bool := sayV (mk (S.ofXs (expJ c n))) (runTJ F c n)
theorem text_JM {mk : S → V} {val : List UInt8 → Value} (hmk : ∀ (b0 : Base) r l u, @VV b0 r (mk (S.ofXs l)) u → u = val (strX b0.sig l)) {F : FuncId} (h0 : ([1, 2, 3, 5].all fun c => goodTM mk F c 0) = true) (h4 : ((List.range 9).all fun n => goodTM mk F 4 n) = true) (kt : TabOk w) (hok : okJ pre els post = true) : Calls Tryd.prog F #[v] w fun x w' => x = .returned (val (jumpT pre els post)) ∧ Below w.heap.size w w' := by
 obtain ⟨c, hc, k, hA, hC, hL⟩ := some_txt hj hok
 have hrun : goodTM mk F c els.length = true := by
  rcases hc with ⟨hc, e⟩ | ⟨rfl, hn⟩
  ·rw [e]
   exact List.all_eq_true.1 h0 c (by rcases hc with rfl | rfl | rfl | rfl <;> simp)
  ·exact List.all_eq_true.1 h4 _ (List.mem_range.2 hn)
 have hKok : KnowOk ((LT c els.length).know (strsB 13 (5 + els.length))) (baseS hj).rho (baseS hj).sig := Lf.ok hL (lensS hj)
 letI bL : Base := (baseS hj).withK ((LT c els.length).know (strsB 13 (5 + els.length))) hKok
 have hca : All2 (@VA bL r0) (([.g cellsJ] : List A).map (LT c els.length).nA) [v] := @Lf.nAs_ok bL _ r0 hL _ _ (cellsS_ok hj)
 have frz : ∀ w' : World, (∀ k, k < bL.nb → w'.heap[k]? = bL.g k) → JumpIs w' v pre sv post els ∧ TabOk w' := fun w' hw => ⟨hj.frz hw, kt.all fun k hk => hw k (by have := kt.size; show k < w.heap.size; omega)⟩
 have num : ∀ i, i < 9 → kPre[i]? = some (.i .i64) → -9223372036854775808 ≤ cellI pre i ∧ cellI pre i ≤ 9223372036854775807 := fun i hi hk => by
  obtain ⟨x, hx, n, hn, h0, h1⟩ := okPre hj i hi hk
  subst hn
  unfold cellI
  rw [hx]
  exact ⟨h0, h1⟩
 have rowI : ∀ (i s : Nat), i < 9 → kPre[i]? = some (.i .i64) → bL.sig s = decT (cellI pre i) →
   @Sound bL Tryd.prog (rowG 29 [.s (.xi .i64 i)] (mS1 (.xs [256 + s]))) := fun i s hi hk hs => by
  obtain ⟨n0, n1⟩ := num i hi hk
  have hr : bL.rho i = cellI pre i := (rhoS hj (by omega)).trans (fl_pre hj hi)
  have hv : All2 (@VA bL r0) [.s (.xi .i64 i)] [.int .i64 (cellI pre i)] := ⟨congrArg (Value.int .i64) hr.symm, trivial⟩
  have hu : ∀ r, @VV bL r (mS1 (.xs [256 + s])) (vS1 (decT (cellI pre i))) := fun r => by
   show Value.string _ = Value.string ⟨(strX bL.sig [256 + s]).toArray⟩
   rw [@strX_one, hs]
  exact @sound_rowG bL _ _ ⟨_, Tryd.func29, by kernel_rfl, by kernel_rfl⟩ _ _ rfl _ hv _ hu fun w' hw => itoa_calls n0 n1 (frz w' hw).2
 have vv2 : ∀ (s : Nat) (l : List UInt8), bL.sig s = l → ∀ r, @VV bL r (mS2 (.xs [256 + s])) (vS2 l) := fun s l h r => by
  refine ⟨[_, _], rfl, ?_, rfl, trivial⟩
  show Value.string _ = Value.string ⟨(strX bL.sig [256 + s]).toArray⟩
  rw [@strX_one, h]
 have vv1 : ∀ (s : Nat) (l : List UInt8), bL.sig s = l → ∀ r, @VV bL r (mS1 (.xs [256 + s])) (vS1 l) := fun s l h r => by
  show Value.string _ = Value.string ⟨(strX bL.sig [256 + s]).toArray⟩
  rw [@strX_one, h]
 have oneR : ∀ (l : List S), l.all S.one = true → (([.g l] : List A).all A.oneR) = true := fun l h => by
  show (l.all S.oneR && true) = true
  rw [Bool.and_true]
  refine List.all_eq_true.2 fun x hx => ?_
  have := List.all_eq_true.1 h x hx
  cases x <;> first | exact this | rfl
 have hS0 : @Sound bL Tryd.prog (orcs (rowsT c els.length)) := by
  refine @sound_orcs bL _ _ fun O hO => ?_
  unfold rowsT at hO
  rcases List.mem_append.1 hO with hO | hO
  ·unfold rowsT0 at hO
   rcases List.mem_append.1 hO with hO | hO
   ·simp only [List.mem_cons, List.not_mem_nil, or_false] at hO
    rcases hO with rfl | rfl
    ·exact @sound_rowG bL _ _ ⟨_, Tryd.func27, by kernel_rfl, by kernel_rfl⟩ _ _ (cells_one _) _ hca (v8 true) (fun _ => rfl) fun w' hw => by
      have := jA_tests w' v pre sv post els (frz w' hw).1
      rw [hok] at this
      exact this
    ·exact @sound_rowG bL _ _ ⟨_, Tryd.func69, by kernel_rfl, by kernel_rfl⟩ _ _ (cells_one _) _ hca (.bool true) (fun _ => rfl) fun w' hw => by
      have := jV_tests w' v pre sv post els (frz w' hw).1
      rw [hok] at this
      exact this
   ·simp only [List.flatMap_cons, List.flatMap_nil, List.append_nil, List.cons_append, List.nil_append, List.mem_cons, List.not_mem_nil, or_false] at hO
    rcases hO with rfl | rfl | rfl
    ·exact rowI 7 15 (by decide) rfl (sig15 hj)
    ·exact rowI 8 16 (by decide) rfl (sig16 hj)
    ·exact rowI 6 17 (by decide) rfl (sig17 hj)
  ·have flatP : flatJ pre els post = pre ++ Value.int .i64 els.length :: post := rfl
   cases h2 : Nat.beq c 2 with
   | true =>
    rw [h2] at hO
    have hv := hA (Nat.eq_of_beq_eq_true h2)
    have hk : All2 Kd.ok opK ((pre.drop 1).take 5) := (hj.pre.drop 1).take 5
    have cl : All2 (@VS bL r0) (clL (LT c els.length) 1 opK) ((pre.drop 1).take 5) := @clL_ok bL _ hL (behind (flatJ pre els post) (strsJ hj) (codesJ hj)) rfl rfl opK ((pre.drop 1).take 5) (pre.take 1) (pre.drop 6 ++ (Value.int .i64 els.length :: post ++ ((strsJ hj).map strV ++ (codesJ hj).map (Value.int .i64)))) 1 (by
     have key : ∀ X : List Value, pre ++ X = pre.take 1 ++ ((pre.drop 1).take 5 ++ (pre.drop 6 ++ X)) := fun X => by
      rw [show pre.drop 6 = (pre.drop 1).drop 5 by rw [List.drop_drop], ← List.append_assoc ((pre.drop 1).take 5), List.take_append_drop, ← List.append_assoc, List.take_append_drop]
     show (pre ++ (Value.int .i64 els.length :: post)) ++ _ = _
     rw [List.append_assoc]
     exact key _) (by rw [List.length_take, len_pre hj]; decide) hk
    have hva : All2 (@VA bL r0) [.g (clL (LT c els.length) 1 opK)] [.agg ((pre.drop 1).take 5).toArray] := ⟨⟨_, rfl, cl⟩, trivial⟩
    simp only [cond_true, rowsTA, List.mem_cons, List.not_mem_nil, or_false] at hO
    rcases hO with rfl
    exact @sound_rowG bL _ _ ⟨_, Tryd.func30, by kernel_rfl, by kernel_rfl⟩ _ _ (oneR _ (ones_T _ opK 1 rfl)) _ hva _ (vv2 13 _ (sig13 hj)) fun w' hw => topA_texts _ hk hv w' (frz w' hw).2
   | false =>
    rw [h2] at hO
    cases h4 : Nat.beq c 4 with
    | false => rw [h4] at hO; cases hO
    | true =>
     rw [h4] at hO
     obtain ⟨hd, ho⟩ := hC (Nat.eq_of_beq_eq_true h4)
     have cl : All2 (@VS bL r0) (clL (LT c els.length) 10 kPl) post := @clL_ok bL _ hL (behind (flatJ pre els post) (strsJ hj) (codesJ hj)) rfl rfl kPl post (pre ++ [Value.int .i64 els.length]) ((strsJ hj).map strV ++ (codesJ hj).map (Value.int .i64)) 10 (by
      unfold behind flatJ
      simp only [List.append_assoc, List.cons_append, List.nil_append]) (by simp [len_pre hj]) hj.post
     have hva : All2 (@VA bL r0) [.g (clL (LT c els.length) 10 kPl)] [.agg post.toArray] := ⟨⟨_, rfl, cl⟩, trivial⟩
     simp only [cond_true, cond_false] at hO
     rcases List.mem_append.1 hO with hO | hO
     ·simp only [rowsTD, List.mem_cons, List.not_mem_nil, or_false] at hO
      rcases hO with rfl
      exact @sound_rowG bL _ _ ⟨_, Tryd.func31, by kernel_rfl, by kernel_rfl⟩ _ _ (oneR _ (ones_T _ kPl 10 rfl)) _ hva _ (vv2 14 _ (sig14 hj)) fun w' hw => tplA_texts _ hj.post hd w' (frz w' hw).2
     ·rcases List.mem_append.1 hO with hO | hO
      ·obtain ⟨i, hi, hO⟩ := List.mem_flatMap.1 hO
       have hi := List.mem_range.1 hi
       have he : els[i]? = some els[i] := List.getElem?_eq_getElem hi
       have hk := hj.ops.kd i _ he
       have hv := List.all_eq_true.1 ho _ (List.getElem_mem hi)
       have hva : All2 (@VA bL r0) [.g (elT els.length i)] [.agg els[i].toArray] := ⟨⟨_, rfl, (cells_el hj he).1⟩, trivial⟩
       simp only [List.mem_cons, List.not_mem_nil, or_false] at hO
       rcases hO with rfl
       exact @sound_rowG bL _ _ ⟨_, Tryd.func30, by kernel_rfl, by kernel_rfl⟩ _ _ (oneR _ rfl) _ hva _ (vv2 (18 + i) _ (sig_el hj he)) fun w' hw => topA_texts _ hk hv w' (frz w' hw).2
      ·obtain rfl := List.mem_singleton.1 hO
       exact sound_joinX bL
 have hS : @Sound bL Tryd.prog (@runsL ((LT c els.length).know (strsB 13 (5 + els.length))) (tyOf Tryd.prog) (fnOf Tryd.prog) (orcs (rowsT c els.length)) (tbT els.length) (fun _ _ _ _ => none) 30 15) :=
  @runsL_ok bL _ _ (@tyOf_ok bL Tryd.prog) _ fnOkN _ hS0 mixedN _ (TabsOk.withK (tabsS_ok hj) _) _ (fun f F cd _ _ => Loops.ok_all (fun c => @LoopOk.none bL _ c) cd) 30 15
 obtain ⟨h', hr⟩ := sayV_is hrun
 refine (@calls_flat bL _ w (Nat.le_refl _) (fun _ _ => rfl) _ hS F _ _ hca _ _ hr).mono fun x w' ⟨u, r', e1, e2, e3⟩ => ⟨?_, e3⟩
 rw [e1, hmk bL r' _ u e2, show strX bL.sig (expJ c els.length) = jumpT pre els post from exp_ok hj hc k]
theorem text_J {F : FuncId} (h0 : ([1, 2, 3, 5].all fun c => goodTJ F c 0) = true) (h4 : ((List.range 9).all fun n => goodTJ F 4 n) = true) (kt : TabOk w) (hok : okJ pre els post = true) : Calls Tryd.prog F #[v] w fun x w' => x = .returned (vS2 (jumpT pre els post)) ∧ Below w.heap.size w w' := text_JM hj mS2_ok h0 h4 kt hok
end
theorem jTextA : TextsJ 14 := fun w v pre sv post els kt hj hok => text_J hj textA_runs textA_calls kt hok
end Go.Proofs.YtglmonlofejcgaaDoor.Am
namespace Go.Proofs.YtglmonlofejcgaaDoor.Am
open Go.RowKit
set_option linter.unusedVariables false
set_option linter.unusedSectionVars false
theorem joinK_len {b : Nat} (sep : List UInt8) : ∀ {l : List (List UInt8)}, (∀ x ∈ l, x.length ≤ b) → (joinK sep l).length ≤ l.length * (b + sep.length)
 | [], _ => by simp [joinK]
 | [x], h => by have := h x (List.mem_cons_self ..); simp [joinK]; omega
 | x :: y :: r, h => by
  have h1 := h x (List.mem_cons_self ..)
  have h2 := joinK_len sep (l := y :: r) fun z hz => h z (List.mem_cons_of_mem _ hz)
  have e1 : (joinK sep (x :: y :: r)).length = x.length + sep.length + (joinK sep (y :: r)).length := by simp [joinK]; omega
  rw [e1, show (x :: y :: r).length = (y :: r).length + 1 by rfl, Nat.add_mul]
  omega
theorem jumpT_len {pre post : List Value} {els : List (List Value)} (h : els.length < 9) : (jumpT pre els post).length ≤ 1000 := by
 have h1 := decT_len (cellI pre 6); have h2 := decT_len (cellI pre 7); have h3 := decT_len (cellI pre 8)
 have h4 := opT_most (opdAt ((pre.drop 1).take 5) 0)
 have h5 : (plTx post).length ≤ 25 := placeT_most _ _ _
 have h6 : (joinK commaB (els.map opTx)).length ≤ (els.map opTx).length * (30 + 2) := joinK_len (b := 30) commaB fun x hx => by
  obtain ⟨el, _, rfl⟩ := List.mem_map.1 hx
  exact opT_most _
 rw [List.length_map] at h6
 have e4 : (opTx ((pre.drop 1).take 5)).length ≤ 30 := h4
 unfold jumpT
 split
 ·simp only [List.length_append]; have : gotoB.length = 6 := rfl; omega
 ·split
  ·simp only [List.length_append]; have : branchB.length = 7 := rfl; have : bB.length = 2 := rfl; omega
  ·split
   ·decide
   ·split
    ·decide
    ·simp only [List.length_append]
     have : fB.length = 5 := rfl; have : openB.length = 1 := rfl; have : closeB.length = 3 := rfl
     omega
end Go.Proofs.YtglmonlofejcgaaDoor.Am
