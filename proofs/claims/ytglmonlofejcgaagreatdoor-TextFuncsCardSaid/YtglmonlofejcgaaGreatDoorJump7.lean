/- Comparing jumps: the runs of SameOperands and Same. Comparing jumps: what SameOperands and Same answer. Comparing jumps: what Same answers. -/
import Derived.Test.YtglmonlofejcgaaGreatDoorJump2
import Derived.Test.YtglmonlofejcgaaGreatDoorJump4
import Derived.Test.YtglmonlofejcgaaGreatDoorJump6
set_option linter.unusedVariables false
set_option linter.unusedSectionVars false
set_option maxRecDepth 100000
namespace Go.Proofs.YtglmonlofejcgaaGreatDoor.Am
open Go.RowKit
def gs2 : List Gp := [(true, kJ), (true, kJ)]
def e1S (i : Nat) : List S := bZ (26 + 5 * i) opK
def e2S (n i : Nat) : List S := bZ (26 + 5 * n + 5 * i) opK
def a8b (f : Nat) (xs ys : List S) : List S := xs.take f ++ ys.drop f
def Fe (f : Nat) (b : Bool) (xs : List S) : List S := bif Nat.beq f 3 then xs.set 3 (.bool b) else xs
def dE1 (d f : Nat) (b : Bool) (i : Nat) : List S := bif Nat.beq i d then Fe f b (e1S i) else e1S i
def dE2 (n d f : Nat) (b : Bool) (i : Nat) : List S := bif Nat.blt i d then e1S i else bif Nat.beq i d then Fe f (!b) (a8b f (e1S i) (e2S n i)) else e2S n i
def tbS (n : Nat) (E1 E2 : Nat -> List S) : Tabs := ⟨[(0, 9), (1, 22)], ((List.range n).map fun (i : Nat) => ((0 : Nat), N.c (i : Int), E1 i)) ++ ((List.range n).map fun (i : Nat) => ((1 : Nat), N.c (i : Int), E2 i)), []⟩
noncomputable def LS0 (n : Nat) : Lf := pX (pX (Lf.lV gs2 [] []) 9 n) 22 n
noncomputable def LSn (n : Nat) (ne : List (Nat × Nat)) : Lf := { LS0 n with ne := ne }
noncomputable def LSl : Lf := { Lf.lV gs2 [] [] with ne := [(9, 22)] }
noncomputable def a0M (L : Lf) (tb : Tabs) : R := @qE (L.know []) (lM Tryz.prog) (lZ Tryz.prog) qx tb (fun _ _ _ _ => none) 30 5 47 [.s (.rv 0), .s (.rv 1)] ⟨[], 0⟩ 0
noncomputable def amv (n : Nat) : Bool := tells true (a0M (LSn n []) (tbS n e1S e1S))
def neP (n d f : Nat) : List (Nat × Nat) := bif Nat.beq f 3 then [] else [(26 + 5 * d + f, 26 + 5 * n + 5 * d + f)]
noncomputable def ajp (n d f : Nat) (b : Bool) : Bool := tells false (a0M (LSn n (neP n d f)) (tbS n (dE1 d f b) (dE2 n d f b)))
theorem afl : ((List.range 13).all amv) = true := by kernel_rfl
theorem aei : ((List.range 9).all fun n => (List.range n).all fun d => (List.range 5).all fun f => ajp n d f true && ajp n d f false) = true := by kernel_rfl
theorem a7L : tells false (a0M LSl ⟨[(0, 9), (1, 22)], [], []⟩) = true := by kernel_rfl
def c1J : List S := bZ 0 oM ++ .rv 0 :: bZ 10 kT
noncomputable def agL (L : Lf) (lib : aS) (a b : List S) : R := @qE (L.know []) (lM Tryz.prog) (lZ Tryz.prog) lib Tabs.nought (fun _ _ _ _ => none) 30 5 28 [.g a, .g b] ⟨[], 0⟩ 0
noncomputable def UG (b : Bool) : aS := ku 47 [.s (.rv 0), .s (.rv 1)] (V.s (.bool b))
theorem a4n : (tells true (agL (Lf.lV gs2 [] []) (UG true) c1J (c1J.set 9 (.rv 1))) && tells false (agL (Lf.lV gs2 [] []) (UG false) c1J (c1J.set 9 (.rv 1)))) = true := by kernel_rfl
end Go.Proofs.YtglmonlofejcgaaGreatDoor.Am
namespace Go.Proofs.YtglmonlofejcgaaGreatDoor.Am
open Go.RowKit
set_option maxHeartbeats 1000000
def lJ [Base] (xs : List S) (el : List Value) : Prop := ak (fun x v => ∀ r, VS r x v) xs el
theorem lJ.vs [Base] {xs : List S} {el : List Value} (h : lJ xs el) (r : Ren) : ak (VS r) xs el := h.imp fun _ _ k => k r
theorem lJ.mix [Base] {xs ys : List S} {a b : List Value} (hx : lJ xs a) (hy : lJ ys b) {f : Nat} (h : ∀ k, k < f -> a[k]? = b[k]?) : lJ (a8b f xs ys) b := by
 have e : b = b.take f ++ b.drop f := (List.take_append_drop f b).symm
 have e2 : a.take f = b.take f := List.ext_getElem? fun k => by
  rw [List.getElem?_take, List.getElem?_take]
  split
  ·exact h k (by assumption)
  ·rfl
 unfold a8b lJ
 rw [e]
 refine ak.app ?_ (hy.drop f)
 have := hx.take f
 rw [e2] at this
 exact this
theorem lJ.put [Base] {xs : List S} {a : List Value} (hx : lJ xs a) {f : Nat} {x : S} {v : Value} (hv : a[f]? = some v) (h : ∀ r, VS r x v) : lJ (xs.set f x) a := by
 have : a.set f v = a := List.ext_getElem? fun k => by
  rw [List.getElem?_set]
  split
  ·rename_i hk
   subst hk
   split
   ·exact hv.symm
   ·rename_i hl
    rw [List.getElem?_eq_none (by omega)] at hv
    cases hv
  ·rfl
 have h2 := ak.set (R := fun x v => ∀ r, VS r x v) f hx h
 rw [this] at h2
 exact h2
theorem VY : ∀ {l : List (Nat × N × List S)} {k : Nat} {i : N} {cs : List S}, Tabs.DW ⟨[], l, []⟩ k i = some cs -> (k, i, cs) ∈ l
 | [], k, i, cs, h => by cases h
 | p :: l, k, i, cs, h => by
  have h : (bif Nat.beq p.1 k && p.2.1.eqv i then some p.2.2 else Tabs.DW ⟨[], l, []⟩ k i) = some cs := h
  cases hb : (Nat.beq p.1 k && p.2.1.eqv i) <;> rw [hb] at h <;> simp only [cond_true, cond_false] at h
  ·exact List.mem_cons_of_mem _ (VY h)
  ·cases h
   simp only [Bool.and_eq_true] at hb
   obtain ⟨a, b, c⟩ := p
   obtain rfl := Nat.eq_of_beq_eq_true hb.1
   obtain rfl := N.ug hb.2
   exact List.mem_cons_self ..
theorem CJ {α : Type} : ∀ {l m : List α}, l.length = m.length -> l ≠ m -> ∃ d, d < l.length /\ (∀ i, i < d -> l[i]? = m[i]?) /\ l[d]? ≠ m[d]?
 | [], [], _, h => absurd rfl h
 | [], _ :: _, h, _ => by cases h
 | _ :: _, [], h, _ => by cases h
 | x :: l, y :: m, hl, hn => by
  by_cases e : x = y
  ·subst e
   obtain ⟨d, h1, h2, h3⟩ := CJ (l := l) (m := m) (by simpa using hl) (fun e => hn (by rw [e]))
   refine ⟨d + 1, by simp; omega, fun i hi => ?_, by simpa using h3⟩
   cases i with
   | zero => rfl
   | succ i => simpa using h2 i (by omega)
  ·exact ⟨0, by simp, fun i hi => absurd hi (Nat.not_lt_zero i), by simpa using e⟩
section
variable {w : World} {v v' : Value} {pre pre' : List Value} {sv sv' : Value} {post post' : List Value} {els els' : List (List Value)} (hj : eU w v pre sv post els) (hk : eU w v' pre' sv' post' els')
include hj hk
def Pz (_ : eU w v pre sv post els) (_ : eU w v' pre' sv' post' els') : List Value := aW pre els post ++ (aW pre' els' post' ++ [])
def Cb (_ : eU w v pre sv post els) (_ : eU w v' pre' sv' post' els') : List Int := els.flatten.map aY ++ els'.flatten.map aY
theorem tC : (Pz hj hk).length = 26 := by
 have h1 := iI hj
 have h2 := iI hk
 simp [Pz, h1, h2]
theorem al3 : Gps gs2 [.agg (aW pre els post).toArray, .agg (aW pre' els' post').toArray] (Pz hj hk) :=
 ⟨_, _, rfl, ⟨qP hj, .inl ⟨rfl, rfl⟩⟩, _, _, rfl, ⟨qP hk, .inl ⟨rfl, rfl⟩⟩, rfl⟩
@[reducible] noncomputable def dW : Base :=
 { Know.nought with nb := w.heap.size, g := fun k => w.heap[k]?, rho := dh (behind (Pz hj hk) [] (Cb hj hk)), sig := fD (behind (Pz hj hk) [] (Cb hj hk)), ok := aG.nought _ _, lst := fun k => match k with | 0 => ⟨sv, els⟩ | _ => ⟨sv', els'⟩ }
theorem aj7 : Lens [] (dW hj hk).rho (dW hj hk).sig := qO (n := 26) (a := 0) (al3 hj hk) rfl (tC hj hk) rfl
theorem Fz {i : Nat} (h : i < 13) : (dW hj hk).rho i = ah (aW pre els post) i := by
 show dh _ _ = _
 rw [lC (by rw [tC]; omega)]
 exact jQ (by rw [iI hj]; exact h)
theorem SC {i : Nat} (h : i < 13) : (dW hj hk).rho (13 + i) = ah (aW pre' els' post') i := by
 show dh _ _ = _
 rw [lC (by rw [tC]; omega)]
 unfold Pz
 rw [kH (iI hj), List.append_nil]
theorem Ry {l : List (List Value)} (hl : ∀ (i : Nat) (el : List Value), l[i]? = some el -> ak Kd.ok opK el) : ∀ x ∈ l, x.length = 5 := fun x hx => by
 obtain ⟨k, hx'⟩ := List.getElem?_of_mem hx
 have := (hl k x hx').len
 simp [opK] at this
 omega
theorem a5F : els.flatten.length = 5 * els.length := by
 have h := Ry hj hk (l := els) hj.ops.kd
 clear hj hk
 induction els with
 | nil => rfl
 | cons x l ih => rw [List.flatten_cons, List.length_append, h x (List.mem_cons_self ..), ih fun y hy => h y (List.mem_cons_of_mem _ hy), List.length_cons]; omega
theorem ac3 {i f : Nat} {el : List Value} (h : els[i]? = some el) (hf : f < 5) : (dW hj hk).rho (26 + 5 * i + f) = ah el f := by
 have h5 := BF hj h
 have hx : el[f]? = some (el[f]'(by omega)) := List.getElem?_eq_getElem _
 have h1 := Df hj (Ry hj hk hj.ops.kd) h hf
 have : (Cb hj hk)[5 * i + f]? = some (ah el f) := by
  unfold Cb
  rw [List.getElem?_append_left (by rw [List.length_map]; exact (List.getElem?_eq_some_iff.1 (h1.trans hx)).1), List.getElem?_map, h1, hx]
  show some (aY _) = _
  unfold ah
  rw [hx]
 rw [show 26 + 5 * i + f = 26 + 0 + (5 * i + f) by omega]
 exact gV (tC hj hk) rfl this
theorem ae0 {i f : Nat} {el : List Value} (h : els'[i]? = some el) (hf : f < 5) : (dW hj hk).rho (26 + 5 * els.length + 5 * i + f) = ah el f := by
 have h5 := BF hk h
 have hx : el[f]? = some (el[f]'(by omega)) := List.getElem?_eq_getElem _
 have h1 := Df hk (Ry hk hj hk.ops.kd) h hf
 have hl := a5F hj hk
 have : (Cb hj hk)[5 * els.length + (5 * i + f)]? = some (ah el f) := by
  unfold Cb
  rw [List.getElem?_append_right (by rw [List.length_map]; omega), List.length_map, hl, show 5 * els.length + (5 * i + f) - 5 * els.length = 5 * i + f by omega, List.getElem?_map, h1, hx]
  show some (aY _) = _
  unfold ah
  rw [hx]
 rw [show 26 + 5 * els.length + 5 * i + f = 26 + 0 + (5 * els.length + (5 * i + f)) by omega]
 exact gV (tC hj hk) rfl this
theorem a03 (b : Base) {el : List Value} (h : ak Kd.ok opK el) {o : Nat} (hr : ∀ f, f < 5 -> b.rho (o + f) = ah el f) : @lJ b (bZ o opK) el := by
 obtain ⟨a, b', c, d, e, rfl⟩ := vN h
 have r0 := hr 0 (by decide); have r1 := hr 1 (by decide); have r2 := hr 2 (by decide); have r3 := hr 3 (by decide); have r4 := hr 4 (by decide)
 refine ⟨fun r => ?_, fun r => ?_, fun r => ?_, fun r => ?_, fun r => ?_, trivial⟩
 ·exact congrArg (Value.int .u8) r0.symm
 ·exact congrArg (Value.int .i64) r1.symm
 ·exact congrArg (Value.int .i64) r2.symm
 ·show _ = Value.bool ([((o + 1 + 1 + 1 : Nat), (1 : Int))].any fun p => decide (b.rho p.1 = p.2))
  simp only [List.any_cons, List.any_nil, Bool.or_false]
  rw [show o + 1 + 1 + 1 = o + 3 by omega, r3]
  cases d <;> rfl
 ·exact congrArg (Value.int .u8) r4.symm
theorem tN {i : Nat} {el : List Value} (h : els[i]? = some el) : @lJ (dW hj hk) (e1S i) el := a03 hj hk _ (hj.ops.kd i el h) fun f hf => ac3 hj hk h hf
theorem a05 {i : Nat} {el : List Value} (h : els'[i]? = some el) : @lJ (dW hj hk) (e2S els.length i) el := a03 hj hk _ (hk.ops.kd i el h) fun f hf => ae0 hj hk h hf
theorem aj8 {w : World} {v : Value} {pre : List Value} {sv : Value} {post : List Value} {els : List (List Value)} (hj : eU w v pre sv post els) {b : Base} (hg : ∀ k, k < w.heap.size -> b.g k = w.heap[k]?) (hnb : b.nb = w.heap.size) {m : Nat} (hl : b.lst m = ⟨sv, els⟩) {k : Nat} (hkl : k < els.length) {cs : List S} (hd : @lJ b cs (els[k])) :
  ∃ b0 off n c el, (b.lst m).v = .slice (some ⟨b0, off, none⟩) n c /\ 0 <= @NV b (.c (k : Int)) /\ @NV b (.c (k : Int)) < n /\ @ahu b m (.c (k : Int)) b0 (off + (@NV b (.c (k : Int))).toNat * cs.length) el /\ ak (fun x v => ∀ r, @VS b r x v) cs el := by
 have he : els[k]? = some els[k] := List.getElem?_eq_getElem hkl
 obtain ⟨b0, off, c, e, hc⟩ := hj.ops.at_ k _ he
 have hlen : cs.length = 5 := hd.len.trans (BF hj he)
 refine ⟨b0, off, els.length, c, els[k], by rw [hl]; exact e, by show (0 : Int) <= (k : Int); omega, by show (k : Int) < _; omega, ⟨by rw [hl]; show els[((k : Nat) : Int).toNat]? = _; rw [Int.toNat_natCast]; exact he, fun f u hf w1 hw => ?_⟩, hd⟩
 have hcell := hc f u hf
 rw [hlen]
 show w1.cell? ⟨b0, off + ((k : Nat) : Int).toNat * 5 + f, none⟩ = some u
 rw [Int.toNat_natCast]
 have hlt := World.block_lt_of_cell? w ⟨b0, off + k * 5 + f, none⟩ hcell
 have hblk : w1.heap[b0]? = w.heap[b0]? := (hw b0 (by show b0 < b.nb; rw [hnb]; exact hlt)).trans (hg b0 hlt)
 rw [<- hcell]
 exact World.cell?_of_block hblk
theorem ajZ : ak (@VA (dW hj hk) r0) [.s (.rv 0), .s (.rv 1)] [sv, sv'] := by
 obtain ⟨A, c, e⟩ := hj.ops.sl
 obtain ⟨A', c', e'⟩ := hk.ops.sl
 exact ⟨⟨A, els.length, c, e, e⟩, ⟨A', els'.length, c', e', e'⟩, trivial⟩
theorem aiv {n : Nat} (h1 : els.length = n) (h2 : els'.length = n) {E1 E2 : Nat -> List S} (d1 : ∀ i el, els[i]? = some el -> @lJ (dW hj hk) (E1 i) el) (d2 : ∀ i el, els'[i]? = some el -> @lJ (dW hj hk) (E2 i) el) : @aZ (dW hj hk) (tbS n E1 E2) := by
 letI : Base := dW hj hk
 refine ⟨fun l j h => ?_, fun l i cs h => ?_, fun i c j h => (by cases h)⟩
 ·have h : (bif Nat.beq 0 l then some 9 else bif Nat.beq 1 l then some 22 else none) = some j := h
  cases hb : Nat.beq 0 l <;> rw [hb] at h <;> simp only [cond_true, cond_false] at h
  ·cases hb1 : Nat.beq 1 l <;> rw [hb1] at h <;> cases h
   obtain rfl := Nat.eq_of_beq_eq_true hb1
   obtain ⟨A, c, e⟩ := hk.ops.sl
   exact ⟨A, els'.length, c, e, (SC hj hk (i := 9) (by decide)).trans (iU hk)⟩
  ·cases h
   obtain rfl := Nat.eq_of_beq_eq_true hb
   obtain ⟨A, c, e⟩ := hj.ops.sl
   exact ⟨A, els.length, c, e, (Fz hj hk (by decide)).trans (iU hj)⟩
 ·have hm := VY (show Tabs.DW ⟨[], _, []⟩ l i = some cs from h)
  rcases List.mem_append.1 hm with hm | hm
  ·obtain ⟨k, hkr, e⟩ := List.mem_map.1 hm
   cases e
   have hkr := List.mem_range.1 hkr
   exact aj8 hj hk hj (b := dW hj hk) (fun _ _ => rfl) rfl rfl (by omega) (d1 k _ (List.getElem?_eq_getElem (by omega)))
  ·obtain ⟨k, hkr, e⟩ := List.mem_map.1 hm
   cases e
   have hkr := List.mem_range.1 hkr
   exact aj8 hj hk hk (b := dW hj hk) (fun _ _ => rfl) rfl rfl (by omega) (d2 k _ (List.getElem?_eq_getElem (by omega)))
theorem Z7 : (Lf.lV gs2 [] []).Holds (dW hj hk).rho (dW hj hk).sig := Lf.xG (al3 hj hk) (ivS := []) (strs := []) trivial (i0 := []) (i1 := Cb hj hk) rfl trivial
theorem aeu {L : Lf} (hL : L.Holds (dW hj hk).rho (dW hj hk).sig) {tb : Tabs} (ht : @aZ (dW hj hk) tb) {b : Bool} (hr : tells b (a0M L tb) = true) : Calls Tryz.prog 47 #[sv, sv'] w fun e w' => e = .returned (.bool b) /\ Below w.heap.size w w' := by
 letI bL : Base := (dW hj hk).aH (L.know []) (Lf.ok hL (aj7 hj hk))
 exact @II bL _ w (Nat.le_refl _) (fun _ _ => rfl) _ (@qo bL _ _ (@qQ bL Tryz.prog) _ Pm qx (fun _ _ _ _ _ _ h => by cases h) Bc _ (aZ.aH ht _) _ (fun f F cd _ _ => Loops.pW (fun c => @aO.none bL _ c) cd) 30 5) _ _ _ (ajZ hj hk) _ hr
theorem a0O {n : Nat} (h1 : els.length = n) (h2 : els'.length = n) {ne : List (Nat × Nat)} (hne : ∀ i j, (i, j) ∈ ne -> (dW hj hk).rho i ≠ (dW hj hk).rho j) : (LSn n ne).Holds (dW hj hk).rho (dW hj hk).sig := by
 have h := Lf.Holds.pX hj (Lf.Holds.pX hj (Z7 hj hk) (i := 9) (c := n) ((Fz hj hk (by decide)).trans (by rw [iU hj, h1]))) (i := 22) (c := n) ((SC hj hk (i := 9) (by decide)).trans (by rw [iU hk, h2]))
 exact ⟨h.iv, fun i j hij => hne i j hij, h.lt, h.to, h.st, h.sn, h.cf⟩
theorem a8Z (e : els = els') (hl : els.length < 13) : Calls Tryz.prog 47 #[sv, sv'] w fun e w' => e = .returned (.bool true) /\ Below w.heap.size w w' := by
 have d2 : ∀ i el, els'[i]? = some el -> @lJ (dW hj hk) (e1S i) el := fun i el h => tN hj hk (e ▸ h)
 exact aeu hj hk (a0O hj hk rfl (by rw [e]) (ne := []) fun i j h => by cases h) (aiv hj hk rfl (by rw [e]) (fun i el h => tN hj hk h) d2) (List.all_eq_true.1 afl els.length (List.mem_range.2 hl))
theorem agD {a b : List Value} {ks : List Kd} (ha : ak Kd.ok ks a) (hb : ak Kd.ok ks b) {f : Nat} {k : Kd} (hkf : ks[f]? = some k) (hs : k ≠ .s) (h : a[f]? ≠ b[f]?) : ah a f ≠ ah b f := by
 obtain ⟨x, hx, kx⟩ := ak.nth ha (n := f) (x := k) (by rw [aK]; exact hkf)
 obtain ⟨y, hy, ky⟩ := ak.nth hb (n := f) (x := k) (by rw [aK]; exact hkf)
 unfold ah
 rw [hx, hy] at h |-
 intro e
 apply h
 cases k with
 | s => exact absurd rfl hs
 | b =>
  obtain ⟨p, rfl⟩ := kx
  obtain ⟨q, rfl⟩ := ky
  cases p <;> cases q <;> first | rfl | exact absurd e (by decide)
 | i kd =>
  obtain ⟨p, rfl, _⟩ := kx
  obtain ⟨q, rfl, _⟩ := ky
  have e : p = q := e
  rw [e]
theorem agk (e : els ≠ els') (hl : els.length < 9) : Calls Tryz.prog 47 #[sv, sv'] w fun e w' => e = .returned (.bool false) /\ Below w.heap.size w w' := by
 letI : Base := dW hj hk
 by_cases hlen : els'.length = els.length
 ·obtain ⟨d, hd, heq, hne⟩ := CJ hlen.symm e
  have ha : els[d]? = some els[d] := List.getElem?_eq_getElem hd
  have hb : els'[d]? = some (els'[d]'(by omega)) := List.getElem?_eq_getElem _
  have ka := hj.ops.kd d _ ha
  have kb := hk.ops.kd d _ hb
  have la := BF hj ha
  have lb := BF hk hb
  have hne' : els[d] ≠ els'[d]'(by omega) := fun q => hne (by rw [ha, hb, q])
  obtain ⟨f, hf, feq, fne⟩ := CJ (by omega) hne'
  have hf5 : f < 5 := by omega
  -- a truth value of each
  have hbool : ∃ b : Bool, f = 3 -> els[d][3]? = some (.bool b) /\ (els'[d]'(by omega))[3]? = some (.bool (!b)) := by
   by_cases h3 : f = 3
   ·subst h3
    obtain ⟨x, hx, b, rfl⟩ := ak.nth ka (n := 3) (x := .b) rfl
    obtain ⟨y, hy, c, rfl⟩ := ak.nth kb (n := 3) (x := .b) rfl
    refine ⟨b, fun _ => ⟨hx, ?_⟩⟩
    rw [hx, hy] at fne
    rw [hy]
    cases b <;> cases c <;> first | rfl | exact absurd rfl fne
   ·exact ⟨true, fun q => absurd q h3⟩
  obtain ⟨b, hb3⟩ := hbool
  have hrun := List.all_eq_true.1 (List.all_eq_true.1 (List.all_eq_true.1 aei els.length (List.mem_range.2 hl)) d (List.mem_range.2 hd)) f (List.mem_range.2 hf5)
  have hrun : ajp els.length d f b = true := by
   simp only [Bool.and_eq_true] at hrun
   cases b
   ·exact hrun.2
   ·exact hrun.1
  refine aeu hj hk (a0O hj hk rfl hlen (ne := neP els.length d f) fun i j hij => ?_) (aiv hj hk rfl hlen (E1 := dE1 d f b) (E2 := dE2 els.length d f b) (fun i el h => ?_) fun i el h => ?_) hrun
  ·unfold neP at hij
   cases h3 : Nat.beq f 3 with
   | true => rw [h3] at hij; cases hij
   | false =>
    rw [h3] at hij
    have hij := List.mem_singleton.1 hij
    cases hij
    rw [ac3 hj hk ha hf5, ae0 hj hk hb hf5]
    have hkf : ∃ k, opK[f]? = some k /\ k ≠ .s := by
     have : f = 0 \/ f = 1 \/ f = 2 \/ f = 3 \/ f = 4 := by omega
     rcases this with rfl | rfl | rfl | rfl | rfl <;> exact ⟨_, rfl, by intro q; cases q⟩
    obtain ⟨k, hk1, hk2⟩ := hkf
    exact agD hj hk ka kb hk1 hk2 fne
  ·unfold dE1
   cases hi : Nat.beq i d with
   | false => exact tN hj hk h
   | true =>
    obtain rfl := Nat.eq_of_beq_eq_true hi
    rw [ha] at h
    cases h
    show @lJ _ (Fe f b (e1S i)) _
    unfold Fe
    cases h3 : Nat.beq f 3 with
    | false => exact tN hj hk ha
    | true => exact lJ.put (tN hj hk ha) (hb3 (Nat.eq_of_beq_eq_true h3)).1 fun _ => rfl
  ·unfold dE2
   cases hlt : Nat.blt i d with
   | true =>
    have : i < d := by rwa [Nat.blt_eq] at hlt
    exact tN hj hk ((heq i this).trans h)
   | false =>
    cases hi : Nat.beq i d with
    | false => exact a05 hj hk h
    | true =>
     obtain rfl := Nat.eq_of_beq_eq_true hi
     rw [hb] at h
     cases h
     have hm : @lJ (dW hj hk) (a8b f (e1S i) (e2S els.length i)) (els'[i]'(by omega)) := lJ.mix (tN hj hk ha) (a05 hj hk hb) feq
     show @lJ _ (Fe f (!b) (a8b f (e1S i) (e2S els.length i))) _
     unfold Fe
     cases h3 : Nat.beq f 3 with
     | false => exact hm
     | true => exact lJ.put hm (hb3 (Nat.eq_of_beq_eq_true h3)).2 fun _ => rfl
 ·have hh : LSl.Holds (dW hj hk).rho (dW hj hk).sig := by
   have h := Z7 hj hk
   refine ⟨h.iv, fun i j hij => ?_, h.lt, h.to, h.st, h.sn, h.cf⟩
   have : (i, j) ∈ [((9 : Nat), (22 : Nat))] := hij
   simp only [List.mem_singleton, Prod.mk.injEq] at this
   obtain ⟨rfl, rfl⟩ := this
   rw [Fz hj hk (by decide), show (22 : Nat) = 13 + 9 by rfl, SC hj hk (by decide), iU hj, iU hk]
   omega
  refine aeu hj hk hh ?_ a7L
  letI : Base := dW hj hk
  refine ⟨fun l j h => ?_, fun l i cs h => (by cases h), fun i c j h => (by cases h)⟩
  have h : (bif Nat.beq 0 l then some 9 else bif Nat.beq 1 l then some 22 else none) = some j := h
  cases hb : Nat.beq 0 l <;> rw [hb] at h <;> simp only [cond_true, cond_false] at h
  ·cases hb1 : Nat.beq 1 l <;> rw [hb1] at h <;> cases h
   obtain rfl := Nat.eq_of_beq_eq_true hb1
   obtain ⟨A, c, e⟩ := hk.ops.sl
   exact ⟨A, els'.length, c, e, (SC hj hk (i := 9) (by decide)).trans (iU hk)⟩
  ·cases h
   obtain rfl := Nat.eq_of_beq_eq_true hb
   obtain ⟨A, c, e⟩ := hj.ops.sl
   exact ⟨A, els.length, c, e, (Fz hj hk (by decide)).trans (iU hj)⟩
end
end Go.Proofs.YtglmonlofejcgaaGreatDoor.Am
namespace Go.Proofs.YtglmonlofejcgaaGreatDoor.Am
open Go.RowKit
set_option maxHeartbeats 1000000
theorem YQ (b : Base) : ∀ {ks : List Kd} {us : List Value} {o : Nat}, (ks.all fun k => match k with | .s => false | _ => true) = true -> ak Kd.ok ks us -> (∀ i, i < us.length -> b.rho (o + i) = ah us i) -> @lJ b (bZ o ks) us
 | [], [], _, _, _, _ => trivial
 | k :: ks, u :: us, o, hs, hk, hr => by
  simp only [List.all_cons, Bool.and_eq_true] at hs
  have h0 : b.rho o = aY u := hr 0 (by simp)
  refine ⟨fun r => ?_, YQ b (o := o + 1) hs.2 hk.2 fun i hi => ?_⟩
  ·cases k with
   | s => exact absurd hs.1 (by decide)
   | b =>
    obtain ⟨p, rfl⟩ := hk.1
    show _ = Value.bool ([((o : Nat), (1 : Int))].any fun p => decide (b.rho p.1 = p.2))
    simp only [List.any_cons, List.any_nil, Bool.or_false]
    rw [h0]
    cases p <;> rfl
   | i kd =>
    obtain ⟨n, rfl, _⟩ := hk.1
    exact congrArg (Value.int kd) h0.symm
  ·have := hr (i + 1) (by simpa using hi)
   rw [show o + 1 + i = o + (i + 1) by omega, this]
   rfl
 | [], _ :: _, _, _, h, _ => h.elim
 | _ :: _, [], _, _, h, _ => h.elim
section
variable {w : World} {v v' : Value} {pre pre' : List Value} {sv sv' : Value} {post post' : List Value} {els els' : List (List Value)} (hj : eU w v pre sv post els) (hk : eU w v' pre' sv' post' els')
include hj hk
theorem a1o : @lJ (dW hj hk) c1J (pre ++ sv :: post) := by
 refine ak.app (YQ _ rfl hj.pre fun i hi => ?_) ⟨fun r => ?_, YQ _ rfl hj.post fun i hi => ?_⟩
 ·have := iD hj
  rw [Nat.zero_add, Fz hj hk (by omega), RF hj (by omega)]
 ·obtain ⟨A, c, e⟩ := hj.ops.sl
  exact ⟨A, els.length, c, e, e⟩
 ·have := Us hj
  rw [Fz hj hk (by omega), a1D hj]
theorem alf {L : Lf} (hL : L.Holds (dW hj hk).rho (dW hj hk).sig) {lib : aS} (hlib : ∀ b : Base, b.nb = w.heap.size -> b.g = (fun k => w.heap[k]?) -> b.lst = (dW hj hk).lst -> @Sound b Tryz.prog lib) {a b : List S} (ha : @lJ (dW hj hk) a (pre ++ sv :: post)) (hb : @lJ (dW hj hk) b (pre' ++ sv' :: post')) {t : Bool} (hr : tells t (agL L lib a b) = true) :
  Calls Tryz.prog 28 #[v, v'] w fun e w' => e = .returned (.bool t) /\ Below w.heap.size w w' := by
 letI bL : Base := (dW hj hk).aH (L.know []) (Lf.ok hL (aj7 hj hk))
 have hv : ak (@VA bL r0) [.g a, .g b] [v, v'] := ⟨⟨_, hj.v, @lJ.vs (dW hj hk) _ _ ha r0⟩, ⟨_, hk.v, @lJ.vs (dW hj hk) _ _ hb r0⟩, trivial⟩
 exact @II bL _ w (Nat.le_refl _) (fun _ _ => rfl) _ (@qo bL _ _ (@qQ bL Tryz.prog) _ Pm lib (hlib bL rfl rfl rfl) Bc _ (@aZ.nought bL) _ (fun f F cd _ _ => Loops.pW (fun c => @aO.none bL _ c) cd) 30 5) _ _ _ hv _ hr
theorem aai {t : Bool} (h : ∀ w' : World, (∀ k, k < w.heap.size -> w'.heap[k]? = w.heap[k]?) -> Calls Tryz.prog 47 #[sv, sv'] w' fun e w'' => e = .returned (.bool t) /\ Below w'.heap.size w' w'') (b : Base) (hnb : b.nb = w.heap.size) (hg : b.g = fun k => w.heap[k]?) (hl : b.lst = (dW hj hk).lst) : @Sound b Tryz.prog (UG t) := by
 letI : Base := b
 obtain ⟨A, c, e⟩ := hj.ops.sl
 obtain ⟨A', c', e'⟩ := hk.ops.sl
 have hv : ak (@VA b r0) [.s (.rv 0), .s (.rv 1)] [sv, sv'] := ⟨⟨A, els.length, c, by rw [hl]; exact e, e⟩, ⟨A', els'.length, c', by rw [hl]; exact e', e'⟩, trivial⟩
 exact @dA b _ _ ⟨_, Tryz.func47, by kernel_rfl, by kernel_rfl⟩ _ _ rfl _ hv (.bool t) (fun _ => rfl) fun w' hw => h w' fun k hk' => by
  have h1 : w'.heap[k]? = b.g k := hw k (by show k < b.nb; rw [hnb]; exact hk')
  rw [h1, hg]
theorem a3v {t : Bool} (e1 : pre = pre') (e2 : post = post') (ht : t = true /\ els = els' /\ els.length < 13 \/ t = false /\ els ≠ els' /\ els.length < 9) : Calls Tryz.prog 28 #[v, v'] w fun e w' => e = .returned (.bool t) /\ Below w.heap.size w w' := by
 have hb : @lJ (dW hj hk) (c1J.set 9 (.rv 1)) (pre' ++ sv' :: post') := by
  have h1 := a1o hj hk
  obtain ⟨A', c', e'⟩ := hk.ops.sl
  have h2 := ak.set (R := fun x v => ∀ r, @VS (dW hj hk) r x v) 9 h1 (x := .rv 1) (y := sv') fun r => ⟨A', els'.length, c', e', e'⟩
  have : (pre ++ sv :: post).set 9 sv' = pre' ++ sv' :: post' := by
   rw [<- e1, <- e2, List.set_append_right _ _ (by rw [iD hj]; exact Nat.le_refl _), iD hj]
   rfl
  rw [this] at h2
  exact h2
 have hrun := a4n
 simp only [Bool.and_eq_true] at hrun
 have hr : tells t (agL (Lf.lV gs2 [] []) (UG t) c1J (c1J.set 9 (.rv 1))) = true := by
  rcases ht with ⟨rfl, _⟩ | ⟨rfl, _⟩
  ·exact hrun.1
  ·exact hrun.2
 refine alf hj hk (Z7 hj hk) (lib := UG t) (aai hj hk fun w' hw => ?_) (a1o hj hk) hb hr
 rcases ht with ⟨rfl, q1, q2⟩ | ⟨rfl, q1, q2⟩
 ·exact a8Z (hj.frz hw) (hk.frz hw) q1 q2
 ·exact agk (hj.frz hw) (hk.frz hw) q1 q2
end
end Go.Proofs.YtglmonlofejcgaaGreatDoor.Am
