/- Comparing jumps: the runs of SameOperands and Same. Comparing jumps: what SameOperands and Same answer. Comparing jumps: what Same answers. -/
import Derived.Test.YtaamdiknefodgaaDoorJump2
import Derived.Test.YtaamdiknefodgaaDoorJump4
import Derived.Test.YtaamdiknefodgaaDoorJump6
/-! Comparing jumps: the runs of SameOperands and Same. -/
namespace Go.Proofs.YtaamdiknefodgaaDoor.Am
open Go.RowKit
set_option maxRecDepth 100000
set_option linter.unusedVariables false
set_option linter.unusedSectionVars false
def gs2 : List Gp := [(true, kJ), (true, kJ)]
def e1S (i : Nat) : List S := cellsT (26 + 5 * i) opK
def e2S (n i : Nat) : List S := cellsT (26 + 5 * n + 5 * i) opK
/-- the first f cells of one, then those of the other; at f truth values that differ -/
def mixS (f : Nat) (xs ys : List S) : List S := xs.take f ++ ys.drop f
def boolAt (f : Nat) (b : Bool) (xs : List S) : List S := bif Nat.beq f 3 then xs.set 3 (.bool b) else xs
def dE1 (d f : Nat) (b : Bool) (i : Nat) : List S := bif Nat.beq i d then boolAt f b (e1S i) else e1S i
def dE2 (n d f : Nat) (b : Bool) (i : Nat) : List S := bif Nat.blt i d then e1S i else bif Nat.beq i d then boolAt f (!b) (mixS f (e1S i) (e2S n i)) else e2S n i
def tbS (n : Nat) (E1 E2 : Nat → List S) : Tabs := ⟨[(0, 9), (1, 22)], ((List.range n).map fun (i : Nat) => ((0 : Nat), N.c (i : Int), E1 i)) ++ ((List.range n).map fun (i : Nat) => ((1 : Nat), N.c (i : Int), E2 i)), []⟩
noncomputable def LS0 (n : Nat) : Lf := onlyB (onlyB (Lf.startB gs2 [] []) 9 n) 22 n
noncomputable def LSn (n : Nat) (ne : List (Nat × Nat)) : Lf := { LS0 n with ne := ne }
noncomputable def LSl : Lf := { Lf.startB gs2 [] [] with ne := [(9, 22)] }
noncomputable def runS (L : Lf) (tb : Tabs) : R := @runsL (L.know []) (tyOf Tryd.prog) (fnOf Tryd.prog) noneO tb (fun _ _ _ _ => none) 30 5 71 [.s (.rv 0), .s (.rv 1)] ⟨[], 0⟩ 0
noncomputable def eqS_ (n : Nat) : Bool := tells true (runS (LSn n []) (tbS n e1S e1S))
def neP (n d f : Nat) : List (Nat × Nat) := bif Nat.beq f 3 then [] else [(26 + 5 * d + f, 26 + 5 * n + 5 * d + f)]
noncomputable def neS_ (n d f : Nat) (b : Bool) : Bool := tells false (runS (LSn n (neP n d f)) (tbS n (dE1 d f b) (dE2 n d f b)))
theorem eqS_runs : ((List.range 13).all eqS_) = true := by kernel_rfl
theorem neS_runs : ((List.range 9).all fun n => (List.range n).all fun d => (List.range 5).all fun f => neS_ n d f true && neS_ n d f false) = true := by kernel_rfl
theorem lenS_run : tells false (runS LSl ⟨[(0, 9), (1, 22)], [], []⟩) = true := by kernel_rfl
/-! Same -/
def c1J : List S := cellsT 0 kPre ++ .rv 0 :: cellsT 10 kPost
def o2J : List S := cellsT 13 kPre ++ .rv 1 :: cellsT 23 kPost
def isB (c : Nat) : Bool := Nat.beq c 4 || Nat.beq c 11
def d1J (c : Nat) (b : Bool) : List S := bif isB c then c1J.set c (.bool b) else c1J
def d2J (c : Nat) (b : Bool) : List S := bif isB c then ((mixS c c1J o2J).set 9 (.rv 1)).set c (.bool (!b)) else (mixS c c1J o2J).set 9 (.rv 1)
noncomputable def LF (c : Nat) : Lf := bif isB c then Lf.startB gs2 [] [] else { Lf.startB gs2 [] [] with ne := [(c, 13 + c)] }
noncomputable def runF (L : Lf) (lib : Oracle) (a b : List S) : R := @runsL (L.know []) (tyOf Tryd.prog) (fnOf Tryd.prog) lib Tabs.nought (fun _ _ _ _ => none) 30 5 32 [.g a, .g b] ⟨[], 0⟩ 0
def fldsJ : List Nat := [0, 1, 2, 3, 4, 5, 6, 7, 8, 10, 11, 12]
theorem fld_runs : (fldsJ.all fun c => tells false (runF (LF c) noneO (d1J c true) (d2J c true)) && tells false (runF (LF c) noneO (d1J c false) (d2J c false))) = true := by kernel_rfl
noncomputable def rowSO (b : Bool) : Oracle := rowG 71 [.s (.rv 0), .s (.rv 1)] (V.s (.bool b))
theorem args_runs : (tells true (runF (Lf.startB gs2 [] []) (rowSO true) c1J (c1J.set 9 (.rv 1))) && tells false (runF (Lf.startB gs2 [] []) (rowSO false) c1J (c1J.set 9 (.rv 1)))) = true := by kernel_rfl
end Go.Proofs.YtaamdiknefodgaaDoor.Am
/-! Comparing jumps: what SameOperands and Same answer. -/
namespace Go.Proofs.YtaamdiknefodgaaDoor.Am
open Go.RowKit
set_option maxRecDepth 100000
set_option maxHeartbeats 1000000
set_option linter.unusedVariables false
set_option linter.unusedSectionVars false
def Desc [Base] (xs : List S) (el : List Value) : Prop := All2 (fun x v => ∀ r, VS r x v) xs el
theorem Desc.vs [Base] {xs : List S} {el : List Value} (h : Desc xs el) (r : Ren) : All2 (VS r) xs el := h.imp fun _ _ k => k r
theorem Desc.mix [Base] {xs ys : List S} {a b : List Value} (hx : Desc xs a) (hy : Desc ys b) {f : Nat} (h : ∀ k, k < f → a[k]? = b[k]?) : Desc (mixS f xs ys) b := by
  have e : b = b.take f ++ b.drop f := (List.take_append_drop f b).symm
  have e2 : a.take f = b.take f := List.ext_getElem? fun k => by
    rw [List.getElem?_take, List.getElem?_take]
    split
    · exact h k (by assumption)
    · rfl
  unfold mixS Desc
  rw [e]
  refine All2.app ?_ (hy.drop f)
  have := hx.take f
  rw [e2] at this
  exact this
theorem Desc.put [Base] {xs : List S} {a : List Value} (hx : Desc xs a) {f : Nat} {x : S} {v : Value} (hv : a[f]? = some v) (h : ∀ r, VS r x v) : Desc (xs.set f x) a := by
  have : a.set f v = a := List.ext_getElem? fun k => by
    rw [List.getElem?_set]
    split
    · rename_i hk
      subst hk
      split
      · exact hv.symm
      · rename_i hl
        rw [List.getElem?_eq_none (by omega)] at hv
        cases hv
    · rfl
  have h2 := All2.set (R := fun x v => ∀ r, VS r x v) f hx h
  rw [this] at h2
  exact h2
theorem elOf_mem : ∀ {l : List (Nat × N × List S)} {k : Nat} {i : N} {cs : List S}, Tabs.elOf ⟨[], l, []⟩ k i = some cs → (k, i, cs) ∈ l
  | [], k, i, cs, h => by cases h
  | p :: l, k, i, cs, h => by
    have h : (bif Nat.beq p.1 k && p.2.1.eqv i then some p.2.2 else Tabs.elOf ⟨[], l, []⟩ k i) = some cs := h
    cases hb : (Nat.beq p.1 k && p.2.1.eqv i) <;> rw [hb] at h <;> simp only [cond_true, cond_false] at h
    · exact List.mem_cons_of_mem _ (elOf_mem h)
    · cases h
      simp only [Bool.and_eq_true] at hb
      obtain ⟨a, b, c⟩ := p
      obtain rfl := Nat.eq_of_beq_eq_true hb.1
      obtain rfl := N.eqv_ok hb.2
      exact List.mem_cons_self ..
theorem first_diff {α : Type} : ∀ {l m : List α}, l.length = m.length → l ≠ m → ∃ d, d < l.length ∧ (∀ i, i < d → l[i]? = m[i]?) ∧ l[d]? ≠ m[d]?
  | [], [], _, h => absurd rfl h
  | [], _ :: _, h, _ => by cases h
  | _ :: _, [], h, _ => by cases h
  | x :: l, y :: m, hl, hn => by
    by_cases e : x = y
    · subst e
      obtain ⟨d, h1, h2, h3⟩ := first_diff (l := l) (m := m) (by simpa using hl) (fun e => hn (by rw [e]))
      refine ⟨d + 1, by simp; omega, fun i hi => ?_, by simpa using h3⟩
      cases i with
      | zero => rfl
      | succ i => simpa using h2 i (by omega)
    · exact ⟨0, by simp, fun i hi => absurd hi (Nat.not_lt_zero i), by simpa using e⟩
section
variable {w : World} {v v' : Value} {pre pre' : List Value} {sv sv' : Value} {post post' : List Value} {els els' : List (List Value)} (hj : JumpIs w v pre sv post els) (hk : JumpIs w v' pre' sv' post' els')
include hj hk
def flat2 (_ : JumpIs w v pre sv post els) (_ : JumpIs w v' pre' sv' post' els') : List Value := flatJ pre els post ++ (flatJ pre' els' post' ++ [])
def codes2 (_ : JumpIs w v pre sv post els) (_ : JumpIs w v' pre' sv' post' els') : List Int := els.flatten.map codeI ++ els'.flatten.map codeI
theorem flat2_len : (flat2 hj hk).length = 26 := by
  have h1 := len_flat hj
  have h2 := len_flat hk
  simp [flat2, h1, h2]
theorem gps2 : Gps gs2 [.agg (flatJ pre els post).toArray, .agg (flatJ pre' els' post').toArray] (flat2 hj hk) :=
  ⟨_, _, rfl, ⟨ok_flat hj, .inl ⟨rfl, rfl⟩⟩, _, _, rfl, ⟨ok_flat hk, .inl ⟨rfl, rfl⟩⟩, rfl⟩
@[reducible] noncomputable def base2 : Base :=
  { Know.nought with nb := w.heap.size, g := fun k => w.heap[k]?, rho := rhoOf (behind (flat2 hj hk) [] (codes2 hj hk)), sig := sigOf (behind (flat2 hj hk) [] (codes2 hj hk)), ok := KnowOk.nought _ _, lst := fun k => match k with | 0 => ⟨sv, els⟩ | _ => ⟨sv', els'⟩ }
theorem lens2 : Lens [] (base2 hj hk).rho (base2 hj hk).sig := lens_behind (n := 26) (a := 0) (gps2 hj hk) rfl (flat2_len hj hk) rfl
theorem rho2_a {i : Nat} (h : i < 13) : (base2 hj hk).rho i = cellI (flatJ pre els post) i := by
  show rhoOf _ _ = _
  rw [behind_cell (by rw [flat2_len]; omega)]
  exact cellI_lt (by rw [len_flat hj]; exact h)
theorem rho2_b {i : Nat} (h : i < 13) : (base2 hj hk).rho (13 + i) = cellI (flatJ pre' els' post') i := by
  show rhoOf _ _ = _
  rw [behind_cell (by rw [flat2_len]; omega)]
  unfold flat2
  rw [cellI_ge (len_flat hj), List.append_nil]
theorem els_len {l : List (List Value)} (hl : ∀ (i : Nat) (el : List Value), l[i]? = some el → All2 Kd.ok opK el) : ∀ x ∈ l, x.length = 5 := fun x hx => by
  obtain ⟨k, hx'⟩ := List.getElem?_of_mem hx
  have := (hl k x hx').len
  simp [opK] at this
  omega
theorem flat_len : els.flatten.length = 5 * els.length := by
  have h := els_len hj hk (l := els) hj.ops.kd
  clear hj hk
  induction els with
  | nil => rfl
  | cons x l ih => rw [List.flatten_cons, List.length_append, h x (List.mem_cons_self ..), ih fun y hy => h y (List.mem_cons_of_mem _ hy), List.length_cons]; omega
theorem rho2_e {i f : Nat} {el : List Value} (h : els[i]? = some el) (hf : f < 5) : (base2 hj hk).rho (26 + 5 * i + f) = cellI el f := by
  have h5 := el_len hj h
  have hx : el[f]? = some (el[f]'(by omega)) := List.getElem?_eq_getElem _
  have h1 := flat_at hj (els_len hj hk hj.ops.kd) h hf
  have : (codes2 hj hk)[5 * i + f]? = some (cellI el f) := by
    unfold codes2
    rw [List.getElem?_append_left (by rw [List.length_map]; exact (List.getElem?_eq_some_iff.1 (h1.trans hx)).1), List.getElem?_map, h1, hx]
    show some (codeI _) = _
    unfold cellI
    rw [hx]
  rw [show 26 + 5 * i + f = 26 + 0 + (5 * i + f) by omega]
  exact behind_int (flat2_len hj hk) rfl this
theorem rho2_o {i f : Nat} {el : List Value} (h : els'[i]? = some el) (hf : f < 5) : (base2 hj hk).rho (26 + 5 * els.length + 5 * i + f) = cellI el f := by
  have h5 := el_len hk h
  have hx : el[f]? = some (el[f]'(by omega)) := List.getElem?_eq_getElem _
  have h1 := flat_at hk (els_len hk hj hk.ops.kd) h hf
  have hl := flat_len hj hk
  have : (codes2 hj hk)[5 * els.length + (5 * i + f)]? = some (cellI el f) := by
    unfold codes2
    rw [List.getElem?_append_right (by rw [List.length_map]; omega), List.length_map, hl, show 5 * els.length + (5 * i + f) - 5 * els.length = 5 * i + f by omega, List.getElem?_map, h1, hx]
    show some (codeI _) = _
    unfold cellI
    rw [hx]
  rw [show 26 + 5 * els.length + 5 * i + f = 26 + 0 + (5 * els.length + (5 * i + f)) by omega]
  exact behind_int (flat2_len hj hk) rfl this
theorem desc_op (b : Base) {el : List Value} (h : All2 Kd.ok opK el) {o : Nat} (hr : ∀ f, f < 5 → b.rho (o + f) = cellI el f) : @Desc b (cellsT o opK) el := by
  obtain ⟨a, b', c, d, e, rfl⟩ := opK_form h
  have r0 := hr 0 (by decide); have r1 := hr 1 (by decide); have r2 := hr 2 (by decide); have r3 := hr 3 (by decide); have r4 := hr 4 (by decide)
  refine ⟨fun r => ?_, fun r => ?_, fun r => ?_, fun r => ?_, fun r => ?_, trivial⟩
  · exact congrArg (Value.int .u8) r0.symm
  · exact congrArg (Value.int .i64) r1.symm
  · exact congrArg (Value.int .i64) r2.symm
  · show _ = Value.bool ([((o + 1 + 1 + 1 : Nat), (1 : Int))].any fun p => decide (b.rho p.1 = p.2))
    simp only [List.any_cons, List.any_nil, Bool.or_false]
    rw [show o + 1 + 1 + 1 = o + 3 by omega, r3]
    cases d <;> rfl
  · exact congrArg (Value.int .u8) r4.symm
theorem desc_e1 {i : Nat} {el : List Value} (h : els[i]? = some el) : @Desc (base2 hj hk) (e1S i) el := desc_op hj hk _ (hj.ops.kd i el h) fun f hf => rho2_e hj hk h hf
theorem desc_e2 {i : Nat} {el : List Value} (h : els'[i]? = some el) : @Desc (base2 hj hk) (e2S els.length i) el := desc_op hj hk _ (hk.ops.kd i el h) fun f hf => rho2_o hj hk h hf
theorem el_at {w : World} {v : Value} {pre : List Value} {sv : Value} {post : List Value} {els : List (List Value)} (hj : JumpIs w v pre sv post els) {b : Base} (hg : ∀ k, k < w.heap.size → b.g k = w.heap[k]?) (hnb : b.nb = w.heap.size) {m : Nat} (hl : b.lst m = ⟨sv, els⟩) {k : Nat} (hkl : k < els.length) {cs : List S} (hd : @Desc b cs (els[k])) :
    ∃ b0 off n c el, (b.lst m).v = .slice (some ⟨b0, off, none⟩) n c ∧ 0 ≤ @NV b (.c (k : Int)) ∧ @NV b (.c (k : Int)) < n ∧ @ElAt b m (.c (k : Int)) b0 (off + (@NV b (.c (k : Int))).toNat * cs.length) el ∧ All2 (fun x v => ∀ r, @VS b r x v) cs el := by
  have he : els[k]? = some els[k] := List.getElem?_eq_getElem hkl
  obtain ⟨b0, off, c, e, hc⟩ := hj.ops.at_ k _ he
  have hlen : cs.length = 5 := hd.len.trans (el_len hj he)
  refine ⟨b0, off, els.length, c, els[k], by rw [hl]; exact e, by show (0 : Int) ≤ (k : Int); omega, by show (k : Int) < _; omega, ⟨by rw [hl]; show els[((k : Nat) : Int).toNat]? = _; rw [Int.toNat_natCast]; exact he, fun f u hf w1 hw => ?_⟩, hd⟩
  have hcell := hc f u hf
  rw [hlen]
  show w1.cell? ⟨b0, off + ((k : Nat) : Int).toNat * 5 + f, none⟩ = some u
  rw [Int.toNat_natCast]
  have hlt := World.block_lt_of_cell? w ⟨b0, off + k * 5 + f, none⟩ hcell
  have hblk : w1.heap[b0]? = w.heap[b0]? := (hw b0 (by show b0 < b.nb; rw [hnb]; exact hlt)).trans (hg b0 hlt)
  rw [← hcell]
  exact World.cell?_of_block hblk
theorem lists2 : All2 (@VA (base2 hj hk) r0) [.s (.rv 0), .s (.rv 1)] [sv, sv'] := by
  obtain ⟨A, c, e⟩ := hj.ops.sl
  obtain ⟨A', c', e'⟩ := hk.ops.sl
  exact ⟨⟨A, els.length, c, e, e⟩, ⟨A', els'.length, c', e', e'⟩, trivial⟩
theorem tabs2 {n : Nat} (h1 : els.length = n) (h2 : els'.length = n) {E1 E2 : Nat → List S} (d1 : ∀ i el, els[i]? = some el → @Desc (base2 hj hk) (E1 i) el) (d2 : ∀ i el, els'[i]? = some el → @Desc (base2 hj hk) (E2 i) el) : @TabsOk (base2 hj hk) (tbS n E1 E2) := by
  letI : Base := base2 hj hk
  refine ⟨fun l j h => ?_, fun l i cs h => ?_, fun i c j h => (by cases h)⟩
  · have h : (bif Nat.beq 0 l then some 9 else bif Nat.beq 1 l then some 22 else none) = some j := h
    cases hb : Nat.beq 0 l <;> rw [hb] at h <;> simp only [cond_true, cond_false] at h
    · cases hb1 : Nat.beq 1 l <;> rw [hb1] at h <;> cases h
      obtain rfl := Nat.eq_of_beq_eq_true hb1
      obtain ⟨A, c, e⟩ := hk.ops.sl
      exact ⟨A, els'.length, c, e, (rho2_b hj hk (i := 9) (by decide)).trans (cell_len hk)⟩
    · cases h
      obtain rfl := Nat.eq_of_beq_eq_true hb
      obtain ⟨A, c, e⟩ := hj.ops.sl
      exact ⟨A, els.length, c, e, (rho2_a hj hk (by decide)).trans (cell_len hj)⟩
  · have hm := elOf_mem (show Tabs.elOf ⟨[], _, []⟩ l i = some cs from h)
    rcases List.mem_append.1 hm with hm | hm
    · obtain ⟨k, hkr, e⟩ := List.mem_map.1 hm
      cases e
      have hkr := List.mem_range.1 hkr
      exact el_at hj hk hj (b := base2 hj hk) (fun _ _ => rfl) rfl rfl (by omega) (d1 k _ (List.getElem?_eq_getElem (by omega)))
    · obtain ⟨k, hkr, e⟩ := List.mem_map.1 hm
      cases e
      have hkr := List.mem_range.1 hkr
      exact el_at hj hk hk (b := base2 hj hk) (fun _ _ => rfl) rfl rfl (by omega) (d2 k _ (List.getElem?_eq_getElem (by omega)))
theorem start2 : (Lf.startB gs2 [] []).Holds (base2 hj hk).rho (base2 hj hk).sig := Lf.startB_some (gps2 hj hk) (ivS := []) (strs := []) trivial (i0 := []) (i1 := codes2 hj hk) rfl trivial
theorem run_S {L : Lf} (hL : L.Holds (base2 hj hk).rho (base2 hj hk).sig) {tb : Tabs} (ht : @TabsOk (base2 hj hk) tb) {b : Bool} (hr : tells b (runS L tb) = true) : Calls Tryd.prog 71 #[sv, sv'] w fun e w' => e = .returned (.bool b) ∧ Below w.heap.size w w' := by
  letI bL : Base := (base2 hj hk).withK (L.know []) (Lf.ok hL (lens2 hj hk))
  exact @calls_bool bL _ w (Nat.le_refl _) (fun _ _ => rfl) _ (@runsL_ok bL _ _ (@tyOf_ok bL Tryd.prog) _ fnOkN noneO (fun _ _ _ _ _ _ h => by cases h) mixedN _ (TabsOk.withK ht _) _ (fun f F cd _ _ => Loops.ok_all (fun c => @LoopOk.none bL _ c) cd) 30 5) _ _ _ (lists2 hj hk) _ hr
theorem holdsSn {n : Nat} (h1 : els.length = n) (h2 : els'.length = n) {ne : List (Nat × Nat)} (hne : ∀ i j, (i, j) ∈ ne → (base2 hj hk).rho i ≠ (base2 hj hk).rho j) : (LSn n ne).Holds (base2 hj hk).rho (base2 hj hk).sig := by
  have h := Lf.Holds.onlyB hj (Lf.Holds.onlyB hj (start2 hj hk) (i := 9) (c := n) ((rho2_a hj hk (by decide)).trans (by rw [cell_len hj, h1]))) (i := 22) (c := n) ((rho2_b hj hk (i := 9) (by decide)).trans (by rw [cell_len hk, h2]))
  exact ⟨h.iv, fun i j hij => hne i j hij, h.lt, h.to, h.st, h.sn, h.cf⟩
theorem ops_same (e : els = els') (hl : els.length < 13) : Calls Tryd.prog 71 #[sv, sv'] w fun e w' => e = .returned (.bool true) ∧ Below w.heap.size w w' := by
  have d2 : ∀ i el, els'[i]? = some el → @Desc (base2 hj hk) (e1S i) el := fun i el h => desc_e1 hj hk (e ▸ h)
  exact run_S hj hk (holdsSn hj hk rfl (by rw [e]) (ne := []) fun i j h => by cases h) (tabs2 hj hk rfl (by rw [e]) (fun i el h => desc_e1 hj hk h) d2) (List.all_eq_true.1 eqS_runs els.length (List.mem_range.2 hl))
theorem cell_ne {a b : List Value} {ks : List Kd} (ha : All2 Kd.ok ks a) (hb : All2 Kd.ok ks b) {f : Nat} {k : Kd} (hkf : ks[f]? = some k) (hs : k ≠ .s) (h : a[f]? ≠ b[f]?) : cellI a f ≠ cellI b f := by
  obtain ⟨x, hx, kx⟩ := All2.nth ha (n := f) (x := k) (by rw [nth_eq]; exact hkf)
  obtain ⟨y, hy, ky⟩ := All2.nth hb (n := f) (x := k) (by rw [nth_eq]; exact hkf)
  unfold cellI
  rw [hx, hy] at h ⊢
  intro e
  apply h
  cases k with
  | s => exact absurd rfl hs
  | b =>
    obtain ⟨p, rfl⟩ := kx
    obtain ⟨q, rfl⟩ := ky
    cases p <;> cases q <;> first | rfl | exact absurd e (by decide)
  | i kd =>
    obtain ⟨p, rfl, _⟩ := kx
    obtain ⟨q, rfl, _⟩ := ky
    have e : p = q := e
    rw [e]
theorem ops_not (e : els ≠ els') (hl : els.length < 9) : Calls Tryd.prog 71 #[sv, sv'] w fun e w' => e = .returned (.bool false) ∧ Below w.heap.size w w' := by
  letI : Base := base2 hj hk
  by_cases hlen : els'.length = els.length
  · obtain ⟨d, hd, heq, hne⟩ := first_diff hlen.symm e
    have ha : els[d]? = some els[d] := List.getElem?_eq_getElem hd
    have hb : els'[d]? = some (els'[d]'(by omega)) := List.getElem?_eq_getElem _
    have ka := hj.ops.kd d _ ha
    have kb := hk.ops.kd d _ hb
    have la := el_len hj ha
    have lb := el_len hk hb
    have hne' : els[d] ≠ els'[d]'(by omega) := fun q => hne (by rw [ha, hb, q])
    obtain ⟨f, hf, feq, fne⟩ := first_diff (by omega) hne'
    have hf5 : f < 5 := by omega
    -- a truth value of each
    have hbool : ∃ b : Bool, f = 3 → els[d][3]? = some (.bool b) ∧ (els'[d]'(by omega))[3]? = some (.bool (!b)) := by
      by_cases h3 : f = 3
      · subst h3
        obtain ⟨x, hx, b, rfl⟩ := All2.nth ka (n := 3) (x := .b) rfl
        obtain ⟨y, hy, c, rfl⟩ := All2.nth kb (n := 3) (x := .b) rfl
        refine ⟨b, fun _ => ⟨hx, ?_⟩⟩
        rw [hx, hy] at fne
        rw [hy]
        cases b <;> cases c <;> first | rfl | exact absurd rfl fne
      · exact ⟨true, fun q => absurd q h3⟩
    obtain ⟨b, hb3⟩ := hbool
    have hrun := List.all_eq_true.1 (List.all_eq_true.1 (List.all_eq_true.1 neS_runs els.length (List.mem_range.2 hl)) d (List.mem_range.2 hd)) f (List.mem_range.2 hf5)
    have hrun : neS_ els.length d f b = true := by
      simp only [Bool.and_eq_true] at hrun
      cases b
      · exact hrun.2
      · exact hrun.1
    refine run_S hj hk (holdsSn hj hk rfl hlen (ne := neP els.length d f) fun i j hij => ?_) (tabs2 hj hk rfl hlen (E1 := dE1 d f b) (E2 := dE2 els.length d f b) (fun i el h => ?_) fun i el h => ?_) hrun
    · unfold neP at hij
      cases h3 : Nat.beq f 3 with
      | true => rw [h3] at hij; cases hij
      | false =>
        rw [h3] at hij
        have hij := List.mem_singleton.1 hij
        cases hij
        rw [rho2_e hj hk ha hf5, rho2_o hj hk hb hf5]
        have hkf : ∃ k, opK[f]? = some k ∧ k ≠ .s := by
          have : f = 0 ∨ f = 1 ∨ f = 2 ∨ f = 3 ∨ f = 4 := by omega
          rcases this with rfl | rfl | rfl | rfl | rfl <;> exact ⟨_, rfl, by intro q; cases q⟩
        obtain ⟨k, hk1, hk2⟩ := hkf
        exact cell_ne hj hk ka kb hk1 hk2 fne
    · unfold dE1
      cases hi : Nat.beq i d with
      | false => exact desc_e1 hj hk h
      | true =>
        obtain rfl := Nat.eq_of_beq_eq_true hi
        rw [ha] at h
        cases h
        show @Desc _ (boolAt f b (e1S i)) _
        unfold boolAt
        cases h3 : Nat.beq f 3 with
        | false => exact desc_e1 hj hk ha
        | true => exact Desc.put (desc_e1 hj hk ha) (hb3 (Nat.eq_of_beq_eq_true h3)).1 fun _ => rfl
    · unfold dE2
      cases hlt : Nat.blt i d with
      | true =>
        have : i < d := by rwa [Nat.blt_eq] at hlt
        exact desc_e1 hj hk ((heq i this).trans h)
      | false =>
        cases hi : Nat.beq i d with
        | false => exact desc_e2 hj hk h
        | true =>
          obtain rfl := Nat.eq_of_beq_eq_true hi
          rw [hb] at h
          cases h
          have hm : @Desc (base2 hj hk) (mixS f (e1S i) (e2S els.length i)) (els'[i]'(by omega)) := Desc.mix (desc_e1 hj hk ha) (desc_e2 hj hk hb) feq
          show @Desc _ (boolAt f (!b) (mixS f (e1S i) (e2S els.length i))) _
          unfold boolAt
          cases h3 : Nat.beq f 3 with
          | false => exact hm
          | true => exact Desc.put hm (hb3 (Nat.eq_of_beq_eq_true h3)).2 fun _ => rfl
  · have hh : LSl.Holds (base2 hj hk).rho (base2 hj hk).sig := by
      have h := start2 hj hk
      refine ⟨h.iv, fun i j hij => ?_, h.lt, h.to, h.st, h.sn, h.cf⟩
      have : (i, j) ∈ [((9 : Nat), (22 : Nat))] := hij
      simp only [List.mem_singleton, Prod.mk.injEq] at this
      obtain ⟨rfl, rfl⟩ := this
      rw [rho2_a hj hk (by decide), show (22 : Nat) = 13 + 9 by rfl, rho2_b hj hk (by decide), cell_len hj, cell_len hk]
      omega
    refine run_S hj hk hh ?_ lenS_run
    letI : Base := base2 hj hk
    refine ⟨fun l j h => ?_, fun l i cs h => (by cases h), fun i c j h => (by cases h)⟩
    have h : (bif Nat.beq 0 l then some 9 else bif Nat.beq 1 l then some 22 else none) = some j := h
    cases hb : Nat.beq 0 l <;> rw [hb] at h <;> simp only [cond_true, cond_false] at h
    · cases hb1 : Nat.beq 1 l <;> rw [hb1] at h <;> cases h
      obtain rfl := Nat.eq_of_beq_eq_true hb1
      obtain ⟨A, c, e⟩ := hk.ops.sl
      exact ⟨A, els'.length, c, e, (rho2_b hj hk (i := 9) (by decide)).trans (cell_len hk)⟩
    · cases h
      obtain rfl := Nat.eq_of_beq_eq_true hb
      obtain ⟨A, c, e⟩ := hj.ops.sl
      exact ⟨A, els.length, c, e, (rho2_a hj hk (by decide)).trans (cell_len hj)⟩
end
end Go.Proofs.YtaamdiknefodgaaDoor.Am
/-! Comparing jumps: what Same answers. -/
namespace Go.Proofs.YtaamdiknefodgaaDoor.Am
open Go.RowKit
set_option maxRecDepth 100000
set_option maxHeartbeats 1000000
set_option linter.unusedVariables false
set_option linter.unusedSectionVars false
theorem desc_T (b : Base) : ∀ {ks : List Kd} {us : List Value} {o : Nat}, (ks.all fun k => match k with | .s => false | _ => true) = true → All2 Kd.ok ks us → (∀ i, i < us.length → b.rho (o + i) = cellI us i) → @Desc b (cellsT o ks) us
  | [], [], _, _, _, _ => trivial
  | k :: ks, u :: us, o, hs, hk, hr => by
    simp only [List.all_cons, Bool.and_eq_true] at hs
    have h0 : b.rho o = codeI u := hr 0 (by simp)
    refine ⟨fun r => ?_, desc_T b (o := o + 1) hs.2 hk.2 fun i hi => ?_⟩
    · cases k with
      | s => exact absurd hs.1 (by decide)
      | b =>
        obtain ⟨p, rfl⟩ := hk.1
        show _ = Value.bool ([((o : Nat), (1 : Int))].any fun p => decide (b.rho p.1 = p.2))
        simp only [List.any_cons, List.any_nil, Bool.or_false]
        rw [h0]
        cases p <;> rfl
      | i kd =>
        obtain ⟨n, rfl, _⟩ := hk.1
        exact congrArg (Value.int kd) h0.symm
    · have := hr (i + 1) (by simpa using hi)
      rw [show o + 1 + i = o + (i + 1) by omega, this]
      rfl
  | [], _ :: _, _, _, h, _ => h.elim
  | _ :: _, [], _, _, h, _ => h.elim
section
variable {w : World} {v v' : Value} {pre pre' : List Value} {sv sv' : Value} {post post' : List Value} {els els' : List (List Value)} (hj : JumpIs w v pre sv post els) (hk : JumpIs w v' pre' sv' post' els')
include hj hk
theorem desc_c1 : @Desc (base2 hj hk) c1J (pre ++ sv :: post) := by
  refine All2.app (desc_T _ rfl hj.pre fun i hi => ?_) ⟨fun r => ?_, desc_T _ rfl hj.post fun i hi => ?_⟩
  · have := len_pre hj
    rw [Nat.zero_add, rho2_a hj hk (by omega), fl_pre hj (by omega)]
  · obtain ⟨A, c, e⟩ := hj.ops.sl
    exact ⟨A, els.length, c, e, e⟩
  · have := len_post hj
    rw [rho2_a hj hk (by omega), fl_post hj]
theorem desc_o2 : @Desc (base2 hj hk) o2J (pre' ++ sv' :: post') := by
  refine All2.app (desc_T _ rfl hk.pre fun i hi => ?_) ⟨fun r => ?_, desc_T _ rfl hk.post fun i hi => ?_⟩
  · have := len_pre hk
    rw [rho2_b hj hk (by omega), fl_pre hk (by omega)]
  · obtain ⟨A, c, e⟩ := hk.ops.sl
    exact ⟨A, els'.length, c, e, e⟩
  · have := len_post hk
    rw [show 23 + i = 13 + (10 + i) by omega, rho2_b hj hk (by omega), fl_post hk]
theorem all_len : (pre ++ sv :: post).length = 13 := by simp [len_pre hj, len_post hj]
theorem run_F {L : Lf} (hL : L.Holds (base2 hj hk).rho (base2 hj hk).sig) {lib : Oracle} (hlib : ∀ b : Base, b.nb = w.heap.size → b.g = (fun k => w.heap[k]?) → b.lst = (base2 hj hk).lst → @Sound b Tryd.prog lib) {a b : List S} (ha : @Desc (base2 hj hk) a (pre ++ sv :: post)) (hb : @Desc (base2 hj hk) b (pre' ++ sv' :: post')) {t : Bool} (hr : tells t (runF L lib a b) = true) :
    Calls Tryd.prog 32 #[v, v'] w fun e w' => e = .returned (.bool t) ∧ Below w.heap.size w w' := by
  letI bL : Base := (base2 hj hk).withK (L.know []) (Lf.ok hL (lens2 hj hk))
  have hv : All2 (@VA bL r0) [.g a, .g b] [v, v'] := ⟨⟨_, hj.v, @Desc.vs (base2 hj hk) _ _ ha r0⟩, ⟨_, hk.v, @Desc.vs (base2 hj hk) _ _ hb r0⟩, trivial⟩
  exact @calls_bool bL _ w (Nat.le_refl _) (fun _ _ => rfl) _ (@runsL_ok bL _ _ (@tyOf_ok bL Tryd.prog) _ fnOkN lib (hlib bL rfl rfl rfl) mixedN _ (@TabsOk.nought bL) _ (fun f F cd _ _ => Loops.ok_all (fun c => @LoopOk.none bL _ c) cd) 30 5) _ _ _ hv _ hr
theorem sound_noneAny (b : Base) : @Sound b Tryd.prog noneO := fun _ _ _ _ _ _ h => by cases h
theorem sound_SO {t : Bool} (h : ∀ w' : World, (∀ k, k < w.heap.size → w'.heap[k]? = w.heap[k]?) → Calls Tryd.prog 71 #[sv, sv'] w' fun e w'' => e = .returned (.bool t) ∧ Below w'.heap.size w' w'') (b : Base) (hnb : b.nb = w.heap.size) (hg : b.g = fun k => w.heap[k]?) (hl : b.lst = (base2 hj hk).lst) : @Sound b Tryd.prog (rowSO t) := by
  letI : Base := b
  obtain ⟨A, c, e⟩ := hj.ops.sl
  obtain ⟨A', c', e'⟩ := hk.ops.sl
  have hv : All2 (@VA b r0) [.s (.rv 0), .s (.rv 1)] [sv, sv'] := ⟨⟨A, els.length, c, by rw [hl]; exact e, e⟩, ⟨A', els'.length, c', by rw [hl]; exact e', e'⟩, trivial⟩
  exact @sound_rowG b _ _ ⟨_, Tryd.func71, by kernel_rfl, by kernel_rfl⟩ _ _ rfl _ hv (.bool t) (fun _ => rfl) fun w' hw => h w' fun k hk' => by
    have h1 : w'.heap[k]? = b.g k := hw k (by show k < b.nb; rw [hnb]; exact hk')
    rw [h1, hg]
theorem same_args {t : Bool} (e1 : pre = pre') (e2 : post = post') (ht : t = true ∧ els = els' ∧ els.length < 13 ∨ t = false ∧ els ≠ els' ∧ els.length < 9) : Calls Tryd.prog 32 #[v, v'] w fun e w' => e = .returned (.bool t) ∧ Below w.heap.size w w' := by
  have hb : @Desc (base2 hj hk) (c1J.set 9 (.rv 1)) (pre' ++ sv' :: post') := by
    have h1 := desc_c1 hj hk
    obtain ⟨A', c', e'⟩ := hk.ops.sl
    have h2 := All2.set (R := fun x v => ∀ r, @VS (base2 hj hk) r x v) 9 h1 (x := .rv 1) (y := sv') fun r => ⟨A', els'.length, c', e', e'⟩
    have : (pre ++ sv :: post).set 9 sv' = pre' ++ sv' :: post' := by
      rw [← e1, ← e2, List.set_append_right _ _ (by rw [len_pre hj]; exact Nat.le_refl _), len_pre hj]
      rfl
    rw [this] at h2
    exact h2
  have hrun := args_runs
  simp only [Bool.and_eq_true] at hrun
  have hr : tells t (runF (Lf.startB gs2 [] []) (rowSO t) c1J (c1J.set 9 (.rv 1))) = true := by
    rcases ht with ⟨rfl, _⟩ | ⟨rfl, _⟩
    · exact hrun.1
    · exact hrun.2
  refine run_F hj hk (start2 hj hk) (lib := rowSO t) (sound_SO hj hk fun w' hw => ?_) (desc_c1 hj hk) hb hr
  rcases ht with ⟨rfl, q1, q2⟩ | ⟨rfl, q1, q2⟩
  · exact ops_same (hj.frz hw) (hk.frz hw) q1 q2
  · exact ops_not (hj.frz hw) (hk.frz hw) q1 q2
theorem same_flds (h : pre ≠ pre' ∨ post ≠ post') : Calls Tryd.prog 32 #[v, v'] w fun e w' => e = .returned (.bool false) ∧ Below w.heap.size w w' := by
  -- the first cell that differs
  have h1 := len_pre hj; have h2 := len_pre hk; have h3 := len_post hj; have h4 := len_post hk
  have hne : pre ++ Value.nilIface :: post ≠ pre' ++ Value.nilIface :: post' := fun e => by
    have := List.append_inj e (by omega)
    rcases h with h | h
    · exact h this.1
    · exact h (List.cons.inj this.2).2
  obtain ⟨c, hc, heq, hcne⟩ := first_diff (by simp; omega) hne
  have hc13 : c < 13 := by simp at hc; omega
  have hlow : ∀ k, k < 9 → (pre ++ Value.nilIface :: post)[k]? = pre[k]? ∧ (pre ++ sv :: post)[k]? = pre[k]? ∧ (pre' ++ Value.nilIface :: post')[k]? = pre'[k]? ∧ (pre' ++ sv' :: post')[k]? = pre'[k]? := fun k hk => ⟨List.getElem?_append_left (by omega), List.getElem?_append_left (by omega), List.getElem?_append_left (by omega), List.getElem?_append_left (by omega)⟩
  have hhigh : ∀ k, (pre ++ Value.nilIface :: post)[10 + k]? = post[k]? ∧ (pre ++ sv :: post)[10 + k]? = post[k]? ∧ (pre' ++ Value.nilIface :: post')[10 + k]? = post'[k]? ∧ (pre' ++ sv' :: post')[10 + k]? = post'[k]? := fun k => by
    have key : ∀ {p : List Value} {x : Value} {q : List Value}, p.length = 9 → (p ++ x :: q)[10 + k]? = q[k]? := fun {p x q} hp => by
      rw [List.getElem?_append_right (by omega), hp, show 10 + k - 9 = k + 1 by omega, List.getElem?_cons_succ]
    exact ⟨key h1, key h1, key h2, key h2⟩
  have h9 : c ≠ 9 := fun e => by
    subst e
    apply hcne
    rw [List.getElem?_append_right (by omega), List.getElem?_append_right (by omega), h1, h2]
    rfl
  have hmem : c ∈ fldsJ := by
    have : c = 0 ∨ c = 1 ∨ c = 2 ∨ c = 3 ∨ c = 4 ∨ c = 5 ∨ c = 6 ∨ c = 7 ∨ c = 8 ∨ c = 10 ∨ c = 11 ∨ c = 12 := by omega
    unfold fldsJ
    simp only [List.mem_cons, List.not_mem_nil, or_false]
    exact this
  -- the same with the lists in their place
  have heq' : ∀ k, k < c → k ≠ 9 → (pre ++ sv :: post)[k]? = (pre' ++ sv' :: post')[k]? := fun k hkc hk9 => by
    have e := heq k hkc
    by_cases hk : k < 9
    · obtain ⟨a, b, a', b'⟩ := hlow k hk
      rw [b, b', ← a, ← a']
      exact e
    · obtain ⟨m, rfl⟩ : ∃ m, k = 10 + m := ⟨k - 10, by omega⟩
      obtain ⟨a, b, a', b'⟩ := hhigh m
      rw [b, b', ← a, ← a']
      exact e
  have hne' : (pre ++ sv :: post)[c]? ≠ (pre' ++ sv' :: post')[c]? := fun e => by
    apply hcne
    by_cases hk : c < 9
    · obtain ⟨a, b, a', b'⟩ := hlow c hk
      rw [a, a', ← b, ← b']
      exact e
    · obtain ⟨m, rfl⟩ : ∃ m, c = 10 + m := ⟨c - 10, by omega⟩
      obtain ⟨a, b, a', b'⟩ := hhigh m
      rw [a, a', ← b, ← b']
      exact e
  -- kinds
  have kind : ∀ k, kJ[c]? = some k → (∃ x, (pre ++ sv :: post)[c]? = some x ∧ k.ok x) ∧ ∃ y, (pre' ++ sv' :: post')[c]? = some y ∧ k.ok y := fun k hk' => by
    by_cases hlt : c < 9
    · obtain ⟨_, b, _, b'⟩ := hlow c hlt
      rw [b, b']
      have hkp : kPre[c]? = some k := by rw [← hk']; unfold kJ; rw [List.getElem?_append_left (by show c < 9; exact hlt)]
      exact ⟨okPre hj c hlt hkp, okPre hk c hlt hkp⟩
    · obtain ⟨m, rfl⟩ : ∃ m, c = 10 + m := ⟨c - 10, by omega⟩
      obtain ⟨_, b, _, b'⟩ := hhigh m
      rw [b, b']
      have hkp : kPost[m]? = some k := by
        rw [← hk']
        unfold kJ
        rw [List.getElem?_append_right (by show 9 ≤ 10 + m; omega), show 10 + m - kPre.length = m + 1 by show 10 + m - 9 = m + 1; omega, List.getElem?_cons_succ]
      exact ⟨okPost hj m hkp, okPost hk m hkp⟩
  have r1 : (base2 hj hk).rho c = cellI (pre ++ sv :: post) c := by
    rw [rho2_a hj hk hc13]
    by_cases hlt : c < 9
    · rw [fl_pre hj hlt]
      unfold cellI
      rw [(hlow c hlt).2.1]
    · obtain ⟨m, rfl⟩ : ∃ m, c = 10 + m := ⟨c - 10, by omega⟩
      rw [fl_post hj]
      unfold cellI
      rw [(hhigh m).2.1]
  have r2 : (base2 hj hk).rho (13 + c) = cellI (pre' ++ sv' :: post') c := by
    rw [rho2_b hj hk hc13]
    by_cases hlt : c < 9
    · rw [fl_pre hk hlt]
      unfold cellI
      rw [(hlow c hlt).2.2.2]
    · obtain ⟨m, rfl⟩ : ∃ m, c = 10 + m := ⟨c - 10, by omega⟩
      rw [fl_post hk]
      unfold cellI
      rw [(hhigh m).2.2.2]
  letI : Base := base2 hj hk
  obtain ⟨A', c', e'⟩ := hk.ops.sl
  have hmix : @Desc (base2 hj hk) ((mixS c c1J o2J).set 9 (.rv 1)) (pre' ++ sv' :: post') := by
    have hx := desc_c1 hj hk
    have hy := desc_o2 hj hk
    have hx' : @Desc (base2 hj hk) (c1J.set 9 (.rv 1)) ((pre ++ sv :: post).set 9 sv') := All2.set (R := fun x v => ∀ r, @VS (base2 hj hk) r x v) 9 hx fun r => ⟨A', els'.length, c', e', e'⟩
    have hm : @Desc (base2 hj hk) (mixS c (c1J.set 9 (.rv 1)) o2J) (pre' ++ sv' :: post') := Desc.mix hx' hy fun k hkc => by
      by_cases hk9 : k = 9
      · subst hk9
        rw [List.getElem?_set_self (by rw [all_len hj hk]; decide), List.getElem?_append_right (by omega), h2]
        rfl
      · rw [List.getElem?_set_ne (Ne.symm hk9)]
        exact heq' k hkc hk9
    have h9' : (pre' ++ sv' :: post')[9]? = some sv' := by
      rw [List.getElem?_append_right (by omega), h2]
      rfl
    have hput := Desc.put hm (f := 9) (x := .rv 1) h9' fun r => ⟨A', els'.length, c', e', e'⟩
    have e : (mixS c (c1J.set 9 (.rv 1)) o2J).set 9 (.rv 1) = (mixS c c1J o2J).set 9 (.rv 1) := by
      unfold fldsJ at hmem
      simp only [List.mem_cons, List.not_mem_nil, or_false] at hmem
      rcases hmem with rfl | rfl | rfl | rfl | rfl | rfl | rfl | rfl | rfl | rfl | rfl | rfl <;> rfl
    rw [e] at hput
    exact hput
  have hrun := List.all_eq_true.1 fld_runs c hmem
  simp only [Bool.and_eq_true] at hrun
  cases hB : isB c with
  | false =>
    have hL : (LF c).Holds (base2 hj hk).rho (base2 hj hk).sig := by
      have hs := start2 hj hk
      unfold LF
      rw [hB]
      refine ⟨hs.iv, fun i j hij => ?_, hs.lt, hs.to, hs.st, hs.sn, hs.cf⟩
      have : (i, j) ∈ [(c, 13 + c)] := hij
      simp only [List.mem_singleton, Prod.mk.injEq] at this
      obtain ⟨rfl, rfl⟩ := this
      rw [r1, r2]
      have hkk : ∃ k, kJ[i]? = some k ∧ k ≠ .s := by
        unfold fldsJ at hmem
        simp only [List.mem_cons, List.not_mem_nil, or_false] at hmem
        rcases hmem with rfl | rfl | rfl | rfl | rfl | rfl | rfl | rfl | rfl | rfl | rfl | rfl <;> exact ⟨_, rfl, by intro q; cases q⟩
      obtain ⟨k, hk1, hk2⟩ := hkk
      obtain ⟨⟨x, hx, kx⟩, y, hy, ky⟩ := kind k hk1
      unfold cellI
      rw [hx, hy] at hne' ⊢
      intro e
      apply hne'
      cases k with
      | s => exact absurd rfl hk2
      | b =>
        obtain ⟨p, rfl⟩ := kx
        obtain ⟨q, rfl⟩ := ky
        cases p <;> cases q <;> first | rfl | exact absurd e (by decide)
      | i kd =>
        obtain ⟨p, rfl, _⟩ := kx
        obtain ⟨q, rfl, _⟩ := ky
        have e : p = q := e
        rw [e]
    have ha : d1J c true = c1J := by unfold d1J; rw [hB]; rfl
    have hb : d2J c true = (mixS c c1J o2J).set 9 (.rv 1) := by unfold d2J; rw [hB]; rfl
    have hr := hrun.1
    rw [ha, hb] at hr
    exact run_F hj hk hL (fun b _ _ _ => sound_noneAny hj hk b) (desc_c1 hj hk) hmix hr
  | true =>
    have hc2 : kJ[c]? = some .b := by
      unfold isB at hB
      simp only [Bool.or_eq_true] at hB
      rcases hB with hB | hB <;> (obtain rfl := Nat.eq_of_beq_eq_true hB; rfl)
    obtain ⟨⟨x, hx, p, rfl⟩, y, hy, q, rfl⟩ := kind _ hc2
    have hpq : q = !p := by
      rw [hx, hy] at hne'
      cases p <;> cases q <;> first | rfl | exact absurd rfl hne'
    subst hpq
    have hL : (LF c).Holds (base2 hj hk).rho (base2 hj hk).sig := by
      unfold LF
      rw [hB]
      exact start2 hj hk
    have ha : @Desc (base2 hj hk) (d1J c p) (pre ++ sv :: post) := by
      unfold d1J
      rw [hB]
      exact Desc.put (desc_c1 hj hk) hx fun _ => rfl
    have hb : @Desc (base2 hj hk) (d2J c p) (pre' ++ sv' :: post') := by
      unfold d2J
      rw [hB]
      exact Desc.put hmix hy fun _ => rfl
    exact run_F hj hk hL (fun b _ _ _ => sound_noneAny hj hk b) ha hb (by
      cases p
      · exact hrun.2
      · exact hrun.1)
end
end Go.Proofs.YtaamdiknefodgaaDoor.Am
