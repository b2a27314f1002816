/- Comparing jumps: the runs of SameOperands and Same. Comparing jumps: what SameOperands and Same answer. Comparing jumps: what Same answers. -/
import Derived.Test.YtglmonlofejcgaaGreatDoorJump6
set_option maxHeartbeats 1000000
set_option maxRecDepth 100000
noncomputable section
open Nat renaming eq_of_beq_eq_true → apu, beq → apy, le_refl → apO
open List renaming getElem?_append_right → apv, getElem?_eq_getElem → apw, getElem?_append_left → apx, mem_range → apz, all_eq_true → apB, range → apC, mem_singleton → apD, not_mem_nil → apE, getElem?_cons_succ → apF, length_map → apG, mem_cons_of_mem → apH, mem_cons → apI, getElem?_take → apJ, mem_cons_self → apK, ext_getElem? → apL, getElem?_map → apM
open Bool renaming and_eq_true → apA
open Int renaming toNat_natCast → apN
set_option linter.unusedVariables false
set_option linter.unusedSectionVars false
namespace Go.Proofs.YtglmonlofejcgaaGreatDoor
namespace Am
open Go.RowKit
def gs2 : List Gp := [(true, kJ), (true, kJ)]
def e1S (i : Nat) : List S := bV (26 + 5 * i) opK
def e2S (n i : Nat) : List S := bV (26 + 5 * n + 5 * i) opK
def Jo (f : Nat) (xs ys : List S) : List S := xs.take f ++ ys.drop f
def Gl (f : Nat) (b : Bool) (xs : List S) : List S := bif apy f 3 then xs.set 3 (.bool b) else xs
def dE1 (d f : Nat) (b : Bool) (i : Nat) : List S := bif apy i d then Gl f b (e1S i) else e1S i
def dE2 (n d f : Nat) (b : Bool) (i : Nat) : List S := bif Nat.blt i d then e1S i else bif apy i d then Gl f (!b) (Jo f (e1S i) (e2S n i)) else e2S n i
def tbS (n : Nat) (E1 E2 : Nat -> List S) : Tabs := ⟨[(0, 9), (1, 22)], ((apC n).map fun (i : Nat) => ((0 : Nat), N.c (i : Int), E1 i)) ++ ((apC n).map fun (i : Nat) => ((1 : Nat), N.c (i : Int), E2 i)), []⟩
def LS0 (n : Nat) : Lf := qG (qG (Lf.l9 gs2 [] []) 9 n) 22 n
def LSn (n : Nat) (ne : List (Nat × Nat)) : Lf := { LS0 n with ne := ne }
def LSl : Lf := { Lf.l9 gs2 [] [] with ne := [(9, 22)] }
def a2z (L : Lf) (tb : Tabs) : R := @rC (L.know []) (mY Tryz.prog) (nC Tryz.prog) nN tb (fun _ _ _ _ => none) 30 5 47 [.s (.rv 0), .s (.rv 1)] ⟨[], 0⟩ 0
def apc (n : Nat) : Bool := tells true (a2z (LSn n []) (tbS n e1S e1S))
def neP (n d f : Nat) : List (Nat × Nat) := bif apy f 3 then [] else [(26 + 5 * d + f, 26 + 5 * n + 5 * d + f)]
def aml (n d f : Nat) (b : Bool) : Bool := tells false (a2z (LSn n (neP n d f)) (tbS n (dE1 d f b) (dE2 n d f b)))
theorem afT : ((apC 13).all apc) = true := by kernel_rfl
theorem afh : ((apC 9).all fun n => (apC n).all fun d => (apC 5).all fun f => aml n d f true && aml n d f false) = true := by kernel_rfl
theorem abl : tells false (a2z LSl ⟨[(0, 9), (1, 22)], [], []⟩) = true := by kernel_rfl
def c1J : List S := bV 0 oK ++ .rv 0 :: bV 10 kW
def o2J : List S := bV 13 oK ++ .rv 1 :: bV 23 kW
def isB (c : Nat) : Bool := apy c 4 || apy c 11
def d1J (c : Nat) (b : Bool) : List S := bif isB c then c1J.set c (.bool b) else c1J
def d2J (c : Nat) (b : Bool) : List S := bif isB c then ((Jo c c1J o2J).set 9 (.rv 1)).set c (.bool (!b)) else (Jo c c1J o2J).set 9 (.rv 1)
def LF (c : Nat) : Lf := bif isB c then Lf.l9 gs2 [] [] else { Lf.l9 gs2 [] [] with ne := [(c, 13 + c)] }
def a4P (L : Lf) (lib : aS) (a b : List S) : R := @rC (L.know []) (mY Tryz.prog) (nC Tryz.prog) lib Tabs.nought (fun _ _ _ _ => none) 30 5 28 [.g a, .g b] ⟨[], 0⟩ 0
def XP : List Nat := [0, 1, 2, 3, 4, 5, 6, 7, 8, 10, 11, 12]
theorem ace : (XP.all fun c => tells false (a4P (LF c) nN (d1J c true) (d2J c true)) && tells false (a4P (LF c) nN (d1J c false) (d2J c false))) = true := by kernel_rfl
def Zh (b : Bool) : aS := kU 47 [.s (.rv 0), .s (.rv 1)] (V.s (.bool b))
theorem a8c : (tells true (a4P (Lf.l9 gs2 [] []) (Zh true) c1J (c1J.set 9 (.rv 1))) && tells false (a4P (Lf.l9 gs2 [] []) (Zh false) c1J (c1J.set 9 (.rv 1)))) = true := by kernel_rfl
def jF [Base] (xs : List S) (el : List Value) : Prop := ak (fun x v => ∀ r, VS r x v) xs el
theorem jF.vs [Base] {xs : List S} {el : List Value} (h : jF xs el) (r : Ren) : ak (VS r) xs el := h.imp fun _ _ k => k r
theorem jF.mix [Base] {xs ys : List S} {a b : List Value} (hx : jF xs a) (hy : jF ys b) {f : Nat} (h : ∀ k, k < f -> a[k]? = b[k]?) : jF (Jo f xs ys) b := by
 have e : b = b.take f ++ b.drop f := (List.take_append_drop f b).symm
 have e2 : a.take f = b.take f := apL fun k => by
  rw [apJ, apJ]
  split
  ·exact h k (by assumption)
  ·rfl
 unfold Jo jF
 rw [e]
 refine ak.app ?_ (hy.drop f)
 have := hx.take f
 rw [e2] at this
 exact this
theorem jF.put [Base] {xs : List S} {a : List Value} (hx : jF xs a) {f : Nat} {x : S} {v : Value} (hv : a[f]? = some v) (h : ∀ r, VS r x v) : jF (xs.set f x) a := by
 have : a.set f v = a := apL fun k => by
  rw [List.getElem?_set]
  split
  ·rename_i hk
   subst hk
   split
   ·exact hv.symm
   ·rename_i hl
    rw [List.getElem?_eq_none (by omega)] at hv
    cases hv
  ·rfl
 have h2 := ak.set (R := fun x v => ∀ r, VS r x v) f hx h
 rw [this] at h2
 exact h2
theorem XM : ∀ {l : List (Nat × N × List S)} {k : Nat} {i : N} {cs : List S}, Tabs.Ei ⟨[], l, []⟩ k i = some cs -> (k, i, cs) ∈ l
 | [], k, i, cs, h => by cases h
 | p :: l, k, i, cs, h => by
  have h : (bif apy p.1 k && p.2.1.eqv i then some p.2.2 else Tabs.Ei ⟨[], l, []⟩ k i) = some cs := h
  cases hb : (apy p.1 k && p.2.1.eqv i) <;> rw [hb] at h <;> simp only [cond_true, cond_false] at h
  ·exact apH _ (XM h)
  ·cases h
   simp only [apA] at hb
   obtain ⟨a, b, c⟩ := p
   obtain rfl := apu hb.1
   obtain rfl := N.vJ hb.2
   exact apK ..
theorem vN {α : Type} : ∀ {l m : List α}, l.length = m.length -> l ≠ m -> ∃ d, d < l.length /\ (∀ i, i < d -> l[i]? = m[i]?) /\ l[d]? ≠ m[d]?
 | [], [], _, h => absurd rfl h
 | [], _ :: _, h, _ => by cases h
 | _ :: _, [], h, _ => by cases h
 | x :: l, y :: m, hl, hn => by
  by_cases e : x = y
  ·subst e
   obtain ⟨d, h1, h2, h3⟩ := vN (l := l) (m := m) (by simpa using hl) (fun e => hn (by rw [e]))
   refine ⟨d + 1, by simp; omega, fun i hi => ?_, by simpa using h3⟩
   cases i with
   | zero => rfl
   | succ i => simpa using h2 i (by omega)
  ·exact ⟨0, by simp, fun i hi => absurd hi (Nat.not_lt_zero i), by simpa using e⟩
section
variable {w : World} {v v' : Value} {pre pre' : List Value} {sv sv' : Value} {post post' : List Value} {els els' : List (List Value)} (hj : dO w v pre sv post els) (hk : dO w v' pre' sv' post' els')
include hj hk
def RD (_ : dO w v pre sv post els) (_ : dO w v' pre' sv' post' els') : List Value := aU pre els post ++ (aU pre' els' post' ++ [])
def CP (_ : dO w v pre sv post els) (_ : dO w v' pre' sv' post' els') : List Int := els.flatten.map bf ++ els'.flatten.map bf
theorem uI : (RD hj hk).length = 26 := by
 have h1 := iF hj
 have h2 := iF hk
 simp [RD, h1, h2]
theorem ank : Gps gs2 [.agg (aU pre els post).toArray, .agg (aU pre' els' post').toArray] (RD hj hk) :=
 ⟨_, _, rfl, ⟨qj hj, .inl ⟨rfl, rfl⟩⟩, _, _, rfl, ⟨qj hk, .inl ⟨rfl, rfl⟩⟩, rfl⟩
@[reducible] def dB : Base :=
 { Know.nought with nb := w.heap.size, g := fun k => w.heap[k]?, rho := dw (behind (RD hj hk) [] (CP hj hk)), sig := fG (behind (RD hj hk) [] (CP hj hk)), ok := aG.nought _ _, lst := fun k => match k with | 0 => ⟨sv, els⟩ | _ => ⟨sv', els'⟩ }
theorem akO : Lens [] (dB hj hk).rho (dB hj hk).sig := rY (n := 26) (a := 0) (ank hj hk) rfl (uI hj hk) rfl
theorem Dl {i : Nat} (h : i < 13) : (dB hj hk).rho i = ah (aU pre els post) i := by
 show dw _ _ = _
 rw [mX (by rw [uI]; omega)]
 exact jE (by rw [iF hj]; exact h)
theorem Dc {i : Nat} (h : i < 13) : (dB hj hk).rho (13 + i) = ah (aU pre' els' post') i := by
 show dw _ _ = _
 rw [mX (by rw [uI]; omega)]
 unfold RD
 rw [kG (iF hj), List.append_nil]
theorem UC {l : List (List Value)} (hl : ∀ (i : Nat) (el : List Value), l[i]? = some el -> ak Kd.ok opK el) : ∀ x ∈ l, x.length = 5 := fun x hx => by
 obtain ⟨k, hx'⟩ := List.getElem?_of_mem hx
 have := (hl k x hx').len
 simp [opK] at this
 omega
theorem a8u : els.flatten.length = 5 * els.length := by
 have h := UC hj hk (l := els) hj.ops.kd
 clear hj hk
 induction els with
 | nil => rfl
 | cons x l ih => rw [List.flatten_cons, List.length_append, h x (apK ..), ih fun y hy => h y (apH _ hy), List.length_cons]; omega
theorem afk {i f : Nat} {el : List Value} (h : els[i]? = some el) (hf : f < 5) : (dB hj hk).rho (26 + 5 * i + f) = ah el f := by
 have h5 := DK hj h
 have hx : el[f]? = some (el[f]'(by omega)) := apw _
 have h1 := Fe hj (UC hj hk hj.ops.kd) h hf
 have : (CP hj hk)[5 * i + f]? = some (ah el f) := by
  unfold CP
  rw [apx (by rw [apG]; exact (List.getElem?_eq_some_iff.1 (h1.trans hx)).1), apM, h1, hx]
  show some (bf _) = _
  unfold ah
  rw [hx]
 rw [show 26 + 5 * i + f = 26 + 0 + (5 * i + f) by omega]
 exact iy (uI hj hk) rfl this
theorem aeV {i f : Nat} {el : List Value} (h : els'[i]? = some el) (hf : f < 5) : (dB hj hk).rho (26 + 5 * els.length + 5 * i + f) = ah el f := by
 have h5 := DK hk h
 have hx : el[f]? = some (el[f]'(by omega)) := apw _
 have h1 := Fe hk (UC hk hj hk.ops.kd) h hf
 have hl := a8u hj hk
 have : (CP hj hk)[5 * els.length + (5 * i + f)]? = some (ah el f) := by
  unfold CP
  rw [apv (by rw [apG]; omega), apG, hl, show 5 * els.length + (5 * i + f) - 5 * els.length = 5 * i + f by omega, apM, h1, hx]
  show some (bf _) = _
  unfold ah
  rw [hx]
 rw [show 26 + 5 * els.length + 5 * i + f = 26 + 0 + (5 * els.length + (5 * i + f)) by omega]
 exact iy (uI hj hk) rfl this
theorem a4c (b : Base) {el : List Value} (h : ak Kd.ok opK el) {o : Nat} (hr : ∀ f, f < 5 -> b.rho (o + f) = ah el f) : @jF b (bV o opK) el := by
 obtain ⟨a, b', c, d, e, rfl⟩ := qM h
 have r0 := hr 0 (by decide); have r1 := hr 1 (by decide); have r2 := hr 2 (by decide); have r3 := hr 3 (by decide); have r4 := hr 4 (by decide)
 refine ⟨fun r => ?_, fun r => ?_, fun r => ?_, fun r => ?_, fun r => ?_, trivial⟩
 ·exact congrArg (Value.int .u8) r0.symm
 ·exact congrArg (Value.int .i64) r1.symm
 ·exact congrArg (Value.int .i64) r2.symm
 ·show _ = Value.bool ([((o + 1 + 1 + 1 : Nat), (1 : Int))].any fun p => decide (b.rho p.1 = p.2))
  simp only [List.any_cons, List.any_nil, Bool.or_false]
  rw [show o + 1 + 1 + 1 = o + 3 by omega, r3]
  cases d <;> rfl
 ·exact congrArg (Value.int .u8) r4.symm
theorem wu {i : Nat} {el : List Value} (h : els[i]? = some el) : @jF (dB hj hk) (e1S i) el := a4c hj hk _ (hj.ops.kd i el h) fun f hf => afk hj hk h hf
theorem a3h {i : Nat} {el : List Value} (h : els'[i]? = some el) : @jF (dB hj hk) (e2S els.length i) el := a4c hj hk _ (hk.ops.kd i el h) fun f hf => aeV hj hk h hf
theorem alb {w : World} {v : Value} {pre : List Value} {sv : Value} {post : List Value} {els : List (List Value)} (hj : dO w v pre sv post els) {b : Base} (hg : ∀ k, k < w.heap.size -> b.g k = w.heap[k]?) (hnb : b.nb = w.heap.size) {m : Nat} (hl : b.lst m = ⟨sv, els⟩) {k : Nat} (hkl : k < els.length) {cs : List S} (hd : @jF b cs (els[k])) :
  ∃ b0 off n c el, (b.lst m).v = .slice (some ⟨b0, off, none⟩) n c /\ 0 <= @NV b (.c (k : Int)) /\ @NV b (.c (k : Int)) < n /\ @aib b m (.c (k : Int)) b0 (off + (@NV b (.c (k : Int))).toNat * cs.length) el /\ ak (fun x v => ∀ r, @VS b r x v) cs el := by
 have he : els[k]? = some els[k] := apw hkl
 obtain ⟨b0, off, c, e, hc⟩ := hj.ops.at_ k _ he
 have hlen : cs.length = 5 := hd.len.trans (DK hj he)
 refine ⟨b0, off, els.length, c, els[k], by rw [hl]; exact e, by show (0 : Int) <= (k : Int); omega, by show (k : Int) < _; omega, ⟨by rw [hl]; show els[((k : Nat) : Int).toNat]? = _; rw [apN]; exact he, fun f u hf w1 hw => ?_⟩, hd⟩
 have hcell := hc f u hf
 rw [hlen]
 show w1.cell? ⟨b0, off + ((k : Nat) : Int).toNat * 5 + f, none⟩ = some u
 rw [apN]
 have hlt := World.block_lt_of_cell? w ⟨b0, off + k * 5 + f, none⟩ hcell
 have hblk : w1.heap[b0]? = w.heap[b0]? := (hw b0 (by show b0 < b.nb; rw [hnb]; exact hlt)).trans (hg b0 hlt)
 rw [<- hcell]
 exact World.cell?_of_block hblk
theorem alQ : ak (@VA (dB hj hk) r0) [.s (.rv 0), .s (.rv 1)] [sv, sv'] := by
 obtain ⟨A, c, e⟩ := hj.ops.sl
 obtain ⟨A', c', e'⟩ := hk.ops.sl
 exact ⟨⟨A, els.length, c, e, e⟩, ⟨A', els'.length, c', e', e'⟩, trivial⟩
theorem akD {n : Nat} (h1 : els.length = n) (h2 : els'.length = n) {E1 E2 : Nat -> List S} (d1 : ∀ i el, els[i]? = some el -> @jF (dB hj hk) (E1 i) el) (d2 : ∀ i el, els'[i]? = some el -> @jF (dB hj hk) (E2 i) el) : @bg (dB hj hk) (tbS n E1 E2) := by
 letI : Base := dB hj hk
 refine ⟨fun l j h => ?_, fun l i cs h => ?_, fun i c j h => (by cases h)⟩
 ·have h : (bif apy 0 l then some 9 else bif apy 1 l then some 22 else none) = some j := h
  cases hb : apy 0 l <;> rw [hb] at h <;> simp only [cond_true, cond_false] at h
  ·cases hb1 : apy 1 l <;> rw [hb1] at h <;> cases h
   obtain rfl := apu hb1
   obtain ⟨A, c, e⟩ := hk.ops.sl
   exact ⟨A, els'.length, c, e, (Dc hj hk (i := 9) (by decide)).trans (jg hk)⟩
  ·cases h
   obtain rfl := apu hb
   obtain ⟨A, c, e⟩ := hj.ops.sl
   exact ⟨A, els.length, c, e, (Dl hj hk (by decide)).trans (jg hj)⟩
 ·have hm := XM (show Tabs.Ei ⟨[], _, []⟩ l i = some cs from h)
  rcases List.mem_append.1 hm with hm | hm
  ·obtain ⟨k, hkr, e⟩ := List.mem_map.1 hm
   cases e
   have hkr := apz.1 hkr
   exact alb hj hk hj (b := dB hj hk) (fun _ _ => rfl) rfl rfl (by omega) (d1 k _ (apw (by omega)))
  ·obtain ⟨k, hkr, e⟩ := List.mem_map.1 hm
   cases e
   have hkr := apz.1 hkr
   exact alb hj hk hk (b := dB hj hk) (fun _ _ => rfl) rfl rfl (by omega) (d2 k _ (apw (by omega)))
theorem Np : (Lf.l9 gs2 [] []).Holds (dB hj hk).rho (dB hj hk).sig := Lf.yT (ank hj hk) (ivS := []) (strs := []) trivial (i0 := []) (i1 := CP hj hk) rfl trivial
theorem adT {L : Lf} (hL : L.Holds (dB hj hk).rho (dB hj hk).sig) {tb : Tabs} (ht : @bg (dB hj hk) tb) {b : Bool} (hr : tells b (a2z L tb) = true) : Calls Tryz.prog 47 #[sv, sv'] w fun e w' => e = .returned (.bool b) /\ Below w.heap.size w w' := by
 letI bL : Base := (dB hj hk).aH (L.know []) (Lf.ok hL (akO hj hk))
 exact @JZ bL _ w (apO _) (fun _ _ => rfl) _ (@qN bL _ _ (@sF bL Tryz.prog) _ Qq nN (fun _ _ _ _ _ _ h => by cases h) DF _ (bg.aH ht _) _ (fun f F cd _ _ => Loops.qU (fun c => @aO.none bL _ c) cd) 30 5) _ _ _ (alQ hj hk) _ hr
theorem a2o {n : Nat} (h1 : els.length = n) (h2 : els'.length = n) {ne : List (Nat × Nat)} (hne : ∀ i j, (i, j) ∈ ne -> (dB hj hk).rho i ≠ (dB hj hk).rho j) : (LSn n ne).Holds (dB hj hk).rho (dB hj hk).sig := by
 have h := Lf.Holds.qG hj (Lf.Holds.qG hj (Np hj hk) (i := 9) (c := n) ((Dl hj hk (by decide)).trans (by rw [jg hj, h1]))) (i := 22) (c := n) ((Dc hj hk (i := 9) (by decide)).trans (by rw [jg hk, h2]))
 exact ⟨h.iv, fun i j hij => hne i j hij, h.lt, h.to, h.st, h.sn, h.cf⟩
theorem ags (e : els = els') (hl : els.length < 13) : Calls Tryz.prog 47 #[sv, sv'] w fun e w' => e = .returned (.bool true) /\ Below w.heap.size w w' := by
 have d2 : ∀ i el, els'[i]? = some el -> @jF (dB hj hk) (e1S i) el := fun i el h => wu hj hk (e ▸ h)
 exact adT hj hk (a2o hj hk rfl (by rw [e]) (ne := []) fun i j h => by cases h) (akD hj hk rfl (by rw [e]) (fun i el h => wu hj hk h) d2) (apB.1 afT els.length (apz.2 hl))
theorem a3E {a b : List Value} {ks : List Kd} (ha : ak Kd.ok ks a) (hb : ak Kd.ok ks b) {f : Nat} {k : Kd} (hkf : ks[f]? = some k) (hs : k ≠ .s) (h : a[f]? ≠ b[f]?) : ah a f ≠ ah b f := by
 obtain ⟨x, hx, kx⟩ := ak.nth ha (n := f) (x := k) (by rw [aN]; exact hkf)
 obtain ⟨y, hy, ky⟩ := ak.nth hb (n := f) (x := k) (by rw [aN]; exact hkf)
 unfold ah
 rw [hx, hy] at h |-
 intro e
 apply h
 cases k with
 | s => exact absurd rfl hs
 | b =>
  obtain ⟨p, rfl⟩ := kx
  obtain ⟨q, rfl⟩ := ky
  cases p <;> cases q <;> first | rfl | exact absurd e (by decide)
 | i kd =>
  obtain ⟨p, rfl, _⟩ := kx
  obtain ⟨q, rfl, _⟩ := ky
  have e : p = q := e
  rw [e]
theorem ajt (e : els ≠ els') (hl : els.length < 9) : Calls Tryz.prog 47 #[sv, sv'] w fun e w' => e = .returned (.bool false) /\ Below w.heap.size w w' := by
 letI : Base := dB hj hk
 by_cases hlen : els'.length = els.length
 ·obtain ⟨d, hd, heq, hne⟩ := vN hlen.symm e
  have ha : els[d]? = some els[d] := apw hd
  have hb : els'[d]? = some (els'[d]'(by omega)) := apw _
  have ka := hj.ops.kd d _ ha
  have kb := hk.ops.kd d _ hb
  have la := DK hj ha
  have lb := DK hk hb
  have hne' : els[d] ≠ els'[d]'(by omega) := fun q => hne (by rw [ha, hb, q])
  obtain ⟨f, hf, feq, fne⟩ := vN (by omega) hne'
  have hf5 : f < 5 := by omega
  -- a truth value of each
  have hbool : ∃ b : Bool, f = 3 -> els[d][3]? = some (.bool b) /\ (els'[d]'(by omega))[3]? = some (.bool (!b)) := by
   by_cases h3 : f = 3
   ·subst h3
    obtain ⟨x, hx, b, rfl⟩ := ak.nth ka (n := 3) (x := .b) rfl
    obtain ⟨y, hy, c, rfl⟩ := ak.nth kb (n := 3) (x := .b) rfl
    refine ⟨b, fun _ => ⟨hx, ?_⟩⟩
    rw [hx, hy] at fne
    rw [hy]
    cases b <;> cases c <;> first | rfl | exact absurd rfl fne
   ·exact ⟨true, fun q => absurd q h3⟩
  obtain ⟨b, hb3⟩ := hbool
  have hrun := apB.1 (apB.1 (apB.1 afh els.length (apz.2 hl)) d (apz.2 hd)) f (apz.2 hf5)
  have hrun : aml els.length d f b = true := by
   simp only [apA] at hrun
   cases b
   ·exact hrun.2
   ·exact hrun.1
  refine adT hj hk (a2o hj hk rfl hlen (ne := neP els.length d f) fun i j hij => ?_) (akD hj hk rfl hlen (E1 := dE1 d f b) (E2 := dE2 els.length d f b) (fun i el h => ?_) fun i el h => ?_) hrun
  ·unfold neP at hij
   cases h3 : apy f 3 with
   | true => rw [h3] at hij; cases hij
   | false =>
    rw [h3] at hij
    have hij := apD.1 hij
    cases hij
    rw [afk hj hk ha hf5, aeV hj hk hb hf5]
    have hkf : ∃ k, opK[f]? = some k /\ k ≠ .s := by
     have : f = 0 \/ f = 1 \/ f = 2 \/ f = 3 \/ f = 4 := by omega
     rcases this with rfl | rfl | rfl | rfl | rfl <;> exact ⟨_, rfl, by intro q; cases q⟩
    obtain ⟨k, hk1, hk2⟩ := hkf
    exact a3E hj hk ka kb hk1 hk2 fne
  ·unfold dE1
   cases hi : apy i d with
   | false => exact wu hj hk h
   | true =>
    obtain rfl := apu hi
    rw [ha] at h
    cases h
    show @jF _ (Gl f b (e1S i)) _
    unfold Gl
    cases h3 : apy f 3 with
    | false => exact wu hj hk ha
    | true => exact jF.put (wu hj hk ha) (hb3 (apu h3)).1 fun _ => rfl
  ·unfold dE2
   cases hlt : Nat.blt i d with
   | true =>
    have : i < d := by rwa [Nat.blt_eq] at hlt
    exact wu hj hk ((heq i this).trans h)
   | false =>
    cases hi : apy i d with
    | false => exact a3h hj hk h
    | true =>
     obtain rfl := apu hi
     rw [hb] at h
     cases h
     have hm : @jF (dB hj hk) (Jo f (e1S i) (e2S els.length i)) (els'[i]'(by omega)) := jF.mix (wu hj hk ha) (a3h hj hk hb) feq
     show @jF _ (Gl f (!b) (Jo f (e1S i) (e2S els.length i))) _
     unfold Gl
     cases h3 : apy f 3 with
     | false => exact hm
     | true => exact jF.put hm (hb3 (apu h3)).2 fun _ => rfl
 ·have hh : LSl.Holds (dB hj hk).rho (dB hj hk).sig := by
   have h := Np hj hk
   refine ⟨h.iv, fun i j hij => ?_, h.lt, h.to, h.st, h.sn, h.cf⟩
   have : (i, j) ∈ [((9 : Nat), (22 : Nat))] := hij
   simp only [apD, Prod.mk.injEq] at this
   obtain ⟨rfl, rfl⟩ := this
   rw [Dl hj hk (by decide), show (22 : Nat) = 13 + 9 by rfl, Dc hj hk (by decide), jg hj, jg hk]
   omega
  refine adT hj hk hh ?_ abl
  letI : Base := dB hj hk
  refine ⟨fun l j h => ?_, fun l i cs h => (by cases h), fun i c j h => (by cases h)⟩
  have h : (bif apy 0 l then some 9 else bif apy 1 l then some 22 else none) = some j := h
  cases hb : apy 0 l <;> rw [hb] at h <;> simp only [cond_true, cond_false] at h
  ·cases hb1 : apy 1 l <;> rw [hb1] at h <;> cases h
   obtain rfl := apu hb1
   obtain ⟨A, c, e⟩ := hk.ops.sl
   exact ⟨A, els'.length, c, e, (Dc hj hk (i := 9) (by decide)).trans (jg hk)⟩
  ·cases h
   obtain rfl := apu hb
   obtain ⟨A, c, e⟩ := hj.ops.sl
   exact ⟨A, els.length, c, e, (Dl hj hk (by decide)).trans (jg hj)⟩
end
theorem Kt (b : Base) : ∀ {ks : List Kd} {us : List Value} {o : Nat}, (ks.all fun k => match k with | .s => false | _ => true) = true -> ak Kd.ok ks us -> (∀ i, i < us.length -> b.rho (o + i) = ah us i) -> @jF b (bV o ks) us
 | [], [], _, _, _, _ => trivial
 | k :: ks, u :: us, o, hs, hk, hr => by
  simp only [List.all_cons, apA] at hs
  have h0 : b.rho o = bf u := hr 0 (by simp)
  refine ⟨fun r => ?_, Kt b (o := o + 1) hs.2 hk.2 fun i hi => ?_⟩
  ·cases k with
   | s => exact absurd hs.1 (by decide)
   | b =>
    obtain ⟨p, rfl⟩ := hk.1
    show _ = Value.bool ([((o : Nat), (1 : Int))].any fun p => decide (b.rho p.1 = p.2))
    simp only [List.any_cons, List.any_nil, Bool.or_false]
    rw [h0]
    cases p <;> rfl
   | i kd =>
    obtain ⟨n, rfl, _⟩ := hk.1
    exact congrArg (Value.int kd) h0.symm
  ·have := hr (i + 1) (by simpa using hi)
   rw [show o + 1 + i = o + (i + 1) by omega, this]
   rfl
 | [], _ :: _, _, _, h, _ => h.elim
 | _ :: _, [], _, _, h, _ => h.elim
section
variable {w : World} {v v' : Value} {pre pre' : List Value} {sv sv' : Value} {post post' : List Value} {els els' : List (List Value)} (hj : dO w v pre sv post els) (hk : dO w v' pre' sv' post' els')
include hj hk
theorem En : @jF (dB hj hk) c1J (pre ++ sv :: post) := by
 refine ak.app (Kt _ rfl hj.pre fun i hi => ?_) ⟨fun r => ?_, Kt _ rfl hj.post fun i hi => ?_⟩
 ·have := fH hj
  rw [Nat.zero_add, Dl hj hk (by omega), D7 hj (by omega)]
 ·obtain ⟨A, c, e⟩ := hj.ops.sl
  exact ⟨A, els.length, c, e, e⟩
 ·have := tV hj
  rw [Dl hj hk (by omega), Eo hj]
theorem ak3 : @jF (dB hj hk) o2J (pre' ++ sv' :: post') := by
 refine ak.app (Kt _ rfl hk.pre fun i hi => ?_) ⟨fun r => ?_, Kt _ rfl hk.post fun i hi => ?_⟩
 ·have := fH hk
  rw [Dc hj hk (by omega), D7 hk (by omega)]
 ·obtain ⟨A, c, e⟩ := hk.ops.sl
  exact ⟨A, els'.length, c, e, e⟩
 ·have := tV hk
  rw [show 23 + i = 13 + (10 + i) by omega, Dc hj hk (by omega), Eo hk]
theorem ahV : (pre ++ sv :: post).length = 13 := by simp [fH hj, tV hj]
theorem abP {L : Lf} (hL : L.Holds (dB hj hk).rho (dB hj hk).sig) {lib : aS} (hlib : ∀ b : Base, b.nb = w.heap.size -> b.g = (fun k => w.heap[k]?) -> b.lst = (dB hj hk).lst -> @Sound b Tryz.prog lib) {a b : List S} (ha : @jF (dB hj hk) a (pre ++ sv :: post)) (hb : @jF (dB hj hk) b (pre' ++ sv' :: post')) {t : Bool} (hr : tells t (a4P L lib a b) = true) :
  Calls Tryz.prog 28 #[v, v'] w fun e w' => e = .returned (.bool t) /\ Below w.heap.size w w' := by
 letI bL : Base := (dB hj hk).aH (L.know []) (Lf.ok hL (akO hj hk))
 have hv : ak (@VA bL r0) [.g a, .g b] [v, v'] := ⟨⟨_, hj.v, @jF.vs (dB hj hk) _ _ ha r0⟩, ⟨_, hk.v, @jF.vs (dB hj hk) _ _ hb r0⟩, trivial⟩
 exact @JZ bL _ w (apO _) (fun _ _ => rfl) _ (@qN bL _ _ (@sF bL Tryz.prog) _ Qq lib (hlib bL rfl rfl rfl) DF _ (@bg.nought bL) _ (fun f F cd _ _ => Loops.qU (fun c => @aO.none bL _ c) cd) 30 5) _ _ _ hv _ hr
theorem Ak (b : Base) : @Sound b Tryz.prog nN := fun _ _ _ _ _ _ h => by cases h
theorem afJ {t : Bool} (h : ∀ w' : World, (∀ k, k < w.heap.size -> w'.heap[k]? = w.heap[k]?) -> Calls Tryz.prog 47 #[sv, sv'] w' fun e w'' => e = .returned (.bool t) /\ Below w'.heap.size w' w'') (b : Base) (hnb : b.nb = w.heap.size) (hg : b.g = fun k => w.heap[k]?) (hl : b.lst = (dB hj hk).lst) : @Sound b Tryz.prog (Zh t) := by
 letI : Base := b
 obtain ⟨A, c, e⟩ := hj.ops.sl
 obtain ⟨A', c', e'⟩ := hk.ops.sl
 have hv : ak (@VA b r0) [.s (.rv 0), .s (.rv 1)] [sv, sv'] := ⟨⟨A, els.length, c, by rw [hl]; exact e, e⟩, ⟨A', els'.length, c', by rw [hl]; exact e', e'⟩, trivial⟩
 exact @dF b _ _ ⟨_, Tryz.func47, by kernel_rfl, by kernel_rfl⟩ _ _ rfl _ hv (.bool t) (fun _ => rfl) fun w' hw => h w' fun k hk' => by
  have h1 : w'.heap[k]? = b.g k := hw k (by show k < b.nb; rw [hnb]; exact hk')
  rw [h1, hg]
theorem Sv {t : Bool} (e1 : pre = pre') (e2 : post = post') (ht : t = true /\ els = els' /\ els.length < 13 \/ t = false /\ els ≠ els' /\ els.length < 9) : Calls Tryz.prog 28 #[v, v'] w fun e w' => e = .returned (.bool t) /\ Below w.heap.size w w' := by
 have hb : @jF (dB hj hk) (c1J.set 9 (.rv 1)) (pre' ++ sv' :: post') := by
  have h1 := En hj hk
  obtain ⟨A', c', e'⟩ := hk.ops.sl
  have h2 := ak.set (R := fun x v => ∀ r, @VS (dB hj hk) r x v) 9 h1 (x := .rv 1) (y := sv') fun r => ⟨A', els'.length, c', e', e'⟩
  have : (pre ++ sv :: post).set 9 sv' = pre' ++ sv' :: post' := by
   rw [<- e1, <- e2, List.set_append_right _ _ (by rw [fH hj]; exact apO _), fH hj]
   rfl
  rw [this] at h2
  exact h2
 have hrun := a8c
 simp only [apA] at hrun
 have hr : tells t (a4P (Lf.l9 gs2 [] []) (Zh t) c1J (c1J.set 9 (.rv 1))) = true := by
  rcases ht with ⟨rfl, _⟩ | ⟨rfl, _⟩
  ·exact hrun.1
  ·exact hrun.2
 refine abP hj hk (Np hj hk) (lib := Zh t) (afJ hj hk fun w' hw => ?_) (En hj hk) hb hr
 rcases ht with ⟨rfl, q1, q2⟩ | ⟨rfl, q1, q2⟩
 ·exact ags (hj.frz hw) (hk.frz hw) q1 q2
 ·exact ajt (hj.frz hw) (hk.frz hw) q1 q2
theorem Rt (h : pre ≠ pre' \/ post ≠ post') : Calls Tryz.prog 28 #[v, v'] w fun e w' => e = .returned (.bool false) /\ Below w.heap.size w w' := by
 -- the first cell that differs
 have h1 := fH hj; have h2 := fH hk; have h3 := tV hj; have h4 := tV hk
 have hne : pre ++ Value.nilIface :: post ≠ pre' ++ Value.nilIface :: post' := fun e => by
  have := List.append_inj e (by omega)
  rcases h with h | h
  ·exact h this.1
  ·exact h (List.cons.inj this.2).2
 obtain ⟨c, hc, heq, hcne⟩ := vN (by simp; omega) hne
 have hc13 : c < 13 := by simp at hc; omega
 have hlow : ∀ k, k < 9 -> (pre ++ Value.nilIface :: post)[k]? = pre[k]? /\ (pre ++ sv :: post)[k]? = pre[k]? /\ (pre' ++ Value.nilIface :: post')[k]? = pre'[k]? /\ (pre' ++ sv' :: post')[k]? = pre'[k]? := fun k hk => ⟨apx (by omega), apx (by omega), apx (by omega), apx (by omega)⟩
 have hhigh : ∀ k, (pre ++ Value.nilIface :: post)[10 + k]? = post[k]? /\ (pre ++ sv :: post)[10 + k]? = post[k]? /\ (pre' ++ Value.nilIface :: post')[10 + k]? = post'[k]? /\ (pre' ++ sv' :: post')[10 + k]? = post'[k]? := fun k => by
  have key : ∀ {p : List Value} {x : Value} {q : List Value}, p.length = 9 -> (p ++ x :: q)[10 + k]? = q[k]? := fun {p x q} hp => by
   rw [apv (by omega), hp, show 10 + k - 9 = k + 1 by omega, apF]
  exact ⟨key h1, key h1, key h2, key h2⟩
 have h9 : c ≠ 9 := fun e => by
  subst e
  apply hcne
  rw [apv (by omega), apv (by omega), h1, h2]
  rfl
 have hmem : c ∈ XP := by
  have : c = 0 \/ c = 1 \/ c = 2 \/ c = 3 \/ c = 4 \/ c = 5 \/ c = 6 \/ c = 7 \/ c = 8 \/ c = 10 \/ c = 11 \/ c = 12 := by omega
  unfold XP
  simp only [apI, apE, or_false]
  exact this
 -- the same with the lists in their place
 have heq' : ∀ k, k < c -> k ≠ 9 -> (pre ++ sv :: post)[k]? = (pre' ++ sv' :: post')[k]? := fun k hkc hk9 => by
  have e := heq k hkc
  by_cases hk : k < 9
  ·obtain ⟨a, b, a', b'⟩ := hlow k hk
   rw [b, b', <- a, <- a']
   exact e
  ·obtain ⟨m, rfl⟩ : ∃ m, k = 10 + m := ⟨k - 10, by omega⟩
   obtain ⟨a, b, a', b'⟩ := hhigh m
   rw [b, b', <- a, <- a']
   exact e
 have hne' : (pre ++ sv :: post)[c]? ≠ (pre' ++ sv' :: post')[c]? := fun e => by
  apply hcne
  by_cases hk : c < 9
  ·obtain ⟨a, b, a', b'⟩ := hlow c hk
   rw [a, a', <- b, <- b']
   exact e
  ·obtain ⟨m, rfl⟩ : ∃ m, c = 10 + m := ⟨c - 10, by omega⟩
   obtain ⟨a, b, a', b'⟩ := hhigh m
   rw [a, a', <- b, <- b']
   exact e
 -- kinds
 have kind : ∀ k, kJ[c]? = some k -> (∃ x, (pre ++ sv :: post)[c]? = some x /\ k.ok x) /\ ∃ y, (pre' ++ sv' :: post')[c]? = some y /\ k.ok y := fun k hk' => by
  by_cases hlt : c < 9
  ·obtain ⟨_, b, _, b'⟩ := hlow c hlt
   rw [b, b']
   have hkp : oK[c]? = some k := by rw [<- hk']; unfold kJ; rw [apx (by show c < 9; exact hlt)]
   exact ⟨a1Y hj c hlt hkp, a1Y hk c hlt hkp⟩
  ·obtain ⟨m, rfl⟩ : ∃ m, c = 10 + m := ⟨c - 10, by omega⟩
   obtain ⟨_, b, _, b'⟩ := hhigh m
   rw [b, b']
   have hkp : kW[m]? = some k := by
    rw [<- hk']
    unfold kJ
    rw [apv (by show 9 <= 10 + m; omega), show 10 + m - oK.length = m + 1 by show 10 + m - 9 = m + 1; omega, apF]
   exact ⟨Ue hj m hkp, Ue hk m hkp⟩
 have r1 : (dB hj hk).rho c = ah (pre ++ sv :: post) c := by
  rw [Dl hj hk hc13]
  by_cases hlt : c < 9
  ·rw [D7 hj hlt]
   unfold ah
   rw [(hlow c hlt).2.1]
  ·obtain ⟨m, rfl⟩ : ∃ m, c = 10 + m := ⟨c - 10, by omega⟩
   rw [Eo hj]
   unfold ah
   rw [(hhigh m).2.1]
 have r2 : (dB hj hk).rho (13 + c) = ah (pre' ++ sv' :: post') c := by
  rw [Dc hj hk hc13]
  by_cases hlt : c < 9
  ·rw [D7 hk hlt]
   unfold ah
   rw [(hlow c hlt).2.2.2]
  ·obtain ⟨m, rfl⟩ : ∃ m, c = 10 + m := ⟨c - 10, by omega⟩
   rw [Eo hk]
   unfold ah
   rw [(hhigh m).2.2.2]
 letI : Base := dB hj hk
 obtain ⟨A', c', e'⟩ := hk.ops.sl
 have hmix : @jF (dB hj hk) ((Jo c c1J o2J).set 9 (.rv 1)) (pre' ++ sv' :: post') := by
  have hx := En hj hk
  have hy := ak3 hj hk
  have hx' : @jF (dB hj hk) (c1J.set 9 (.rv 1)) ((pre ++ sv :: post).set 9 sv') := ak.set (R := fun x v => ∀ r, @VS (dB hj hk) r x v) 9 hx fun r => ⟨A', els'.length, c', e', e'⟩
  have hm : @jF (dB hj hk) (Jo c (c1J.set 9 (.rv 1)) o2J) (pre' ++ sv' :: post') := jF.mix hx' hy fun k hkc => by
   by_cases hk9 : k = 9
   ·subst hk9
    rw [List.getElem?_set_self (by rw [ahV hj hk]; decide), apv (by omega), h2]
    rfl
   ·rw [List.getElem?_set_ne (Ne.symm hk9)]
    exact heq' k hkc hk9
  have h9' : (pre' ++ sv' :: post')[9]? = some sv' := by
   rw [apv (by omega), h2]
   rfl
  have hput := jF.put hm (f := 9) (x := .rv 1) h9' fun r => ⟨A', els'.length, c', e', e'⟩
  have e : (Jo c (c1J.set 9 (.rv 1)) o2J).set 9 (.rv 1) = (Jo c c1J o2J).set 9 (.rv 1) := by
   unfold XP at hmem
   simp only [apI, apE, or_false] at hmem
   rcases hmem with rfl | rfl | rfl | rfl | rfl | rfl | rfl | rfl | rfl | rfl | rfl | rfl <;> rfl
  rw [e] at hput
  exact hput
 have hrun := apB.1 ace c hmem
 simp only [apA] at hrun
 cases hB : isB c with
 | false =>
  have hL : (LF c).Holds (dB hj hk).rho (dB hj hk).sig := by
   have hs := Np hj hk
   unfold LF
   rw [hB]
   refine ⟨hs.iv, fun i j hij => ?_, hs.lt, hs.to, hs.st, hs.sn, hs.cf⟩
   have : (i, j) ∈ [(c, 13 + c)] := hij
   simp only [apD, Prod.mk.injEq] at this
   obtain ⟨rfl, rfl⟩ := this
   rw [r1, r2]
   have hkk : ∃ k, kJ[i]? = some k /\ k ≠ .s := by
    unfold XP at hmem
    simp only [apI, apE, or_false] at hmem
    rcases hmem with rfl | rfl | rfl | rfl | rfl | rfl | rfl | rfl | rfl | rfl | rfl | rfl <;> exact ⟨_, rfl, by intro q; cases q⟩
   obtain ⟨k, hk1, hk2⟩ := hkk
   obtain ⟨⟨x, hx, kx⟩, y, hy, ky⟩ := kind k hk1
   unfold ah
   rw [hx, hy] at hne' |-
   intro e
   apply hne'
   cases k with
   | s => exact absurd rfl hk2
   | b =>
    obtain ⟨p, rfl⟩ := kx
    obtain ⟨q, rfl⟩ := ky
    cases p <;> cases q <;> first | rfl | exact absurd e (by decide)
   | i kd =>
    obtain ⟨p, rfl, _⟩ := kx
    obtain ⟨q, rfl, _⟩ := ky
    have e : p = q := e
    rw [e]
  have ha : d1J c true = c1J := by unfold d1J; rw [hB]; rfl
  have hb : d2J c true = (Jo c c1J o2J).set 9 (.rv 1) := by unfold d2J; rw [hB]; rfl
  have hr := hrun.1
  rw [ha, hb] at hr
  exact abP hj hk hL (fun b _ _ _ => Ak hj hk b) (En hj hk) hmix hr
 | true =>
  have hc2 : kJ[c]? = some .b := by
   unfold isB at hB
   simp only [Bool.or_eq_true] at hB
   rcases hB with hB | hB <;> (obtain rfl := apu hB; rfl)
  obtain ⟨⟨x, hx, p, rfl⟩, y, hy, q, rfl⟩ := kind _ hc2
  have hpq : q = !p := by
   rw [hx, hy] at hne'
   cases p <;> cases q <;> first | rfl | exact absurd rfl hne'
  subst hpq
  have hL : (LF c).Holds (dB hj hk).rho (dB hj hk).sig := by
   unfold LF
   rw [hB]
   exact Np hj hk
  have ha : @jF (dB hj hk) (d1J c p) (pre ++ sv :: post) := by
   unfold d1J
   rw [hB]
   exact jF.put (En hj hk) hx fun _ => rfl
  have hb : @jF (dB hj hk) (d2J c p) (pre' ++ sv' :: post') := by
   unfold d2J
   rw [hB]
   exact jF.put hmix hy fun _ => rfl
  exact abP hj hk hL (fun b _ _ _ => Ak hj hk b) ha hb (by
   cases p
   ·exact hrun.2
   ·exact hrun.1)
end
end Am
end Go.Proofs.YtglmonlofejcgaaGreatDoor
