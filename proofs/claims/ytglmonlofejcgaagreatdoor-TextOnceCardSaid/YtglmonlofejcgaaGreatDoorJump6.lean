/- Jumps' texts. -/
import Derived.Test.YtglmonlofejcgaaGreatDoorJump5
set_option maxHeartbeats 1000000
set_option maxRecDepth 100000
open List renaming mem_cons_self → apu, append_assoc → apv, mem_cons_of_mem → apw, getElem?_eq_getElem → apx, length_append → apy, append_cancel_left → apz, append_right_inj → apA, all_eq_true → apB, not_mem_nil → apC, mem_cons → apD, getElem?_map → apE, mem_append → apG, map_cons → apH, getElem?_cons_succ → apI, nil_append → apJ, mem_range → apL, getElem?_eq_none → apM, take_append_drop → apN, range → apO, mem_map → apP, flatten_cons → apQ, cons_append → apS
open Nat renaming eq_of_beq_eq_true → apF, beq → apK
open Int renaming toNat_natCast → apR
set_option linter.unusedVariables false
set_option linter.unusedSectionVars false
namespace Go.Proofs.YtglmonlofejcgaaGreatDoor
namespace Am
open Go.RowKit
def YZ : List UInt8 := [103, 111, 116, 111, 32, 98]
def Ec : List UInt8 := [98, 114, 97, 110, 99, 104, 32]
def bB : List UInt8 := [32, 98]
def a1C : List UInt8 := [114, 101, 116, 117, 114, 110]
def a8L : List UInt8 := [97, 98, 111, 114, 116]
def fB : List UInt8 := [32, 58, 61, 32, 102]
def Ia : List UInt8 := [40]
def kZ : List UInt8 := [44, 32]
def GL : List UInt8 := [41, 32, 98]
def CU (el : List Value) : List UInt8 := opT (jh el 0)
def ZJ (post : List Value) : List UInt8 := bn (ah post 0) (decide (ah post 1 = 1)) (ah post 2)
def kD (pre : List Value) (els : List (List Value)) (post : List Value) : List UInt8 :=
 if ah pre 0 = 1 then YZ ++ bM (ah pre 7)
 else if ah pre 0 = 2 then Ec ++ (CU ((pre.drop 1).take 5) ++ (bB ++ (bM (ah pre 7) ++ (bB ++ bM (ah pre 8)))))
 else if ah pre 0 = 3 then a1C
 else if ah pre 0 = 5 then a8L
 else ZJ post ++ (fB ++ (bM (ah pre 6) ++ (Ia ++ (iZ kZ (els.map CU) ++ (GL ++ bM (ah pre 7))))))
def an7 (F : FuncId) : Prop :=
 ∀ (w : World) (v : Value) (pre : List Value) (sv : Value) (post : List Value) (els : List (List Value)), dL w -> dO w v pre sv post els -> okJ pre els post = true ->
  Calls Tryz.prog F #[v] w fun x w' => x = .returned (vS2 (kD pre els post)) /\ Below w.heap.size w w'
theorem Po {n : Int} (h0 : -9223372036854775808 <= n) (h1 : n <= 9223372036854775807) {w : World} (k : dL w) : Calls Tryz.prog 36 #[.int .i64 n] w fun e w' => e = .returned (vS1 (bM n)) /\ Below w.heap.size w w' :=
 (Tryz.strconv_Itoa n h0 h1 w k.tab).mono fun e w' ⟨e1, n', os, e2⟩ => ⟨by rw [e1]; unfold vS1; rw [show bM n = Lib.itoa n from xu n h0 h1], by rw [e2]; exact Lib.below_grow _ _ (Nat.le_refl _) _ _⟩
theorem yV (l : Int) (d : Bool) (f : Int) : (bn l d f).length <= 25 := by
 unfold bn
 have h1 := dY l
 have h2 : (bif d then ([42] : List UInt8) else []).length <= 1 := by cases d <;> simp
 have h3 : (if f = 1 then ([46, 49] : List UInt8) else if f = 2 then [46, 50] else []).length <= 2 := by
  split
  ·simp
  ·split <;> simp
 simp only [apy, List.length_cons]
 omega
theorem Ed (o : Opd) : (opT o).length <= 30 := by
 unfold opT
 have h1 := dY o.n
 have h2 := yV o.l o.d o.f
 have h3 : Tz.length = 5 := rfl
 have h4 : RN.length = 5 := rfl
 split
 ·omega
 ·split <;> (rw [apy]; omega)
section
variable {w : World} {v : Value} {pre : List Value} {sv : Value} {post : List Value} {els : List (List Value)} (hj : dO w v pre sv post els)
include hj
def pK (_ : dO w v pre sv post els) : List (List UInt8) := CU ((pre.drop 1).take 5) :: ZJ post :: bM (ah pre 7) :: bM (ah pre 8) :: bM (ah pre 6) :: els.map CU
def pG (_ : dO w v pre sv post els) : List Int := els.flatten.map bf
@[reducible] noncomputable def dA : Base :=
 { Know.nought with nb := w.heap.size, g := fun k => w.heap[k]?, rho := dw (behind (aU pre els post) (pK hj) (pG hj)), sig := fG (behind (aU pre els post) (pK hj) (pG hj)), ok := aG.nought _ _, lst := fun _ => ⟨sv, els⟩ }
theorem Ph : (pK hj).length = 5 + els.length := by simp [pK]; omega
theorem a4Y : ∀ l ∈ pK hj, l.length <= 30 := by
 intro l hl
 simp only [pK, apD, apP] at hl
 rcases hl with rfl | rfl | rfl | rfl | rfl | ⟨el, _, rfl⟩
 ·exact Ed _
 ·have := yV (ah post 0) (decide (ah post 1 = 1)) (ah post 2); unfold ZJ; omega
 ·have := dY (ah pre 7); omega
 ·have := dY (ah pre 8); omega
 ·have := dY (ah pre 6); omega
 ·exact Ed _
theorem anO : Lens (Fq 13 (5 + els.length)) (dA hj).rho (dA hj).sig := rY (EY hj) rfl (iF hj) (Ph hj)
theorem ak6 {i : Nat} (h : i < 13) : (dA hj).rho i = ah (aU pre els post) i := mX (by rw [iF hj]; exact h)
theorem a7x {j : Nat} {l : List UInt8} (h : (pK hj)[j]? = some l) : (dA hj).sig (13 + j) = l := NP (iF hj) h
theorem a02 {i : Nat} {el : List Value} (h : els[i]? = some el) : (dA hj).sig (18 + i) = CU el := by
 rw [show 18 + i = 13 + (5 + i) by omega]
 refine a7x hj ?_
 rw [show 5 + i = i + 1 + 1 + 1 + 1 + 1 by omega]
 simp only [pK, apI]
 rw [apE, h]
 rfl
theorem DK {i : Nat} {el : List Value} (h : els[i]? = some el) : el.length = 5 := by have := (hj.ops.kd i el h).len; simp [opK] at this; omega
theorem Fe : ∀ {l : List (List Value)}, (∀ x ∈ l, x.length = 5) -> ∀ {i f : Nat} {el : List Value}, l[i]? = some el -> f < 5 -> l.flatten[5 * i + f]? = el[f]?
 | [], _, i, f, el, h, _ => by simp at h
 | x :: l, hl, 0, f, el, h, hf => by
  simp only [List.getElem?_cons_zero, Option.some.injEq] at h
  subst h
  rw [apQ, List.getElem?_append_left (by rw [hl x (apu ..)]; omega)]
  congr 1
  omega
 | x :: l, hl, i + 1, f, el, h, hf => by
  simp only [apI] at h
  have hx := hl x (apu ..)
  rw [apQ, List.getElem?_append_right (by omega), hx, show 5 * (i + 1) + f - 5 = 5 * i + f by omega]
  exact Fe (fun y hy => hl y (apw _ hy)) h hf
theorem a9l {i f : Nat} {el : List Value} (h : els[i]? = some el) (hf : f < 5) : (dA hj).rho (18 + els.length + 5 * i + f) = ah el f := by
 have hall : ∀ x ∈ els, x.length = 5 := fun x hx => by
  obtain ⟨k, hk⟩ := List.getElem?_of_mem hx
  exact DK hj hk
 have h5 := DK hj h
 have hx : el[f]? = some (el[f]'(by omega)) := apx _
 have : (pG hj)[5 * i + f]? = some (ah el f) := by
  unfold pG
  rw [apE, Fe hj hall h hf, hx]
  show some (bf _) = _
  unfold ah
  rw [hx]
 rw [show 18 + els.length + 5 * i + f = 13 + (5 + els.length) + (5 * i + f) by omega]
 exact iy (iF hj) (Ph hj) this
theorem WJ {i : Nat} {el : List Value} (h : els[i]? = some el) : ak (@VS (dA hj) r0) (elT els.length i) el /\ ∀ r, ak (@VS (dA hj) r) (elT els.length i) el := by
 have key : ∀ r, ak (@VS (dA hj) r) (elT els.length i) el := fun r => by
  have rc : ∀ f, f < 5 -> (dA hj).rho (18 + els.length + 5 * i + f) = ah el f := fun f hf => a9l hj h hf
  obtain ⟨a, b, c, d, e, rfl⟩ := qM (hj.ops.kd i el h)
  refine ⟨?_, ?_, ?_, ?_, ?_, trivial⟩
  ·show _ = Value.int .u8 ((dA hj).rho (18 + els.length + 5 * i)); rw [show 18 + els.length + 5 * i = 18 + els.length + 5 * i + 0 by rfl, rc 0 (by decide)]; rfl
  ·show _ = Value.int .i64 ((dA hj).rho (18 + els.length + 5 * i + 1)); rw [rc 1 (by decide)]; rfl
  ·show _ = Value.int .i64 ((dA hj).rho (18 + els.length + 5 * i + 1 + 1)); rw [show 18 + els.length + 5 * i + 1 + 1 = 18 + els.length + 5 * i + 2 by omega, rc 2 (by decide)]; rfl
  ·show _ = Value.bool ([((18 + els.length + 5 * i + 1 + 1 + 1 : Nat), (1 : Int))].any fun p => decide ((dA hj).rho p.1 = p.2))
   simp only [List.any_cons, List.any_nil, Bool.or_false]
   rw [show 18 + els.length + 5 * i + 1 + 1 + 1 = 18 + els.length + 5 * i + 3 by omega, rc 3 (by decide)]
   cases d <;> rfl
  ·show _ = Value.int .u8 ((dA hj).rho (18 + els.length + 5 * i + 1 + 1 + 1 + 1)); rw [show 18 + els.length + 5 * i + 1 + 1 + 1 + 1 = 18 + els.length + 5 * i + 4 by omega, rc 4 (by decide)]; rfl
 exact ⟨key r0, key⟩
theorem TQ {n : Nat} : ∀ (l : List Nat) {k : Nat} {i : N} {cs : List S}, Tabs.Ei ⟨[], l.map fun (i : Nat) => ((0 : Nat), N.c (i : Int), elT n i), []⟩ k i = some cs -> ∃ j ∈ l, k = 0 /\ i = .c (j : Int) /\ cs = elT n j
 | [], k, i, cs, h => by cases h
 | j :: l, k, i, cs, h => by
  have h : (bif apK 0 k && (N.c (j : Int)).eqv i then some (elT n j) else Tabs.Ei ⟨[], l.map fun (i : Nat) => ((0 : Nat), N.c (i : Int), elT n i), []⟩ k i) = some cs := h
  cases hb : (apK 0 k && (N.c (j : Int)).eqv i) <;> rw [hb] at h <;> simp only [cond_true, cond_false] at h
  ·obtain ⟨j', h1, h2⟩ := TQ l h
   exact ⟨j', apw _ h1, h2⟩
  ·cases h
   simp only [Bool.and_eq_true] at hb
   exact ⟨j, apu .., (apF hb.1).symm, (N.vJ hb.2).symm, rfl⟩
theorem agD : @bg (dA hj) (tbT els.length) := by
 letI : Base := dA hj
 refine ⟨fun l j h => ?_, fun l i cs h => ?_, fun i c j h => (by cases h)⟩
 ·have h : (bif apK 0 l then some 9 else none) = some j := h
  cases hb : apK 0 l <;> rw [hb] at h <;> cases h
  obtain ⟨A, c, e⟩ := hj.ops.sl
  exact ⟨A, els.length, c, e, by rw [ak6 hj (by decide)]; exact jg hj⟩
 ·obtain ⟨k, hk, rfl, rfl, rfl⟩ := TQ hj _ (show Tabs.Ei ⟨[], _, []⟩ l i = some cs from h)
  have hk := apL.1 hk
  have he : els[k]? = some els[k] := apx hk
  obtain ⟨b, off, c, e, hc⟩ := hj.ops.at_ k _ he
  refine ⟨b, off, els.length, c, els[k], e, by show (0 : Int) <= (k : Int); omega, by show (k : Int) < _; omega, ⟨by show els[((k : Nat) : Int).toNat]? = _; rw [apR]; exact he, fun f u hf w1 hw => ?_⟩, ?_⟩
  ·have hcell := hc f u hf
   show w1.cell? ⟨b, off + ((k : Nat) : Int).toNat * 5 + f, none⟩ = some u
   rw [apR]
   have hblk : w1.heap[b]? = w.heap[b]? := hw b (World.block_lt_of_cell? w ⟨b, off + k * 5 + f, none⟩ hcell)
   rw [<- hcell]
   exact World.cell?_of_block hblk
  ·have := (WJ hj he).2
   obtain ⟨a, b, c, d, e, hel⟩ := qM (hj.ops.kd k _ he)
   rw [hel] at this |-
   exact ⟨fun r => (this r).1, fun r => (this r).2.1, fun r => (this r).2.2.1, fun r => (this r).2.2.2.1, fun r => (this r).2.2.2.2.1, trivial⟩
end
theorem pU (b0 : Base) (l : List UInt8) (m : List Nat) (h : m.map UInt8.ofNat = l) (h2 : m.all (fun n => Nat.blt n 256) = true) : bH b0.sig m = l := by rw [qZ b0.sig h2, h]
theorem dO.frz {w w' : World} {v : Value} {pre : List Value} {sv : Value} {post : List Value} {els : List (List Value)} (hj : dO w v pre sv post els) (hw : ∀ k, k < w.heap.size -> w'.heap[k]? = w.heap[k]?) : dO w' v pre sv post els := by
 refine ⟨hj.v, hj.pre, hj.post, ⟨hj.ops.sl, hj.ops.most, fun i el he => ?_, hj.ops.kd, hj.ops.cap⟩⟩
 obtain ⟨b', off, c', e1, e2⟩ := hj.ops.at_ i el he
 refine ⟨b', off, c', e1, fun f u hf => ?_⟩
 have hcell := e2 f u hf
 rw [<- hcell]
 exact World.cell?_of_block (hw b' (World.block_lt_of_cell? w ⟨b', off + i * 5 + f, none⟩ hcell))
section
variable {w : World} {v : Value} {pre : List Value} {sv : Value} {post : List Value} {els : List (List Value)} (hj : dO w v pre sv post els)
include hj
theorem a5P : ak (@VA (dA hj) r0) [.g uY] [v] := by
 letI : Base := dA hj
 have hlenP := fH hj
 refine ⟨⟨pre ++ sv :: post, hj.v, ?_⟩, trivial⟩
 refine ak.app ?_ ⟨?_, ?_⟩
 ·exact kL (pre := []) (us := pre) (post := Value.int .i64 els.length :: post ++ ((pK hj).map Dj ++ (pG hj).map (Value.int .i64))) rfl rfl (by simp [behind, aU]) hj.pre
 ·obtain ⟨A, c, e⟩ := hj.ops.sl
  exact ⟨A, els.length, c, e, e⟩
 ·have := kL (r := r0) (cs := behind (aU pre els post) (pK hj) (pG hj)) (pre := pre ++ [Value.int .i64 els.length]) (us := post) (post := (pK hj).map Dj ++ (pG hj).map (Value.int .i64)) rfl rfl (by simp [behind, aU]) hj.post
  rw [apy, hlenP] at this
  exact this
theorem Wu {R : Int × Int -> List UInt8 -> Prop} {p : Int × Int} : ∀ {l : List (List UInt8)}, (∀ x ∈ l, R p x) -> ak R (List.replicate l.length p) l
 | [], _ => trivial
 | x :: l, h => ⟨h x (apu ..), Wu fun y hy => h y (apw _ hy)⟩
theorem am6 : (Lf.l9 [(true, kJ)] (List.replicate (5 + els.length) (0, 30)) []).Holds (dA hj).rho (dA hj).sig := by
 have h1 := Wu hj (R := fun p (l : List UInt8) => p.1 <= (l.length : Int) /\ (l.length : Int) <= p.2) (p := ((0 : Int), (30 : Int))) (l := pK hj) fun x hx => by
  have := a4Y hj x hx
  constructor
  ·show (0 : Int) <= _; omega
  ·show (x.length : Int) <= 30; omega
 rw [Ph hj] at h1
 exact Lf.yT (EY hj) h1 (i0 := []) (i1 := pG hj) rfl trivial
theorem ab6 (h : okJ pre els post = true) : ∃ c : Nat, ((c = 1 \/ c = 2 \/ c = 3 \/ c = 5) /\ els = [] \/ c = 4 /\ els.length < 9) /\ ah pre 0 = (c : Int) /\ (c = 2 -> (aY 0).val ((pre.drop 1).take 5) = true) /\ (c = 4 -> (dS 0).val post = true /\ (els.all fun el => (aY 0).val el) = true) /\ (LT c els.length).Holds (dA hj).rho (dA hj).sig := by
 have r0 : (dA hj).rho 0 = ah pre 0 := (ak6 hj (by decide)).trans (D7 hj (by decide))
 have r9 : (dA hj).rho 9 = els.length := (ak6 hj (by decide)).trans (jg hj)
 have hh := am6 hj
 rcases isJ hj h with ⟨k, _, _, _, l, _⟩ | ⟨k, a, _, _, _, l, _⟩ | ⟨k, _, l, _⟩ | ⟨k, _, _, _, _, l, d, o⟩
 ·exact ⟨1, .inl ⟨.inl rfl, l⟩, k, fun e => (by cases e), fun e => (by cases e), Lf.Holds.qG hj hh (r0.trans k)⟩
 ·exact ⟨2, .inl ⟨.inr (.inl rfl), l⟩, k, fun _ => a, fun e => (by cases e), Lf.Holds.qG hj hh (r0.trans k)⟩
 ·rcases k with k | k
  ·exact ⟨3, .inl ⟨.inr (.inr (.inl rfl)), l⟩, k, fun e => (by cases e), fun e => (by cases e), Lf.Holds.qG hj hh (r0.trans k)⟩
  ·exact ⟨5, .inl ⟨.inr (.inr (.inr rfl)), l⟩, k, fun e => (by cases e), fun e => (by cases e), Lf.Holds.qG hj hh (r0.trans k)⟩
 ·exact ⟨4, .inr ⟨rfl, l⟩, k, fun e => (by cases e), fun _ => ⟨d, o⟩, Lf.Holds.qG hj (Lf.Holds.qG hj hh (r0.trans k)) r9⟩
theorem Y8 : (dA hj).sig 15 = bM (ah pre 7) := a7x hj (j := 2) rfl
theorem agH : (dA hj).sig 16 = bM (ah pre 8) := a7x hj (j := 3) rfl
theorem a9t : (dA hj).sig 17 = bM (ah pre 6) := a7x hj (j := 4) rfl
theorem afA : (dA hj).sig 13 = CU ((pre.drop 1).take 5) := a7x hj (j := 0) rfl
theorem a8T : (dA hj).sig 14 = ZJ post := a7x hj (j := 1) rfl
theorem an3 {c : Nat} (hc : (c = 1 \/ c = 2 \/ c = 3 \/ c = 5) /\ els = [] \/ c = 4 /\ els.length < 9) (k : ah pre 0 = (c : Int)) : bH (dA hj).sig (ajC c els.length) = kD pre els post := by
 letI : Base := dA hj
 have g1 : bH (dA hj).sig a9W = YZ := pU (dA hj) _ _ rfl rfl
 have g2 : bH (dA hj).sig Vr = Ec := pU (dA hj) _ _ rfl rfl
 have g3 : bH (dA hj).sig bN = bB := pU (dA hj) _ _ rfl rfl
 have g4 : bH (dA hj).sig a3b = a1C := pU (dA hj) _ _ rfl rfl
 have g5 : bH (dA hj).sig afd = a8L := pU (dA hj) _ _ rfl rfl
 have g6 : bH (dA hj).sig fN = fB := pU (dA hj) _ _ rfl rfl
 have g7 : bH (dA hj).sig ahc = Ia := pU (dA hj) _ _ rfl rfl
 have g8 : bH (dA hj).sig a1l = kZ := pU (dA hj) _ _ rfl rfl
 have g9 : bH (dA hj).sig a0r = GL := pU (dA hj) _ _ rfl rfl
 unfold kD
 rw [k]
 rcases hc with ⟨rfl | rfl | rfl | rfl, _⟩ | ⟨rfl, hn⟩
 ·show bH (dA hj).sig (a9W ++ [256 + 15]) = _
  rw [dD, gU, g1, Y8 hj]
  rfl
 ·show bH (dA hj).sig (Vr ++ ([256 + 13] ++ (bN ++ ([256 + 15] ++ (bN ++ [256 + 16]))))) = _
  simp only [dD, gU, g2, g3, afA hj, Y8 hj, agH hj]
  rfl
 ·exact g4
 ·exact g5
 ·show bH (dA hj).sig ([256 + 14] ++ (fN ++ ([256 + 17] ++ (ahc ++ (EF a1l ((apO els.length).map fun i => [256 + (18 + i)]) ++ (a0r ++ [256 + 15])))))) = _
  have hm : ((apO els.length).map fun i => [256 + (18 + i)]).map (bH (dA hj).sig) = els.map CU := by
   refine List.ext_getElem? fun i => ?_
   by_cases hi : i < els.length
   ·rw [List.map_map, apE, List.getElem?_range hi, apE, apx hi]
    show some (bH (dA hj).sig [256 + (18 + i)]) = some _
    rw [gU, a02 hj (apx hi)]
   ·rw [apM (by simp; omega), apM (by simp; omega)]
  simp only [dD, gU, vV, g6, g7, g8, g9, a8T hj, Y8 hj, a9t hj, hm]
  rfl
noncomputable def Nq (mk : S -> V) (F : FuncId) (c n : Nat) : Bool := vY (mk (S.vG (ajC c n))) (akK F c n)
theorem a3T {mk : S -> V} {val : List UInt8 -> Value} (hmk : ∀ (b0 : Base) r l u, @VV b0 r (mk (S.vG l)) u -> u = val (bH b0.sig l)) {F : FuncId} (h0 : ([1, 2, 3, 5].all fun c => Nq mk F c 0) = true) (h4 : ((apO 9).all fun n => Nq mk F 4 n) = true) (kt : dL w) (hok : okJ pre els post = true) : Calls Tryz.prog F #[v] w fun x w' => x = .returned (val (kD pre els post)) /\ Below w.heap.size w w' := by
 obtain ⟨c, hc, k, hA, hC, hL⟩ := ab6 hj hok
 have hrun : Nq mk F c els.length = true := by
  rcases hc with ⟨hc, e⟩ | ⟨rfl, hn⟩
  ·rw [e]
   exact apB.1 h0 c (by rcases hc with rfl | rfl | rfl | rfl <;> simp)
  ·exact apB.1 h4 _ (apL.2 hn)
 have hKok : aG ((LT c els.length).know (Fq 13 (5 + els.length))) (dA hj).rho (dA hj).sig := Lf.ok hL (anO hj)
 letI bL : Base := (dA hj).aH ((LT c els.length).know (Fq 13 (5 + els.length))) hKok
 have hca : ak (@VA bL r0) (([.g uY] : List A).map (LT c els.length).nA) [v] := @Lf.yh bL _ r0 hL _ _ (a5P hj)
 have frz : ∀ w' : World, (∀ k, k < bL.nb -> w'.heap[k]? = bL.g k) -> dO w' v pre sv post els /\ dL w' := fun w' hw => ⟨hj.frz hw, kt.all fun k hk => hw k (by have := kt.size; show k < w.heap.size; omega)⟩
 have num : ∀ i, i < 9 -> oK[i]? = some (.i .i64) -> -9223372036854775808 <= ah pre i /\ ah pre i <= 9223372036854775807 := fun i hi hk => by
  obtain ⟨x, hx, n, hn, h0, h1⟩ := a1Y hj i hi hk
  subst hn
  unfold ah
  rw [hx]
  exact ⟨h0, h1⟩
 have nK : ∀ (i s : Nat), i < 9 -> oK[i]? = some (.i .i64) -> bL.sig s = bM (ah pre i) ->
   @Sound bL Tryz.prog (kU 36 [.s (.xi .i64 i)] (mS1 (.xs [256 + s]))) /\ @Sound bL Tryz.prog (kU 111 [.s (.xi .i64 i)] (mS1 (.xs [256 + s]))) := fun i s hi hk hs => by
  obtain ⟨n0, n1⟩ := num i hi hk
  have hr : bL.rho i = ah pre i := (ak6 hj (by omega)).trans (D7 hj hi)
  have hv : ak (@VA bL r0) [.s (.xi .i64 i)] [.int .i64 (ah pre i)] := ⟨congrArg (Value.int .i64) hr.symm, trivial⟩
  have hu : ∀ r, @VV bL r (mS1 (.xs [256 + s])) (vS1 (bM (ah pre i))) := fun r => by
   show Value.string _ = Value.string ⟨(bH bL.sig [256 + s]).toArray⟩
   rw [@gU, hs]
  exact ⟨@dF bL _ _ ⟨_, Tryz.func36, by kernel_rfl, by kernel_rfl⟩ _ _ rfl _ hv _ hu fun w' hw => Po n0 n1 (frz w' hw).2,
   @dF bL _ _ ⟨_, Tryz.func111, by kernel_rfl, by kernel_rfl⟩ _ _ rfl _ hv _ hu fun w' hw => H6 _ n0 n1 w'⟩
 have vv2 : ∀ (s : Nat) (l : List UInt8), bL.sig s = l -> ∀ r, @VV bL r (mS2 (.xs [256 + s])) (vS2 l) := fun s l h r => by
  refine ⟨[_, _], rfl, ?_, rfl, trivial⟩
  show Value.string _ = Value.string ⟨(bH bL.sig [256 + s]).toArray⟩
  rw [@gU, h]
 have vv1 : ∀ (s : Nat) (l : List UInt8), bL.sig s = l -> ∀ r, @VV bL r (mS1 (.xs [256 + s])) (vS1 l) := fun s l h r => by
  show Value.string _ = Value.string ⟨(bH bL.sig [256 + s]).toArray⟩
  rw [@gU, h]
 have rG : ∀ (l : List S), l.all S.one = true -> (([.g l] : List A).all A.rG) = true := fun l h => by
  show (l.all S.rG && true) = true
  rw [Bool.and_true]
  refine apB.2 fun x hx => ?_
  have := apB.1 h x hx
  cases x <;> first | exact this | rfl
 have hS0 : @Sound bL Tryz.prog (Jp (a3x c els.length)) := by
  refine @jL bL _ _ fun O hO => ?_
  unfold a3x at hO
  rcases apG.1 hO with hO | hO
  ·unfold aaT at hO
   rcases apG.1 hO with hO | hO
   ·simp only [apD, apC, or_false] at hO
    rcases hO with rfl | rfl
    ·exact @dF bL _ _ ⟨_, Tryz.func72, by kernel_rfl, by kernel_rfl⟩ _ _ (cells_one _) _ hca (v8 true) (fun _ => rfl) fun w' hw => by
      have := Nh w' v pre sv post els (frz w' hw).1
      rw [hok] at this
      exact this
    ·exact @dF bL _ _ ⟨_, Tryz.func107, by kernel_rfl, by kernel_rfl⟩ _ _ (cells_one _) _ hca (.bool true) (fun _ => rfl) fun w' hw => by
      have := VZ w' v pre sv post els (frz w' hw).1
      rw [hok] at this
      exact this
   ·simp only [List.flatMap_cons, List.flatMap_nil, List.append_nil, apS, apJ, apD, apC, or_false] at hO
    rcases hO with rfl | rfl | rfl | rfl | rfl | rfl
    ·exact (nK 7 15 (by decide) rfl (Y8 hj)).1
    ·exact (nK 7 15 (by decide) rfl (Y8 hj)).2
    ·exact (nK 8 16 (by decide) rfl (agH hj)).1
    ·exact (nK 8 16 (by decide) rfl (agH hj)).2
    ·exact (nK 6 17 (by decide) rfl (a9t hj)).1
    ·exact (nK 6 17 (by decide) rfl (a9t hj)).2
  ·have flatP : aU pre els post = pre ++ Value.int .i64 els.length :: post := rfl
   cases h2 : apK c 2 with
   | true =>
    rw [h2] at hO
    have hv := hA (apF h2)
    have hk : ak Kd.ok opK ((pre.drop 1).take 5) := (hj.pre.drop 1).take 5
    have cl : ak (@VS bL r0) (clL (LT c els.length) 1 opK) ((pre.drop 1).take 5) := @D8 bL _ hL (behind (aU pre els post) (pK hj) (pG hj)) rfl rfl opK ((pre.drop 1).take 5) (pre.take 1) (pre.drop 6 ++ (Value.int .i64 els.length :: post ++ ((pK hj).map Dj ++ (pG hj).map (Value.int .i64)))) 1 (by
     have key : ∀ X : List Value, pre ++ X = pre.take 1 ++ ((pre.drop 1).take 5 ++ (pre.drop 6 ++ X)) := fun X => by
      rw [show pre.drop 6 = (pre.drop 1).drop 5 by rw [List.drop_drop], <- apv ((pre.drop 1).take 5), apN, <- apv, apN]
     show (pre ++ (Value.int .i64 els.length :: post)) ++ _ = _
     rw [apv]
     exact key _) (by rw [List.length_take, fH hj]; decide) hk
    have hva : ak (@VA bL r0) [.g (clL (LT c els.length) 1 opK)] [.agg ((pre.drop 1).take 5).toArray] := ⟨⟨_, rfl, cl⟩, trivial⟩
    simp only [cond_true, ad6, apD, apC, or_false] at hO
    rcases hO with rfl | rfl
    ·exact @dF bL _ _ ⟨_, Tryz.func69, by kernel_rfl, by kernel_rfl⟩ _ _ (rG _ (kK _ opK 1 rfl)) _ hva _ (vv2 13 _ (afA hj)) fun w' hw => LY _ hk hv w' (frz w' hw).2
    ·exact @dF bL _ _ ⟨_, Tryz.func115, by kernel_rfl, by kernel_rfl⟩ _ _ (rG _ (kK _ opK 1 rfl)) _ hva _ (vv1 13 _ (afA hj)) fun w' hw => Pz _ hk hv w' (frz w' hw).2
   | false =>
    rw [h2] at hO
    cases h4 : apK c 4 with
    | false => rw [h4] at hO; cases hO
    | true =>
     rw [h4] at hO
     obtain ⟨hd, ho⟩ := hC (apF h4)
     have cl : ak (@VS bL r0) (clL (LT c els.length) 10 kPl) post := @D8 bL _ hL (behind (aU pre els post) (pK hj) (pG hj)) rfl rfl kPl post (pre ++ [Value.int .i64 els.length]) ((pK hj).map Dj ++ (pG hj).map (Value.int .i64)) 10 (by
      unfold behind aU
      simp only [apv, apS, apJ]) (by simp [fH hj]) hj.post
     have hva : ak (@VA bL r0) [.g (clL (LT c els.length) 10 kPl)] [.agg post.toArray] := ⟨⟨_, rfl, cl⟩, trivial⟩
     simp only [cond_true, cond_false] at hO
     rcases apG.1 hO with hO | hO
     ·simp only [ach, apD, apC, or_false] at hO
      rcases hO with rfl | rfl
      ·exact @dF bL _ _ ⟨_, Tryz.func70, by kernel_rfl, by kernel_rfl⟩ _ _ (rG _ (kK _ kPl 10 rfl)) _ hva _ (vv2 14 _ (a8T hj)) fun w' hw => a1k _ hj.post hd w' (frz w' hw).2
      ·exact @dF bL _ _ ⟨_, Tryz.func113, by kernel_rfl, by kernel_rfl⟩ _ _ (rG _ (kK _ kPl 10 rfl)) _ hva _ (vv1 14 _ (a8T hj)) fun w' hw => a0j _ hj.post hd w' (frz w' hw).2
     ·rcases apG.1 hO with hO | hO
      ·obtain ⟨i, hi, hO⟩ := List.mem_flatMap.1 hO
       have hi := apL.1 hi
       have he : els[i]? = some els[i] := apx hi
       have hk := hj.ops.kd i _ he
       have hv := apB.1 ho _ (List.getElem_mem hi)
       have hva : ak (@VA bL r0) [.g (elT els.length i)] [.agg els[i].toArray] := ⟨⟨_, rfl, (WJ hj he).1⟩, trivial⟩
       simp only [apD, apC, or_false] at hO
       rcases hO with rfl | rfl
       ·exact @dF bL _ _ ⟨_, Tryz.func69, by kernel_rfl, by kernel_rfl⟩ _ _ (rG _ rfl) _ hva _ (vv2 (18 + i) _ (a02 hj he)) fun w' hw => LY _ hk hv w' (frz w' hw).2
       ·exact @dF bL _ _ ⟨_, Tryz.func115, by kernel_rfl, by kernel_rfl⟩ _ _ (rG _ rfl) _ hva _ (vv1 (18 + i) _ (a02 hj he)) fun w' hw => Pz _ hk hv w' (frz w' hw).2
      ·obtain rfl := List.mem_singleton.1 hO
       exact XA bL
 have hS : @Sound bL Tryz.prog (@rC ((LT c els.length).know (Fq 13 (5 + els.length))) (mY Tryz.prog) (nC Tryz.prog) (Jp (a3x c els.length)) (tbT els.length) (fun _ _ _ _ => none) 30 15) :=
  @qN bL _ _ (@sF bL Tryz.prog) _ Qq _ hS0 DF _ (bg.aH (agD hj) _) _ (fun f F cd _ _ => Loops.qU (fun c => @aO.none bL _ c) cd) 30 15
 obtain ⟨h', hr⟩ := zD hrun
 refine (@iC bL _ w (Nat.le_refl _) (fun _ _ => rfl) _ hS F _ _ hca _ _ hr).mono fun x w' ⟨u, r', e1, e2, e3⟩ => ⟨?_, e3⟩
 rw [e1, hmk bL r' _ u e2, show bH bL.sig (ajC c els.length) = kD pre els post from an3 hj hc k]
theorem alL {F : FuncId} (h0 : ([1, 2, 3, 5].all fun c => UL F c 0) = true) (h4 : ((apO 9).all fun n => UL F 4 n) = true) (kt : dL w) (hok : okJ pre els post = true) : Calls Tryz.prog F #[v] w fun x w' => x = .returned (vS2 (kD pre els post)) /\ Below w.heap.size w w' := a3T hj VE h0 h4 kt hok
end
theorem amJ : an7 40 := fun w v pre sv post els kt hj hok => alL hj a0k YA kt hok
theorem uQ (sep x : List UInt8) (r : List (List UInt8)) : ∃ t, iZ sep (x :: r) = x ++ t /\ (r = [] /\ t = [] \/ r ≠ [] /\ t = sep ++ iZ sep r) := by
 cases r with
 | nil => exact ⟨[], by simp [iZ], .inl ⟨rfl, rfl⟩⟩
 | cons y r => exact ⟨sep ++ iZ sep (y :: r), by simp [iZ], .inr ⟨by simp, rfl⟩⟩
theorem AL : ∀ {xs ys : List Opd}, (∀ o ∈ xs, o.Ok) -> (∀ o ∈ ys, o.Ok) -> ∀ {t u : List UInt8}, iZ kZ (xs.map opT) ++ (41 :: t) = iZ kZ (ys.map opT) ++ (41 :: u) -> xs = ys /\ t = u
 | [], [], _, _, t, u, e => by
  simp only [List.map_nil, iZ, apJ, List.cons.injEq, true_and] at e
  exact ⟨rfl, e⟩
 | [], y :: ys, _, hy, t, u, e => by
  obtain ⟨r, e1, _⟩ := uQ kZ (opT y) (ys.map opT)
  rw [apH, e1, apv] at e
  exact (GY (hy y (apu ..)) (c := 41) (by decide) (by decide) (by decide) e.symm).elim
 | x :: xs, [], hx, _, t, u, e => by
  obtain ⟨r, e1, _⟩ := uQ kZ (opT x) (xs.map opT)
  rw [apH, e1, apv] at e
  exact (GY (hx x (apu ..)) (c := 41) (by decide) (by decide) (by decide) e).elim
 | x :: xs, y :: ys, hx, hy, t, u, e => by
  obtain ⟨r, e1, k1⟩ := uQ kZ (opT x) (xs.map opT)
  obtain ⟨s, e2, k2⟩ := uQ kZ (opT y) (ys.map opT)
  rw [apH, apH, e1, e2, apv, apv] at e
  have rest : ∀ {zs : List Opd} {q t : List UInt8}, (zs.map opT = [] /\ q = [] \/ zs.map opT ≠ [] /\ q = kZ ++ iZ kZ (zs.map opT)) -> Rest (q ++ (41 :: t)) := fun {zs q t} h => by
   rcases h with ⟨_, rfl⟩ | ⟨_, rfl⟩
   ·exact Vg _
   ·exact Ux _
  obtain ⟨exy, e9⟩ := rD (hx x (apu ..)) (hy y (apu ..)) (rest k1) (rest k2) e
  clear e
  subst exy
  have e := e9
  clear e9
  rcases k1 with ⟨n1, rfl⟩ | ⟨n1, rfl⟩ <;> rcases k2 with ⟨n2, rfl⟩ | ⟨n2, rfl⟩
  ·have : xs = [] := by simpa using n1
   have h2 : ys = [] := by simpa using n2
   subst this; subst h2
   have e : 41 :: t = 41 :: u := e
   injection e with _ e
   exact ⟨rfl, e⟩
  ·simp [kZ] at e
  ·simp [kZ] at e
  ·rw [apv, apv] at e
   have e := apz e
   obtain ⟨rfl, h⟩ := AL (fun o ho => hx o (apw _ ho)) (fun o ho => hy o (apw _ ho)) e
   exact ⟨rfl, h⟩
theorem zQ {n m : Int} (hn : I64 n) (hm : I64 m) {t u : List UInt8} (ht : stop isNum t) (hu : stop isNum u) (e : bM n ++ t = bM m ++ u) : n = m /\ t = u := by
 obtain ⟨h1, h2⟩ := xO (nJ n) (nJ m) ht hu e
 exact ⟨tJ hn hm h1, h2⟩
theorem Zm {l f l' f' : Int} {d d' : Bool} (h : InP l f) (h' : InP l' f') {t u : List UInt8} (ht : Rest t) (hu : Rest u) (e : bn l d f ++ t = bn l' d' f' ++ u) : (l = l' /\ d = d' /\ f = f') /\ t = u := by
 obtain ⟨h1, h2⟩ := xO (lY l d f) (lY l' d' f') ht hu e
 exact ⟨qV h h' h1, h2⟩
def agE (k : Int) (l : List UInt8) : Prop := ∃ c r, l = c :: r /\ ((k = 1 /\ c = 103) \/ (k = 2 /\ c = 98) \/ (k = 3 /\ c = 114) \/ (k = 5 /\ c = 97) \/ (k = 4 /\ (c = 42 \/ c = 120)))
structure V7 (pre : List Value) (els : List (List Value)) (post : List Value) : Prop where
 k : ah pre 0 = 1 \/ ah pre 0 = 2 \/ ah pre 0 = 3 \/ ah pre 0 = 4 \/ ah pre 0 = 5
 f : I64 (ah pre 6)
 n : I64 (ah pre 7)
 e : I64 (ah pre 8)
 a : ah pre 0 = 2 -> (jh ((pre.drop 1).take 5) 0).Ok
 d : ah pre 0 = 4 -> InP (ah post 0) (ah post 2)
 o : ∀ el ∈ els, (jh el 0).Ok
theorem a3S {pre post : List Value} {els : List (List Value)} (h : V7 pre els post) : agE (ah pre 0) (kD pre els post) := by
 unfold kD
 rcases h.k with k | k | k | k | k <;> rw [k]
 ·exact ⟨103, _, rfl, .inl ⟨rfl, rfl⟩⟩
 ·exact ⟨98, _, rfl, .inr (.inl ⟨rfl, rfl⟩)⟩
 ·exact ⟨114, _, rfl, .inr (.inr (.inl ⟨rfl, rfl⟩))⟩
 ·show agE 4 (bn _ _ _ ++ _)
  rw [mW]
  cases decide (ah post 1 = 1)
  ·exact ⟨120, _, rfl, .inr (.inr (.inr (.inr ⟨rfl, .inr rfl⟩)))⟩
  ·exact ⟨42, _, rfl, .inr (.inr (.inr (.inr ⟨rfl, .inl rfl⟩)))⟩
 ·exact ⟨97, _, rfl, .inr (.inr (.inr (.inl ⟨rfl, rfl⟩)))⟩
theorem ab1 {pre post pre' post' : List Value} {els els' : List (List Value)} (h : V7 pre els post) (h' : V7 pre' els' post') (e : kD pre els post = kD pre' els' post') :
  ah pre 0 = ah pre' 0 /\ (ah pre 0 = 1 \/ ah pre 0 = 2 \/ ah pre 0 = 4 -> ah pre 7 = ah pre' 7) /\ (ah pre 0 = 2 -> ah pre 8 = ah pre' 8 /\ jh ((pre.drop 1).take 5) 0 = jh ((pre'.drop 1).take 5) 0) /\
   (ah pre 0 = 4 -> ah pre 6 = ah pre' 6 /\ (ah post 0 = ah post' 0 /\ decide (ah post 1 = 1) = decide (ah post' 1 = 1) /\ ah post 2 = ah post' 2) /\ els.map (jh · 0) = els'.map (jh · 0)) := by
 have hk : ah pre 0 = ah pre' 0 := by
  obtain ⟨c, r, e1, q1⟩ := a3S h
  obtain ⟨c', r', e2, q2⟩ := a3S h'
  rw [e1, e2] at e
  obtain rfl : c = c' := by injection e
  rcases q1 with ⟨a, b⟩ | ⟨a, b⟩ | ⟨a, b⟩ | ⟨a, b⟩ | ⟨a, b | b⟩ <;> rcases q2 with ⟨a', b'⟩ | ⟨a', b'⟩ | ⟨a', b'⟩ | ⟨a', b'⟩ | ⟨a', b' | b'⟩ <;> first | (rw [a, a']; done) | (rw [b] at b'; exact absurd b' (by decide))
 refine ⟨hk, ?_⟩
 have s32 : ∀ r, stop isNum (32 :: r) := fun r => iK _ (by decide)
 have s40 : ∀ r, stop isNum (40 :: r) := fun r => iK _ (by decide)
 unfold kD at e
 rcases h.k with k | k | k | k | k
 ·rw [k, <- hk, k] at e
  have e : YZ ++ bM (ah pre 7) = YZ ++ bM (ah pre' 7) := e
  have := tJ h.n h'.n (apz e)
  exact ⟨fun _ => this, fun q => by omega, fun q => by omega⟩
 ·rw [k, <- hk, k] at e
  have e : Ec ++ (CU ((pre.drop 1).take 5) ++ (bB ++ (bM (ah pre 7) ++ (bB ++ bM (ah pre 8))))) = Ec ++ (CU ((pre'.drop 1).take 5) ++ (bB ++ (bM (ah pre' 7) ++ (bB ++ bM (ah pre' 8))))) := e
  obtain ⟨e1, e⟩ := rD (h.a k) (h'.a (by omega)) (pY _) (pY _) (apz e)
  have e := (apA bB).1 (show bB ++ _ = bB ++ _ from e)
  obtain ⟨e2, e⟩ := zQ h.n h'.n (s32 _) (s32 _) e
  have e := (apA bB).1 (show bB ++ _ = bB ++ _ from e)
  exact ⟨fun _ => e2, fun _ => ⟨tJ h.e h'.e e, e1⟩, fun q => by omega⟩
 ·exact ⟨fun q => by omega, fun q => by omega, fun q => by omega⟩
 ·rw [k, <- hk, k] at e
  have e : ZJ post ++ (fB ++ (bM (ah pre 6) ++ (Ia ++ (iZ kZ (els.map CU) ++ (GL ++ bM (ah pre 7)))))) = ZJ post' ++ (fB ++ (bM (ah pre' 6) ++ (Ia ++ (iZ kZ (els'.map CU) ++ (GL ++ bM (ah pre' 7)))))) := e
  obtain ⟨e1, e⟩ := Zm (h.d k) (h'.d (by omega)) (pY _) (pY _) e
  have e := (apA fB).1 (show fB ++ _ = fB ++ _ from e)
  obtain ⟨e2, e⟩ := zQ h.f h'.f (s40 _) (s40 _) e
  have e := (apA Ia).1 (show Ia ++ _ = Ia ++ _ from e)
  have m : ∀ l : List (List Value), l.map CU = (l.map (jh · 0)).map opT := fun l => by rw [List.map_map]; rfl
  rw [m, m] at e
  have hall : ∀ {l : List (List Value)}, (∀ el ∈ l, (jh el 0).Ok) -> ∀ o ∈ l.map (jh · 0), o.Ok := fun {l} hl o ho => by
   obtain ⟨el, h1, rfl⟩ := apP.1 ho
   exact hl el h1
  have hcl : ∀ n : Int, GL ++ bM n = 41 :: ([32, 98] ++ bM n) := fun n => rfl
  rw [hcl, hcl] at e
  obtain ⟨e3, e⟩ := AL (hall h.o) (hall h'.o) (t := [32, 98] ++ bM (ah pre 7)) (u := [32, 98] ++ bM (ah pre' 7)) e
  have e4 := tJ h.n h'.n (apz e)
  exact ⟨fun _ => e4, fun q => by omega, fun _ => ⟨e2, e1, e3⟩⟩
 ·exact ⟨fun q => by omega, fun q => by omega, fun q => by omega⟩
theorem SK {b : Nat} (sep : List UInt8) : ∀ {l : List (List UInt8)}, (∀ x ∈ l, x.length <= b) -> (iZ sep l).length <= l.length * (b + sep.length)
 | [], _ => by simp [iZ]
 | [x], h => by have := h x (apu ..); simp [iZ]; omega
 | x :: y :: r, h => by
  have h1 := h x (apu ..)
  have h2 := SK sep (l := y :: r) fun z hz => h z (apw _ hz)
  have e1 : (iZ sep (x :: y :: r)).length = x.length + sep.length + (iZ sep (y :: r)).length := by simp [iZ]; omega
  rw [e1, show (x :: y :: r).length = (y :: r).length + 1 by rfl, Nat.add_mul]
  omega
theorem a7i {pre post : List Value} {els : List (List Value)} (h : els.length < 9) : (kD pre els post).length <= 1000 := by
 have h1 := dY (ah pre 6); have h2 := dY (ah pre 7); have h3 := dY (ah pre 8)
 have h4 := Ed (jh ((pre.drop 1).take 5) 0)
 have h5 : (ZJ post).length <= 25 := yV _ _ _
 have h6 : (iZ kZ (els.map CU)).length <= (els.map CU).length * (30 + 2) := SK (b := 30) kZ fun x hx => by
  obtain ⟨el, _, rfl⟩ := apP.1 hx
  exact Ed _
 rw [List.length_map] at h6
 have e4 : (CU ((pre.drop 1).take 5)).length <= 30 := h4
 unfold kD
 split
 ·simp only [apy]; have : YZ.length = 6 := rfl; omega
 ·split
  ·simp only [apy]; have : Ec.length = 7 := rfl; have : bB.length = 2 := rfl; omega
  ·split
   ·decide
   ·split
    ·decide
    ·simp only [apy]
     have : fB.length = 5 := rfl; have : Ia.length = 1 := rfl; have : GL.length = 3 := rfl
     omega
end Am
end Go.Proofs.YtglmonlofejcgaaGreatDoor
