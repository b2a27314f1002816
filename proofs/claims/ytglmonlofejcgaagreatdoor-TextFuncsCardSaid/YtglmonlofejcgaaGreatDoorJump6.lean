/- Jumps' texts: jump.Text and the reference's answer with this text. Jumps' texts: the contracts, joined. One text for each valid jump. (No program in sight, but for the jumps' cells.) -/
import Derived.Test.YtglmonlofejcgaaGreatDoorUses45
import Derived.Test.YtglmonlofejcgaaGreatDoorJump4
import Derived.Test.YtglmonlofejcgaaGreatDoorDigits
set_option linter.unusedVariables false
set_option linter.unusedSectionVars false
set_option maxRecDepth 100000
namespace Go.Proofs.YtglmonlofejcgaaGreatDoor.Am
open Go.RowKit
set_option maxHeartbeats 1000000
def a7T : List UInt8 := [103, 111, 116, 111, 32, 98]
def SH : List UInt8 := [98, 114, 97, 110, 99, 104, 32]
def bB : List UInt8 := [32, 98]
def a0I : List UInt8 := [114, 101, 116, 117, 114, 110]
def aaE : List UInt8 := [97, 98, 111, 114, 116]
def fB : List UInt8 := [32, 58, 61, 32, 102]
def aa7 : List UInt8 := [40]
def Tq : List UInt8 := [44, 32]
def Y3 : List UInt8 := [41, 32, 98]
def O1 (el : List Value) : List UInt8 := opT (D8 el 0)
def ac8 (post : List Value) : List UInt8 := iH (ah post 0) (decide (ah post 1 = 1)) (ah post 2)
def pq (pre : List Value) (els : List (List Value)) (post : List Value) : List UInt8 :=
 if ah pre 0 = 1 then a7T ++ dD (ah pre 7)
 else if ah pre 0 = 2 then SH ++ (O1 ((pre.drop 1).take 5) ++ (bB ++ (dD (ah pre 7) ++ (bB ++ dD (ah pre 8)))))
 else if ah pre 0 = 3 then a0I
 else if ah pre 0 = 5 then aaE
 else ac8 post ++ (fB ++ (dD (ah pre 6) ++ (aa7 ++ (oG Tq (els.map O1) ++ (Y3 ++ dD (ah pre 7))))))
def akw (F : FuncId) : Prop :=
 ∀ (w : World) (v : Value) (pre : List Value) (sv : Value) (post : List Value) (els : List (List Value)), gq w -> eU w v pre sv post els -> okJ pre els post = true ->
  Calls Tryz.prog F #[v] w fun x w' => x = .returned (vS2 (pq pre els post)) /\ Below w.heap.size w w'
theorem Ko {n : Int} (h0 : -9223372036854775808 <= n) (h1 : n <= 9223372036854775807) {w : World} (k : gq w) : Calls Tryz.prog 36 #[.int .i64 n] w fun e w' => e = .returned (vS1 (dD n)) /\ Below w.heap.size w w' :=
 (Tryz.strconv_Itoa n h0 h1 w k.tab).mono fun e w' ⟨e1, n', os, e2⟩ => ⟨by rw [e1]; unfold vS1; rw [show dD n = Lib.itoa n from vJ n h0 h1], by rw [e2]; exact Lib.below_grow _ _ (Nat.le_refl _) _ _⟩
theorem vF (l : Int) (d : Bool) (f : Int) : (iH l d f).length <= 25 := by
 unfold iH
 have h1 := dX l
 have h2 : (bif d then ([42] : List UInt8) else []).length <= 1 := by cases d <;> simp
 have h3 : (if f = 1 then ([46, 49] : List UInt8) else if f = 2 then [46, 50] else []).length <= 2 := by
  split
  ·simp
  ·split <;> simp
 simp only [List.length_append, List.length_cons]
 omega
theorem CX (o : Opd) : (opT o).length <= 30 := by
 unfold opT
 have h1 := dX o.n
 have h2 := vF o.l o.d o.f
 have h3 : a1F.length = 5 := rfl
 have h4 : a1k.length = 5 := rfl
 split
 ·omega
 ·split <;> (rw [List.length_append]; omega)
section
variable {w : World} {v : Value} {pre : List Value} {sv : Value} {post : List Value} {els : List (List Value)} (hj : eU w v pre sv post els)
include hj
def oC (_ : eU w v pre sv post els) : List (List UInt8) := O1 ((pre.drop 1).take 5) :: ac8 post :: dD (ah pre 7) :: dD (ah pre 8) :: dD (ah pre 6) :: els.map O1
def oq (_ : eU w v pre sv post els) : List Int := els.flatten.map aY
@[reducible] noncomputable def dn : Base :=
 { Know.nought with nb := w.heap.size, g := fun k => w.heap[k]?, rho := dh (behind (aW pre els post) (oC hj) (oq hj)), sig := fD (behind (aW pre els post) (oC hj) (oq hj)), ok := aG.nought _ _, lst := fun _ => ⟨sv, els⟩ }
theorem JH : (oC hj).length = 5 + els.length := by simp [oC]; omega
theorem a2l : ∀ l ∈ oC hj, l.length <= 30 := by
 intro l hl
 simp only [oC, List.mem_cons, List.mem_map] at hl
 rcases hl with rfl | rfl | rfl | rfl | rfl | ⟨el, _, rfl⟩
 ·exact CX _
 ·have := vF (ah post 0) (decide (ah post 1 = 1)) (ah post 2); unfold ac8; omega
 ·have := dX (ah pre 7); omega
 ·have := dX (ah pre 8); omega
 ·have := dX (ah pre 6); omega
 ·exact CX _
theorem alO : Lens (Ej 13 (5 + els.length)) (dn hj).rho (dn hj).sig := qO (Eo hj) rfl (iI hj) (JH hj)
theorem afX {i : Nat} (h : i < 13) : (dn hj).rho i = ah (aW pre els post) i := lC (by rw [iI hj]; exact h)
theorem a2c {j : Nat} {l : List UInt8} (h : (oC hj)[j]? = some l) : (dn hj).sig (13 + j) = l := MP (iI hj) h
theorem Yn {i : Nat} {el : List Value} (h : els[i]? = some el) : (dn hj).sig (18 + i) = O1 el := by
 rw [show 18 + i = 13 + (5 + i) by omega]
 refine a2c hj ?_
 rw [show 5 + i = i + 1 + 1 + 1 + 1 + 1 by omega]
 simp only [oC, List.getElem?_cons_succ]
 rw [List.getElem?_map, h]
 rfl
theorem BF {i : Nat} {el : List Value} (h : els[i]? = some el) : el.length = 5 := by have := (hj.ops.kd i el h).len; simp [opK] at this; omega
theorem Df : ∀ {l : List (List Value)}, (∀ x ∈ l, x.length = 5) -> ∀ {i f : Nat} {el : List Value}, l[i]? = some el -> f < 5 -> l.flatten[5 * i + f]? = el[f]?
 | [], _, i, f, el, h, _ => by simp at h
 | x :: l, hl, 0, f, el, h, hf => by
  simp only [List.getElem?_cons_zero, Option.some.injEq] at h
  subst h
  rw [List.flatten_cons, List.getElem?_append_left (by rw [hl x (List.mem_cons_self ..)]; omega)]
  congr 1
  omega
 | x :: l, hl, i + 1, f, el, h, hf => by
  simp only [List.getElem?_cons_succ] at h
  have hx := hl x (List.mem_cons_self ..)
  rw [List.flatten_cons, List.getElem?_append_right (by omega), hx, show 5 * (i + 1) + f - 5 = 5 * i + f by omega]
  exact Df (fun y hy => hl y (List.mem_cons_of_mem _ hy)) h hf
theorem adp {i f : Nat} {el : List Value} (h : els[i]? = some el) (hf : f < 5) : (dn hj).rho (18 + els.length + 5 * i + f) = ah el f := by
 have hall : ∀ x ∈ els, x.length = 5 := fun x hx => by
  obtain ⟨k, hk⟩ := List.getElem?_of_mem hx
  exact BF hj hk
 have h5 := BF hj h
 have hx : el[f]? = some (el[f]'(by omega)) := List.getElem?_eq_getElem _
 have : (oq hj)[5 * i + f]? = some (ah el f) := by
  unfold oq
  rw [List.getElem?_map, Df hj hall h hf, hx]
  show some (aY _) = _
  unfold ah
  rw [hx]
 rw [show 18 + els.length + 5 * i + f = 13 + (5 + els.length) + (5 * i + f) by omega]
 exact gV (iI hj) (JH hj) this
theorem VZ {i : Nat} {el : List Value} (h : els[i]? = some el) : ak (@VS (dn hj) r0) (elT els.length i) el /\ ∀ r, ak (@VS (dn hj) r) (elT els.length i) el := by
 have key : ∀ r, ak (@VS (dn hj) r) (elT els.length i) el := fun r => by
  have rc : ∀ f, f < 5 -> (dn hj).rho (18 + els.length + 5 * i + f) = ah el f := fun f hf => adp hj h hf
  obtain ⟨a, b, c, d, e, rfl⟩ := vN (hj.ops.kd i el h)
  refine ⟨?_, ?_, ?_, ?_, ?_, trivial⟩
  ·show _ = Value.int .u8 ((dn hj).rho (18 + els.length + 5 * i)); rw [show 18 + els.length + 5 * i = 18 + els.length + 5 * i + 0 by rfl, rc 0 (by decide)]; rfl
  ·show _ = Value.int .i64 ((dn hj).rho (18 + els.length + 5 * i + 1)); rw [rc 1 (by decide)]; rfl
  ·show _ = Value.int .i64 ((dn hj).rho (18 + els.length + 5 * i + 1 + 1)); rw [show 18 + els.length + 5 * i + 1 + 1 = 18 + els.length + 5 * i + 2 by omega, rc 2 (by decide)]; rfl
  ·show _ = Value.bool ([((18 + els.length + 5 * i + 1 + 1 + 1 : Nat), (1 : Int))].any fun p => decide ((dn hj).rho p.1 = p.2))
   simp only [List.any_cons, List.any_nil, Bool.or_false]
   rw [show 18 + els.length + 5 * i + 1 + 1 + 1 = 18 + els.length + 5 * i + 3 by omega, rc 3 (by decide)]
   cases d <;> rfl
  ·show _ = Value.int .u8 ((dn hj).rho (18 + els.length + 5 * i + 1 + 1 + 1 + 1)); rw [show 18 + els.length + 5 * i + 1 + 1 + 1 + 1 = 18 + els.length + 5 * i + 4 by omega, rc 4 (by decide)]; rfl
 exact ⟨key r0, key⟩
theorem Po {n : Nat} : ∀ (l : List Nat) {k : Nat} {i : N} {cs : List S}, Tabs.DW ⟨[], l.map fun (i : Nat) => ((0 : Nat), N.c (i : Int), elT n i), []⟩ k i = some cs -> ∃ j ∈ l, k = 0 /\ i = .c (j : Int) /\ cs = elT n j
 | [], k, i, cs, h => by cases h
 | j :: l, k, i, cs, h => by
  have h : (bif Nat.beq 0 k && (N.c (j : Int)).eqv i then some (elT n j) else Tabs.DW ⟨[], l.map fun (i : Nat) => ((0 : Nat), N.c (i : Int), elT n i), []⟩ k i) = some cs := h
  cases hb : (Nat.beq 0 k && (N.c (j : Int)).eqv i) <;> rw [hb] at h <;> simp only [cond_true, cond_false] at h
  ·obtain ⟨j', h1, h2⟩ := Po l h
   exact ⟨j', List.mem_cons_of_mem _ h1, h2⟩
  ·cases h
   simp only [Bool.and_eq_true] at hb
   exact ⟨j, List.mem_cons_self .., (Nat.eq_of_beq_eq_true hb.1).symm, (N.ug hb.2).symm, rfl⟩
theorem a6u : @aZ (dn hj) (tbT els.length) := by
 letI : Base := dn hj
 refine ⟨fun l j h => ?_, fun l i cs h => ?_, fun i c j h => (by cases h)⟩
 ·have h : (bif Nat.beq 0 l then some 9 else none) = some j := h
  cases hb : Nat.beq 0 l <;> rw [hb] at h <;> cases h
  obtain ⟨A, c, e⟩ := hj.ops.sl
  exact ⟨A, els.length, c, e, by rw [afX hj (by decide)]; exact iU hj⟩
 ·obtain ⟨k, hk, rfl, rfl, rfl⟩ := Po hj _ (show Tabs.DW ⟨[], _, []⟩ l i = some cs from h)
  have hk := List.mem_range.1 hk
  have he : els[k]? = some els[k] := List.getElem?_eq_getElem hk
  obtain ⟨b, off, c, e, hc⟩ := hj.ops.at_ k _ he
  refine ⟨b, off, els.length, c, els[k], e, by show (0 : Int) <= (k : Int); omega, by show (k : Int) < _; omega, ⟨by show els[((k : Nat) : Int).toNat]? = _; rw [Int.toNat_natCast]; exact he, fun f u hf w1 hw => ?_⟩, ?_⟩
  ·have hcell := hc f u hf
   show w1.cell? ⟨b, off + ((k : Nat) : Int).toNat * 5 + f, none⟩ = some u
   rw [Int.toNat_natCast]
   have hblk : w1.heap[b]? = w.heap[b]? := hw b (World.block_lt_of_cell? w ⟨b, off + k * 5 + f, none⟩ hcell)
   rw [<- hcell]
   exact World.cell?_of_block hblk
  ·have := (VZ hj he).2
   obtain ⟨a, b, c, d, e, hel⟩ := vN (hj.ops.kd k _ he)
   rw [hel] at this |-
   exact ⟨fun r => (this r).1, fun r => (this r).2.1, fun r => (this r).2.2.1, fun r => (this r).2.2.2.1, fun r => (this r).2.2.2.2.1, trivial⟩
end
end Go.Proofs.YtglmonlofejcgaaGreatDoor.Am
namespace Go.Proofs.YtglmonlofejcgaaGreatDoor.Am
open Go.RowKit
set_option maxHeartbeats 1000000
theorem oK (b0 : Base) (l : List UInt8) (m : List Nat) (h : m.map UInt8.ofNat = l) (h2 : m.all (fun n => Nat.blt n 256) = true) : bI b0.sig m = l := by rw [qG b0.sig h2, h]
theorem eU.frz {w w' : World} {v : Value} {pre : List Value} {sv : Value} {post : List Value} {els : List (List Value)} (hj : eU w v pre sv post els) (hw : ∀ k, k < w.heap.size -> w'.heap[k]? = w.heap[k]?) : eU w' v pre sv post els := by
 refine ⟨hj.v, hj.pre, hj.post, ⟨hj.ops.sl, hj.ops.most, fun i el he => ?_, hj.ops.kd, hj.ops.cap⟩⟩
 obtain ⟨b', off, c', e1, e2⟩ := hj.ops.at_ i el he
 refine ⟨b', off, c', e1, fun f u hf => ?_⟩
 have hcell := e2 f u hf
 rw [<- hcell]
 exact World.cell?_of_block (hw b' (World.block_lt_of_cell? w ⟨b', off + i * 5 + f, none⟩ hcell))
section
variable {w : World} {v : Value} {pre : List Value} {sv : Value} {post : List Value} {els : List (List Value)} (hj : eU w v pre sv post els)
include hj
theorem a4v : ak (@VA (dn hj) r0) [.g uh] [v] := by
 letI : Base := dn hj
 have hlenP := iD hj
 refine ⟨⟨pre ++ sv :: post, hj.v, ?_⟩, trivial⟩
 refine ak.app ?_ ⟨?_, ?_⟩
 ·exact jX (pre := []) (us := pre) (post := Value.int .i64 els.length :: post ++ ((oC hj).map Ce ++ (oq hj).map (Value.int .i64))) rfl rfl (by simp [behind, aW]) hj.pre
 ·obtain ⟨A, c, e⟩ := hj.ops.sl
  exact ⟨A, els.length, c, e, e⟩
 ·have := jX (r := r0) (cs := behind (aW pre els post) (oC hj) (oq hj)) (pre := pre ++ [Value.int .i64 els.length]) (us := post) (post := (oC hj).map Ce ++ (oq hj).map (Value.int .i64)) rfl rfl (by simp [behind, aW]) hj.post
  rw [List.length_append, hlenP] at this
  exact this
theorem VK {R : Int × Int -> List UInt8 -> Prop} {p : Int × Int} : ∀ {l : List (List UInt8)}, (∀ x ∈ l, R p x) -> ak R (List.replicate l.length p) l
 | [], _ => trivial
 | x :: l, h => ⟨h x (List.mem_cons_self ..), VK fun y hy => h y (List.mem_cons_of_mem _ hy)⟩
theorem ajU : (Lf.lV [(true, kJ)] (List.replicate (5 + els.length) (0, 30)) []).Holds (dn hj).rho (dn hj).sig := by
 have h1 := VK hj (R := fun p (l : List UInt8) => p.1 <= (l.length : Int) /\ (l.length : Int) <= p.2) (p := ((0 : Int), (30 : Int))) (l := oC hj) fun x hx => by
  have := a2l hj x hx
  constructor
  ·show (0 : Int) <= _; omega
  ·show (x.length : Int) <= 30; omega
 rw [JH hj] at h1
 exact Lf.xG (Eo hj) h1 (i0 := []) (i1 := oq hj) rfl trivial
theorem ael (h : okJ pre els post = true) : ∃ c : Nat, ((c = 1 \/ c = 2 \/ c = 3 \/ c = 5) /\ els = [] \/ c = 4 /\ els.length < 9) /\ ah pre 0 = (c : Int) /\ (c = 2 -> (bn 0).val ((pre.drop 1).take 5) = true) /\ (c = 4 -> (fU 0).val post = true /\ (els.all fun el => (bn 0).val el) = true) /\ (LT c els.length).Holds (dn hj).rho (dn hj).sig := by
 have r0 : (dn hj).rho 0 = ah pre 0 := (afX hj (by decide)).trans (RF hj (by decide))
 have r9 : (dn hj).rho 9 = els.length := (afX hj (by decide)).trans (iU hj)
 have hh := ajU hj
 rcases isJ hj h with ⟨k, _, _, _, l, _⟩ | ⟨k, a, _, _, _, l, _⟩ | ⟨k, _, l, _⟩ | ⟨k, _, _, _, _, l, d, o⟩
 ·exact ⟨1, .inl ⟨.inl rfl, l⟩, k, fun e => (by cases e), fun e => (by cases e), Lf.Holds.pX hj hh (r0.trans k)⟩
 ·exact ⟨2, .inl ⟨.inr (.inl rfl), l⟩, k, fun _ => a, fun e => (by cases e), Lf.Holds.pX hj hh (r0.trans k)⟩
 ·rcases k with k | k
  ·exact ⟨3, .inl ⟨.inr (.inr (.inl rfl)), l⟩, k, fun e => (by cases e), fun e => (by cases e), Lf.Holds.pX hj hh (r0.trans k)⟩
  ·exact ⟨5, .inl ⟨.inr (.inr (.inr rfl)), l⟩, k, fun e => (by cases e), fun e => (by cases e), Lf.Holds.pX hj hh (r0.trans k)⟩
 ·exact ⟨4, .inr ⟨rfl, l⟩, k, fun e => (by cases e), fun _ => ⟨d, o⟩, Lf.Holds.pX hj (Lf.Holds.pX hj hh (r0.trans k)) r9⟩
theorem X6 : (dn hj).sig 15 = dD (ah pre 7) := a2c hj (j := 2) rfl
theorem a9h : (dn hj).sig 16 = dD (ah pre 8) := a2c hj (j := 3) rfl
theorem a9L : (dn hj).sig 17 = dD (ah pre 6) := a2c hj (j := 4) rfl
theorem a9o : (dn hj).sig 13 = O1 ((pre.drop 1).take 5) := a2c hj (j := 0) rfl
theorem a6I : (dn hj).sig 14 = ac8 post := a2c hj (j := 1) rfl
theorem akq {c : Nat} (hc : (c = 1 \/ c = 2 \/ c = 3 \/ c = 5) /\ els = [] \/ c = 4 /\ els.length < 9) (k : ah pre 0 = (c : Int)) : bI (dn hj).sig (ag1 c els.length) = pq pre els post := by
 letI : Base := dn hj
 have g1 : bI (dn hj).sig acv = a7T := oK (dn hj) _ _ rfl rfl
 have g2 : bI (dn hj).sig SE = SH := oK (dn hj) _ _ rfl rfl
 have g3 : bI (dn hj).sig bN = bB := oK (dn hj) _ _ rfl rfl
 have g4 : bI (dn hj).sig a0r = a0I := oK (dn hj) _ _ rfl rfl
 have g5 : bI (dn hj).sig adn = aaE := oK (dn hj) _ _ rfl rfl
 have g6 : bI (dn hj).sig fN = fB := oK (dn hj) _ _ rfl rfl
 have g7 : bI (dn hj).sig a81 = aa7 := oK (dn hj) _ _ rfl rfl
 have g8 : bI (dn hj).sig YX = Tq := oK (dn hj) _ _ rfl rfl
 have g9 : bI (dn hj).sig YL = Y3 := oK (dn hj) _ _ rfl rfl
 unfold pq
 rw [k]
 rcases hc with ⟨rfl | rfl | rfl | rfl, _⟩ | ⟨rfl, hn⟩
 ·show bI (dn hj).sig (acv ++ [256 + 15]) = _
  rw [dw, gK, g1, X6 hj]
  rfl
 ·show bI (dn hj).sig (SE ++ ([256 + 13] ++ (bN ++ ([256 + 15] ++ (bN ++ [256 + 16]))))) = _
  simp only [dw, gK, g2, g3, a9o hj, X6 hj, a9h hj]
  rfl
 ·exact g4
 ·exact g5
 ·show bI (dn hj).sig ([256 + 14] ++ (fN ++ ([256 + 17] ++ (a81 ++ (Dx YX ((List.range els.length).map fun i => [256 + (18 + i)]) ++ (YL ++ [256 + 15])))))) = _
  have hm : ((List.range els.length).map fun i => [256 + (18 + i)]).map (bI (dn hj).sig) = els.map O1 := by
   refine List.ext_getElem? fun i => ?_
   by_cases hi : i < els.length
   ·rw [List.map_map, List.getElem?_map, List.getElem?_range hi, List.getElem?_map, List.getElem?_eq_getElem hi]
    show some (bI (dn hj).sig [256 + (18 + i)]) = some _
    rw [gK, Yn hj (List.getElem?_eq_getElem hi)]
   ·rw [List.getElem?_eq_none (by simp; omega), List.getElem?_eq_none (by simp; omega)]
  simp only [dw, gK, uN, g6, g7, g8, g9, a6I hj, X6 hj, a9L hj, hm]
  rfl
noncomputable def J3 (mk : S -> V) (F : FuncId) (c n : Nat) : Bool := vg (mk (S.uI (ag1 c n))) (aiR F c n)
theorem ZW {mk : S -> V} {val : List UInt8 -> Value} (hmk : ∀ (b0 : Base) r l u, @VV b0 r (mk (S.uI l)) u -> u = val (bI b0.sig l)) {F : FuncId} (h0 : ([1, 2, 3, 5].all fun c => J3 mk F c 0) = true) (h4 : ((List.range 9).all fun n => J3 mk F 4 n) = true) (kt : gq w) (hok : okJ pre els post = true) : Calls Tryz.prog F #[v] w fun x w' => x = .returned (val (pq pre els post)) /\ Below w.heap.size w w' := by
 obtain ⟨c, hc, k, hA, hC, hL⟩ := ael hj hok
 have hrun : J3 mk F c els.length = true := by
  rcases hc with ⟨hc, e⟩ | ⟨rfl, hn⟩
  ·rw [e]
   exact List.all_eq_true.1 h0 c (by rcases hc with rfl | rfl | rfl | rfl <;> simp)
  ·exact List.all_eq_true.1 h4 _ (List.mem_range.2 hn)
 have hKok : aG ((LT c els.length).know (Ej 13 (5 + els.length))) (dn hj).rho (dn hj).sig := Lf.ok hL (alO hj)
 letI bL : Base := (dn hj).aH ((LT c els.length).know (Ej 13 (5 + els.length))) hKok
 have hca : ak (@VA bL r0) (([.g uh] : List A).map (LT c els.length).nA) [v] := @Lf.yj bL _ r0 hL _ _ (a4v hj)
 have frz : ∀ w' : World, (∀ k, k < bL.nb -> w'.heap[k]? = bL.g k) -> eU w' v pre sv post els /\ gq w' := fun w' hw => ⟨hj.frz hw, kt.all fun k hk => hw k (by have := kt.size; show k < w.heap.size; omega)⟩
 have num : ∀ i, i < 9 -> oM[i]? = some (.i .i64) -> -9223372036854775808 <= ah pre i /\ ah pre i <= 9223372036854775807 := fun i hi hk => by
  obtain ⟨x, hx, n, hn, h0, h1⟩ := ale hj i hi hk
  subst hn
  unfold ah
  rw [hx]
  exact ⟨h0, h1⟩
 have mD : ∀ (i s : Nat), i < 9 -> oM[i]? = some (.i .i64) -> bL.sig s = dD (ah pre i) ->
   @Sound bL Tryz.prog (ku 36 [.s (.xi .i64 i)] (mS1 (.xs [256 + s]))) /\ @Sound bL Tryz.prog (ku 111 [.s (.xi .i64 i)] (mS1 (.xs [256 + s]))) := fun i s hi hk hs => by
  obtain ⟨n0, n1⟩ := num i hi hk
  have hr : bL.rho i = ah pre i := (afX hj (by omega)).trans (RF hj hi)
  have hv : ak (@VA bL r0) [.s (.xi .i64 i)] [.int .i64 (ah pre i)] := ⟨congrArg (Value.int .i64) hr.symm, trivial⟩
  have hu : ∀ r, @VV bL r (mS1 (.xs [256 + s])) (vS1 (dD (ah pre i))) := fun r => by
   show Value.string _ = Value.string ⟨(bI bL.sig [256 + s]).toArray⟩
   rw [@gK, hs]
  exact ⟨@dA bL _ _ ⟨_, Tryz.func36, by kernel_rfl, by kernel_rfl⟩ _ _ rfl _ hv _ hu fun w' hw => Ko n0 n1 (frz w' hw).2,
   @dA bL _ _ ⟨_, Tryz.func111, by kernel_rfl, by kernel_rfl⟩ _ _ rfl _ hv _ hu fun w' hw => FH _ n0 n1 w'⟩
 have vv2 : ∀ (s : Nat) (l : List UInt8), bL.sig s = l -> ∀ r, @VV bL r (mS2 (.xs [256 + s])) (vS2 l) := fun s l h r => by
  refine ⟨[_, _], rfl, ?_, rfl, trivial⟩
  show Value.string _ = Value.string ⟨(bI bL.sig [256 + s]).toArray⟩
  rw [@gK, h]
 have vv1 : ∀ (s : Nat) (l : List UInt8), bL.sig s = l -> ∀ r, @VV bL r (mS1 (.xs [256 + s])) (vS1 l) := fun s l h r => by
  show Value.string _ = Value.string ⟨(bI bL.sig [256 + s]).toArray⟩
  rw [@gK, h]
 have qJ : ∀ (l : List S), l.all S.one = true -> (([.g l] : List A).all A.qJ) = true := fun l h => by
  show (l.all S.qJ && true) = true
  rw [Bool.and_true]
  refine List.all_eq_true.2 fun x hx => ?_
  have := List.all_eq_true.1 h x hx
  cases x <;> first | exact this | rfl
 have hS0 : @Sound bL Tryz.prog (I7 (Zg c els.length)) := by
  refine @jA bL _ _ fun O hO => ?_
  unfold Zg at hO
  rcases List.mem_append.1 hO with hO | hO
  ·unfold afh at hO
   rcases List.mem_append.1 hO with hO | hO
   ·simp only [List.mem_cons, List.not_mem_nil, or_false] at hO
    rcases hO with rfl | rfl
    ·exact @dA bL _ _ ⟨_, Tryz.func72, by kernel_rfl, by kernel_rfl⟩ _ _ (cells_one _) _ hca (v8 true) (fun _ => rfl) fun w' hw => by
      have := KH w' v pre sv post els (frz w' hw).1
      rw [hok] at this
      exact this
    ·exact @dA bL _ _ ⟨_, Tryz.func107, by kernel_rfl, by kernel_rfl⟩ _ _ (cells_one _) _ hca (.bool true) (fun _ => rfl) fun w' hw => by
      have := Xg w' v pre sv post els (frz w' hw).1
      rw [hok] at this
      exact this
   ·simp only [List.flatMap_cons, List.flatMap_nil, List.append_nil, List.cons_append, List.nil_append, List.mem_cons, List.not_mem_nil, or_false] at hO
    rcases hO with rfl | rfl | rfl | rfl | rfl | rfl
    ·exact (mD 7 15 (by decide) rfl (X6 hj)).1
    ·exact (mD 7 15 (by decide) rfl (X6 hj)).2
    ·exact (mD 8 16 (by decide) rfl (a9h hj)).1
    ·exact (mD 8 16 (by decide) rfl (a9h hj)).2
    ·exact (mD 6 17 (by decide) rfl (a9L hj)).1
    ·exact (mD 6 17 (by decide) rfl (a9L hj)).2
  ·have flatP : aW pre els post = pre ++ Value.int .i64 els.length :: post := rfl
   cases h2 : Nat.beq c 2 with
   | true =>
    rw [h2] at hO
    have hv := hA (Nat.eq_of_beq_eq_true h2)
    have hk : ak Kd.ok opK ((pre.drop 1).take 5) := (hj.pre.drop 1).take 5
    have cl : ak (@VS bL r0) (clL (LT c els.length) 1 opK) ((pre.drop 1).take 5) := @BP bL _ hL (behind (aW pre els post) (oC hj) (oq hj)) rfl rfl opK ((pre.drop 1).take 5) (pre.take 1) (pre.drop 6 ++ (Value.int .i64 els.length :: post ++ ((oC hj).map Ce ++ (oq hj).map (Value.int .i64)))) 1 (by
     have key : ∀ X : List Value, pre ++ X = pre.take 1 ++ ((pre.drop 1).take 5 ++ (pre.drop 6 ++ X)) := fun X => by
      rw [show pre.drop 6 = (pre.drop 1).drop 5 by rw [List.drop_drop], <- List.append_assoc ((pre.drop 1).take 5), List.take_append_drop, <- List.append_assoc, List.take_append_drop]
     show (pre ++ (Value.int .i64 els.length :: post)) ++ _ = _
     rw [List.append_assoc]
     exact key _) (by rw [List.length_take, iD hj]; decide) hk
    have hva : ak (@VA bL r0) [.g (clL (LT c els.length) 1 opK)] [.agg ((pre.drop 1).take 5).toArray] := ⟨⟨_, rfl, cl⟩, trivial⟩
    simp only [cond_true, afk, List.mem_cons, List.not_mem_nil, or_false] at hO
    rcases hO with rfl | rfl
    ·exact @dA bL _ _ ⟨_, Tryz.func69, by kernel_rfl, by kernel_rfl⟩ _ _ (qJ _ (jS _ opK 1 rfl)) _ hva _ (vv2 13 _ (a9o hj)) fun w' hw => Kq _ hk hv w' (frz w' hw).2
    ·exact @dA bL _ _ ⟨_, Tryz.func115, by kernel_rfl, by kernel_rfl⟩ _ _ (qJ _ (jS _ opK 1 rfl)) _ hva _ (vv1 13 _ (a9o hj)) fun w' hw => MS _ hk hv w' (frz w' hw).2
   | false =>
    rw [h2] at hO
    cases h4 : Nat.beq c 4 with
    | false => rw [h4] at hO; cases hO
    | true =>
     rw [h4] at hO
     obtain ⟨hd, ho⟩ := hC (Nat.eq_of_beq_eq_true h4)
     have cl : ak (@VS bL r0) (clL (LT c els.length) 10 kPl) post := @BP bL _ hL (behind (aW pre els post) (oC hj) (oq hj)) rfl rfl kPl post (pre ++ [Value.int .i64 els.length]) ((oC hj).map Ce ++ (oq hj).map (Value.int .i64)) 10 (by
      unfold behind aW
      simp only [List.append_assoc, List.cons_append, List.nil_append]) (by simp [iD hj]) hj.post
     have hva : ak (@VA bL r0) [.g (clL (LT c els.length) 10 kPl)] [.agg post.toArray] := ⟨⟨_, rfl, cl⟩, trivial⟩
     simp only [cond_true, cond_false] at hO
     rcases List.mem_append.1 hO with hO | hO
     ·simp only [acj, List.mem_cons, List.not_mem_nil, or_false] at hO
      rcases hO with rfl | rfl
      ·exact @dA bL _ _ ⟨_, Tryz.func70, by kernel_rfl, by kernel_rfl⟩ _ _ (qJ _ (jS _ kPl 10 rfl)) _ hva _ (vv2 14 _ (a6I hj)) fun w' hw => YW _ hj.post hd w' (frz w' hw).2
      ·exact @dA bL _ _ ⟨_, Tryz.func113, by kernel_rfl, by kernel_rfl⟩ _ _ (qJ _ (jS _ kPl 10 rfl)) _ hva _ (vv1 14 _ (a6I hj)) fun w' hw => XA _ hj.post hd w' (frz w' hw).2
     ·rcases List.mem_append.1 hO with hO | hO
      ·obtain ⟨i, hi, hO⟩ := List.mem_flatMap.1 hO
       have hi := List.mem_range.1 hi
       have he : els[i]? = some els[i] := List.getElem?_eq_getElem hi
       have hk := hj.ops.kd i _ he
       have hv := List.all_eq_true.1 ho _ (List.getElem_mem hi)
       have hva : ak (@VA bL r0) [.g (elT els.length i)] [.agg els[i].toArray] := ⟨⟨_, rfl, (VZ hj he).1⟩, trivial⟩
       simp only [List.mem_cons, List.not_mem_nil, or_false] at hO
       rcases hO with rfl | rfl
       ·exact @dA bL _ _ ⟨_, Tryz.func69, by kernel_rfl, by kernel_rfl⟩ _ _ (qJ _ rfl) _ hva _ (vv2 (18 + i) _ (Yn hj he)) fun w' hw => Kq _ hk hv w' (frz w' hw).2
       ·exact @dA bL _ _ ⟨_, Tryz.func115, by kernel_rfl, by kernel_rfl⟩ _ _ (qJ _ rfl) _ hva _ (vv1 (18 + i) _ (Yn hj he)) fun w' hw => MS _ hk hv w' (frz w' hw).2
      ·obtain rfl := List.mem_singleton.1 hO
       exact V7 bL
 have hS : @Sound bL Tryz.prog (@qE ((LT c els.length).know (Ej 13 (5 + els.length))) (lM Tryz.prog) (lZ Tryz.prog) (I7 (Zg c els.length)) (tbT els.length) (fun _ _ _ _ => none) 30 15) :=
  @qo bL _ _ (@qQ bL Tryz.prog) _ Pm _ hS0 Bc _ (aZ.aH (a6u hj) _) _ (fun f F cd _ _ => Loops.pW (fun c => @aO.none bL _ c) cd) 30 15
 obtain ⟨h', hr⟩ := yO hrun
 refine (@gY bL _ w (Nat.le_refl _) (fun _ _ => rfl) _ hS F _ _ hca _ _ hr).mono fun x w' ⟨u, r', e1, e2, e3⟩ => ⟨?_, e3⟩
 rw [e1, hmk bL r' _ u e2, show bI bL.sig (ag1 c els.length) = pq pre els post from akq hj hc k]
theorem akf {F : FuncId} (h0 : ([1, 2, 3, 5].all fun c => TN F c 0) = true) (h4 : ((List.range 9).all fun n => TN F 4 n) = true) (kt : gq w) (hok : okJ pre els post = true) : Calls Tryz.prog F #[v] w fun x w' => x = .returned (vS2 (pq pre els post)) /\ Below w.heap.size w w' := ZW hj U2 h0 h4 kt hok
end
theorem ajn : akw 40 := fun w v pre sv post els kt hj hok => akf hj XO Wx kt hok
end Go.Proofs.YtglmonlofejcgaaGreatDoor.Am
namespace Go.Proofs.YtglmonlofejcgaaGreatDoor.Am
open Go.RowKit
theorem QS {b : Nat} (sep : List UInt8) : ∀ {l : List (List UInt8)}, (∀ x ∈ l, x.length <= b) -> (oG sep l).length <= l.length * (b + sep.length)
 | [], _ => by simp [oG]
 | [x], h => by have := h x (List.mem_cons_self ..); simp [oG]; omega
 | x :: y :: r, h => by
  have h1 := h x (List.mem_cons_self ..)
  have h2 := QS sep (l := y :: r) fun z hz => h z (List.mem_cons_of_mem _ hz)
  have e1 : (oG sep (x :: y :: r)).length = x.length + sep.length + (oG sep (y :: r)).length := by simp [oG]; omega
  rw [e1, show (x :: y :: r).length = (y :: r).length + 1 by rfl, Nat.add_mul]
  omega
theorem a4t {pre post : List Value} {els : List (List Value)} (h : els.length < 9) : (pq pre els post).length <= 1000 := by
 have h1 := dX (ah pre 6); have h2 := dX (ah pre 7); have h3 := dX (ah pre 8)
 have h4 := CX (D8 ((pre.drop 1).take 5) 0)
 have h5 : (ac8 post).length <= 25 := vF _ _ _
 have h6 : (oG Tq (els.map O1)).length <= (els.map O1).length * (30 + 2) := QS (b := 30) Tq fun x hx => by
  obtain ⟨el, _, rfl⟩ := List.mem_map.1 hx
  exact CX _
 rw [List.length_map] at h6
 have e4 : (O1 ((pre.drop 1).take 5)).length <= 30 := h4
 unfold pq
 split
 ·simp only [List.length_append]; have : a7T.length = 6 := rfl; omega
 ·split
  ·simp only [List.length_append]; have : SH.length = 7 := rfl; have : bB.length = 2 := rfl; omega
  ·split
   ·decide
   ·split
    ·decide
    ·simp only [List.length_append]
     have : fB.length = 5 := rfl; have : aa7.length = 1 := rfl; have : Y3.length = 3 := rfl
     omega
end Go.Proofs.YtglmonlofejcgaaGreatDoor.Am
