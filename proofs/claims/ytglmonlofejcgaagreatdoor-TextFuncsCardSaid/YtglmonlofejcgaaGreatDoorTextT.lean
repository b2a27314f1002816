/- The text of a function, line by line, in plain words. How long the lines of a function are, up to each place. In plain words. A builder of the call's own, while other memory is made; rows of strings. (No program in sight.) What a sound function is, for its text. Texts of types: shape.Text, and the reference's Number and Names. -/
import Derived.Test.YtglmonlofejcgaaGreatDoorJump6
import Derived.Test.YtglmonlofejcgaaGreatDoorUses45
import Derived.Test.YtglmonlofejcgaaGreatDoorFn1
import Derived.Test.YtglmonlofejcgaaGreatDoorRegC
import Derived.Lib.OthersKept
import Derived.Test.YtglmonlofejcgaaGreatDoorCore
set_option linter.unusedVariables false
namespace Go.Proofs.YtglmonlofejcgaaGreatDoor.txt
open Go.RowKit Am
def a0m (k : Int) : List UInt8 := if k = 1 then [105, 110, 116] else [112, 97, 105, 114]
def markT (k : Int) : List UInt8 := if k = 3 then [38] else if k = 4 then [38, 109, 117, 116, 32] else [42]
def uH (t : List Value) : List UInt8 := if ah t 1 = 0 then a0m (ah t 0) else markT (ah t 0) ++ a0m (ah t 1)
def Hu (u : Bool) : List UInt8 := if u then [32, 117, 110, 115, 97, 102, 101] else []
def oZ (n p : Int) (u : Bool) : List UInt8 := [102, 110, 32] ++ (dD n ++ ([32, 40] ++ (dD p ++ ([41] ++ Hu u))))
def Kt (i : Nat) (t : List Value) : List UInt8 := 120 :: (dD (i : Nat) ++ ([58, 32] ++ uH t))
def bhT (i : Nat) : List UInt8 := 98 :: (dD (i : Nat) ++ [58])
def stL (el : List Value) : List UInt8 := [32, 32] ++ stT (MI el)
def jmL (b : bH) : List UInt8 := [32, 32] ++ pq b.pre b.ops b.post
def noB : bH := ⟨.bool false, [], .bool false, [], [], []⟩
def rQ (D : FnD) (i : Nat) : List (List UInt8) := (List.range i).map fun k => Kt k (D.ls.getD k [])
def X0 (i : Nat) (b : bH) : List (List UInt8) := bhT i :: (b.st.map stL ++ [jmL b])
def nY (D : FnD) (i : Nat) : List (List UInt8) := (List.range i).flatMap fun k => X0 k (D.bs.getD k noB)
def BK (D : FnD) (n : Int) : List (List UInt8) := oZ n D.p D.u :: (rQ D D.ls.length ++ nY D D.bs.length)
def nl (ls : List (List UInt8)) : List UInt8 := ls.flatMap fun l => l ++ [10]
def textF (D : FnD) (n : Int) : List UInt8 := nl (BK D n)
theorem Qr (a b : List (List UInt8)) : nl (a ++ b) = nl a ++ nl b := by simp [nl]
theorem agH (l : List UInt8) (b : List (List UInt8)) : nl (l :: b) = l ++ (10 :: nl b) := by simp [nl]
theorem XU (l : List UInt8) : nl [l] = l ++ [10] := by simp [nl]
theorem oO (a : List (List UInt8)) (l : List UInt8) : nl (a ++ [l]) = nl a ++ (l ++ [10]) := by rw [Qr, XU]
theorem a2E (D : FnD) (i : Nat) : rQ D (i + 1) = rQ D i ++ [Kt i (D.ls.getD i [])] := by simp [rQ, List.range_succ]
theorem QE (D : FnD) (i : Nat) : nY D (i + 1) = nY D i ++ X0 i (D.bs.getD i noB) := by simp [nY, List.range_succ]
theorem wV (D : FnD) (i : Nat) : (rQ D i).length = i := by simp [rQ]
theorem WT (t : List Value) : (uH t).length <= 9 := by
 have hb : ∀ k, (a0m k).length <= 4 := fun k => by unfold a0m; split <;> simp
 have hm : ∀ k, (markT k).length <= 5 := fun k => by
  unfold markT
  split
  ·simp
  ·split <;> simp
 unfold uH
 split
 ·have := hb (ah t 0); omega
 ·have := hb (ah t 1); have := hm (ah t 0); rw [List.length_append]; omega
theorem adf (u : Bool) : (Hu u).length <= 7 := by cases u <;> simp [Hu]
theorem PK (n p : Int) (u : Bool) : (oZ n p u).length <= 1100 := by
 have h1 := dX n
 have h2 := dX p
 have h3 := adf u
 simp only [oZ, List.length_append, List.length_cons, List.length_nil]
 omega
theorem a8U (i : Nat) (t : List Value) : (Kt i t).length <= 1100 := by
 have h1 := dX (i : Nat)
 have h2 := WT t
 simp only [Kt, List.length_append, List.length_cons, List.length_nil]
 omega
theorem Zk (i : Nat) : (bhT i).length <= 1100 := by
 have h1 := dX (i : Nat)
 simp only [bhT, List.length_append, List.length_cons, List.length_nil]
 omega
theorem a1y (el : List Value) : (stL el).length <= 1100 := by
 have h1 := a0A (MI el)
 simp only [stL, List.length_append, List.length_cons, List.length_nil]
 omega
theorem U1 : ∀ {ls : List (List UInt8)}, (∀ l ∈ ls, l.length <= 1100) -> (nl ls).length <= 1101 * ls.length
 | [], _ => by simp [nl]
 | l :: ls, h => by
  have h1 := h l List.mem_cons_self
  have h2 := U1 fun x hx => h x (List.mem_cons_of_mem _ hx)
  rw [agH]
  simp only [List.length_append, List.length_cons]
  omega
open Go.RowKit Am
def uZ (D : FnD) (n : Int) (i : Nat) : List (List UInt8) := oZ n D.p D.u :: rQ D i
def Bf (D : FnD) (n : Int) (i : Nat) : List (List UInt8) := oZ n D.p D.u :: (rQ D D.ls.length ++ nY D i)
def vw (D : FnD) (n : Int) (i k : Nat) : List (List UInt8) := Bf D n i ++ (bhT i :: ((D.bs.getD i noB).st.take k).map stL)
theorem Fv (D : FnD) (n : Int) : uZ D n 0 = [oZ n D.p D.u] := rfl
theorem Fh (D : FnD) (n : Int) (i : Nat) : uZ D n (i + 1) = uZ D n i ++ [Kt i (D.ls.getD i [])] := by unfold uZ; rw [a2E]; rfl
theorem WW (D : FnD) (n : Int) : uZ D n D.ls.length = Bf D n 0 := by simp [uZ, Bf, nY]
theorem FD (D : FnD) (n : Int) (i : Nat) : vw D n i 0 = Bf D n i ++ [bhT i] := by simp [vw]
theorem Qw {D : FnD} {n : Int} {i k : Nat} {el : List Value} (h : (D.bs.getD i noB).st[k]? = some el) : vw D n i (k + 1) = vw D n i k ++ [stL el] := by
 unfold vw
 rw [List.take_add_one, h]
 simp
theorem Ux (D : FnD) (n : Int) (i : Nat) : vw D n i (D.bs.getD i noB).st.length ++ [jmL (D.bs.getD i noB)] = Bf D n (i + 1) := by
 unfold vw Bf
 rw [QE]
 simp [X0]
structure Lim (D : FnD) : Prop where
 l0 : 0 < D.ls.length
 b0 : 0 < D.bs.length
 l : D.ls.length <= 16
 b : D.bs.length <= 24
 s : ∀ b ∈ D.bs, b.st.length <= 24
 o : ∀ b ∈ D.bs, b.ops.length < 9
theorem getD_or {α : Type} (l : List α) (i : Nat) (d : α) : l.getD i d ∈ l \/ l.getD i d = d := by
 rw [List.getD_eq_getElem?_getD]
 cases h : l[i]? with
 | none => exact .inr rfl
 | some x => exact .inl (List.mem_of_getElem? h)
theorem a1K {D : FnD} (h : Lim D) (i : Nat) : (jmL (D.bs.getD i noB)).length <= 1100 := by
 have h1 : (D.bs.getD i noB).ops.length < 9 := by
  rcases getD_or D.bs i noB with k | k
  ·exact h.o _ k
  ·rw [k]; decide
 have := a4t (pre := (D.bs.getD i noB).pre) (post := (D.bs.getD i noB).post) h1
 simp only [jmL, List.length_append, List.length_cons, List.length_nil]
 omega
theorem st_len {D : FnD} (h : Lim D) (i : Nat) : (D.bs.getD i noB).st.length <= 24 := by
 rcases getD_or D.bs i noB with k | k
 ·exact h.s _ k
 ·rw [k]; decide
theorem ads {D : FnD} (h : Lim D) (i : Nat) : (X0 i (D.bs.getD i noB)).length <= 26 := by
 have := st_len h i
 simp only [X0, List.length_append, List.length_cons, List.length_nil, List.length_map]
 omega
theorem V8 {D : FnD} (h : Lim D) : ∀ i, (nY D i).length <= 26 * i
 | 0 => by simp [nY]
 | i + 1 => by
  have := V8 h i
  have := ads h i
  rw [QE, List.length_append]
  omega
theorem a0T (D : FnD) (i : Nat) : ∀ l ∈ rQ D i, l.length <= 1100 := fun l hl => by
 obtain ⟨k, _, rfl⟩ := List.mem_map.1 hl
 exact a8U _ _
theorem agN {D : FnD} (h : Lim D) (i : Nat) : ∀ l ∈ nY D i, l.length <= 1100 := fun l hl => by
 obtain ⟨k, _, hl⟩ := List.mem_flatMap.1 hl
 rcases List.mem_cons.1 hl with rfl | hl
 ·exact Zk _
 ·rcases List.mem_append.1 hl with hl | hl
  ·obtain ⟨s, _, rfl⟩ := List.mem_map.1 hl
   exact a1y _
  ·rw [List.mem_singleton.1 hl]; exact a1K h k
theorem VJ {D : FnD} (h : Lim D) (n : Int) {i : Nat} (hi : i <= D.ls.length) : (nl (uZ D n i)).length <= 1000000 := by
 have h1 : ∀ l ∈ uZ D n i, l.length <= 1100 := fun l hl => by
  rcases List.mem_cons.1 hl with rfl | hl
  ·exact PK _ _ _
  ·exact a0T _ _ l hl
 have h2 := U1 h1
 have h3 : (uZ D n i).length = i + 1 := by simp [uZ, wV]
 have := h.l
 omega
theorem Zn {D : FnD} (h : Lim D) (n : Int) (i : Nat) : ∀ l ∈ Bf D n i, l.length <= 1100 := fun l hl => by
 rcases List.mem_cons.1 hl with rfl | hl
 ·exact PK _ _ _
 ·rcases List.mem_append.1 hl with hl | hl
  ·exact a0T _ _ l hl
  ·exact agN h _ l hl
theorem Dl {D : FnD} (h : Lim D) (n : Int) (i : Nat) : (Bf D n i).length <= 17 + 26 * i := by
 have := V8 h i
 have := h.l
 simp only [Bf, List.length_cons, List.length_append, wV]
 omega
theorem WU {D : FnD} (h : Lim D) (n : Int) {i : Nat} (hi : i <= D.bs.length) : (nl (Bf D n i)).length <= 1000000 := by
 have h2 := U1 (Zn h n i)
 have h3 := Dl h n i
 have := h.b
 omega
theorem VL {D : FnD} (h : Lim D) (n : Int) {i k : Nat} (hi : i < D.bs.length) : (nl (vw D n i k)).length <= 1000000 := by
 have h1 : ∀ l ∈ vw D n i k, l.length <= 1100 := fun l hl => by
  rcases List.mem_append.1 hl with hl | hl
  ·exact Zn h n i l hl
  ·rcases List.mem_cons.1 hl with rfl | hl
   ·exact Zk _
   ·obtain ⟨s, _, rfl⟩ := List.mem_map.1 hl
    exact a1y _
 have h2 := U1 h1
 have h3 := Dl h n i
 have h4 : (vw D n i k).length <= (Bf D n i).length + 25 := by
  have := st_len h i
  simp only [vw, List.length_append, List.length_cons, List.length_map, List.length_take]
  omega
 have := h.b
 omega
theorem Qs {D : FnD} (h : Lim D) (n : Int) : (textF D n).length <= 1000000 := WU h n (Nat.le_refl _)
end Go.Proofs.YtglmonlofejcgaaGreatDoor.txt
namespace Go.Proofs.YtglmonlofejcgaaGreatDoor.bld
open Go.RowKit Am loan
def Ans (W : World) (v : Value) (e : Ending) (W' : World) : Prop := e = .returned v /\ Below W.heap.size W W'
theorem BuilderAtF.keep {T e : TypeId} {B b : Nat} {p : Value} {bs : List Value} {w w' : World} (h : Lib.BuilderAtF T e B b p bs w) (hk : ∀ k, k < w.heap.size -> w'.heap[k]? = w.heap[k]?) : Lib.BuilderAtF T e B b p bs w' := by
 obtain ⟨hB, v, hb, hown, hne⟩ := h
 refine ⟨hB, v, (hk _ (Array.getElem?_eq_some_iff.1 hb).1).trans hb, ⟨hown.1, ?_⟩, hne⟩
 rcases hown.2 with hn | ⟨g, cap, cur, fz, hv, hbg, hg, rest⟩
 ·exact .inl hn
 ·exact .inr ⟨g, cap, cur, fz, hv, hbg, (hk _ (Array.getElem?_eq_some_iff.1 hg).1).trans hg, rest⟩
def Bld (T e : TypeId) (b : Nat) (l : List UInt8) (w : World) : Prop := Lib.IsBuilderF T e b b (Lib.byteCells l) w
theorem Bld.keep {T e : TypeId} {b : Nat} {l : List UInt8} {w w' : World} (h : Bld T e b l w) (hk : ∀ k, k < w.heap.size -> w'.heap[k]? = w.heap[k]?) : Bld T e b l w' :=
 h.elim (fun x => .inl (BuilderAtF.keep x hk)) (fun x => .inr (BuilderAtF.keep x hk))
theorem Bld.below {T e : TypeId} {b : Nat} {l : List UInt8} {w w' : World} (h : Bld T e b l w) (hb : Below w.heap.size w w') : Bld T e b l w' := h.keep hb.block
theorem Bld.lt {T e : TypeId} {b : Nat} {l : List UInt8} {w : World} (h : Bld T e b l w) : b < w.heap.size := by
 rcases h with ⟨_, v, hb, _⟩ | ⟨_, v, hb, _⟩ <;> exact (Array.getElem?_eq_some_iff.1 hb).1
structure Wrote (e : TypeId) (b : Nat) (w w' : World) : Prop where
 bel : Below b w w'
 oth : Lib.OthersKept e (some b) w w'
theorem Wrote.refl (e : TypeId) (b : Nat) (w : World) : Wrote e b w w := ⟨Below.refl _ _, .refl _ _ _⟩
theorem Wrote.trans {e : TypeId} {b : Nat} {x y z : World} (h : Wrote e b x y) (k : Wrote e b y z) : Wrote e b x z := ⟨h.bel.trans k.bel, h.oth.trans k.oth⟩
theorem Wrote.of_below {e : TypeId} {b : Nat} {w w' : World} (h : Below w.heap.size w w') (hb : b <= w.heap.size) : Wrote e b w w' :=
 ⟨h.mono hb, fun k o hk _ _ => (h.block k (Array.getElem?_eq_some_iff.1 hk).1).trans hk⟩
theorem Wrote.block {e : TypeId} {b k : Nat} {w w' : World} {cs : Array Value} {t : TypeId} {fz : Nat × Nat} (h : Wrote e b w w') (hk : w.heap[k]? = some (.cells cs t fz)) (hb : k ≠ b) (ht : t ≠ e) : w'.heap[k]? = some (.cells cs t fz) :=
 h.oth k _ hk (fun x => hb (Option.some.inj x)) (fun c f x => ht (by injection x))
def nX (w : World) (b : Nat) (e : TypeId) (A : Option Addr) (l : List (List UInt8)) : Prop :=
 ∀ i s, l[i]? = some s -> ∃ g o cs t fz, A = some ⟨g, o, none⟩ /\ g ≠ b /\ w.heap[g]? = some (.cells cs t fz) /\ t ≠ e /\ cs[o + i]? = some (.string ⟨s.toArray⟩)
theorem nX.wrote {w w' : World} {b : Nat} {e : TypeId} {A : Option Addr} {l : List (List UInt8)} (h : nX w b e A l) (hw : Wrote e b w w') : nX w' b e A l := fun i s hi => by
 obtain ⟨g, o, cs, t, fz, hA, hg, hc, ht, hs⟩ := h i s hi
 exact ⟨g, o, cs, t, fz, hA, hg, hw.block hc hg ht, ht, hs⟩
theorem nX.cell {w : World} {b : Nat} {e : TypeId} {A : Option Addr} {l : List (List UInt8)} (h : nX w b e A l) {i : Nat} {s : List UInt8} (hi : l[i]? = some s) : ∃ g o, A = some ⟨g, o, none⟩ /\ w.cell? ⟨g, o + i, none⟩ = some (.string ⟨s.toArray⟩) := by
 obtain ⟨g, o, cs, t, fz, hA, hg, hc, ht, hs⟩ := h i s hi
 exact ⟨g, o, hA, by rw [cell_of_row w g (o + i) cs t fz hc]; exact hs⟩
theorem nX.new {w : World} {b g : Nat} {e t : TypeId} {l : List (List UInt8)} (hb : g ≠ b) (ht : t ≠ e) (h : w.heap[g]? = some (.cells (l.map fun s => Value.string ⟨s.toArray⟩).toArray t (0, 0))) : nX w b e (some ⟨g, 0, none⟩) l := fun i s hi =>
 ⟨g, 0, _, t, _, rfl, hb, h, ht, by simp [hi]⟩
theorem a2P (l : List UInt8) : Lib.strCells (⟨l.toArray⟩ : ByteArray) = Lib.byteCells l := by
 simp [Lib.strCells, Lib.byteCells]
end Go.Proofs.YtglmonlofejcgaaGreatDoor.bld
namespace Go.Proofs.YtglmonlofejcgaaGreatDoor.txt
open Go.RowKit Am
structure alk (D : FnD) : Prop where
 l0 : 0 < D.ls.length
 l1 : D.ls.length <= 16
 b0 : 0 < D.bs.length
 b1 : D.bs.length <= 24
 s : ∀ b ∈ D.bs, b.st.length <= 24
 p : 0 <= D.p /\ D.p <= 8
 ty : ∀ t ∈ D.ls, ou t = true
 st : ∀ b ∈ D.bs, ∀ x ∈ b.st, dJ.val x = true
 jm : ∀ b ∈ D.bs, okJ b.pre b.ops b.post = true
theorem og {D : FnD} (hc : check.oV D = 0) : alk D := by
 obtain ⟨h1, h2, _⟩ := size.ajC hc
 obtain ⟨m1, m2, m3⟩ := check.vC h1
 have hk := check.Nu h2
 unfold made.l9 head.mG head.guard at h2
 simp only [Bool.and_eq_true, decide_eq_true_eq] at h2
 obtain ⟨⟨⟨g1, g2, g3, g4⟩, g5, g6⟩, g7, g8⟩ := h2
 refine ⟨g1, m1, g7, m2, m3, ⟨g2, g3⟩, fun t ht => List.all_eq_true.1 g5 t ht, fun b hb x hx => ?_, fun b hb => ?_⟩
 ·have := hk b hb
  unfold made.okB at this
  exact List.all_eq_true.1 (Bool.and_eq_true_iff.1 this).1 x hx
 ·have := hk b hb
  unfold made.okB at this
  exact (Bool.and_eq_true_iff.1 this).2
theorem alP {w : World} {v : Value} {pre : List Value} {sv : Value} {post : List Value} {els : List (List Value)} (hj : eU w v pre sv post els) (h : okJ pre els post = true) : els.length < 9 := by
 rcases isJ hj h with ⟨_, _, _, _, l, _⟩ | ⟨_, _, _, _, _, l, _⟩ | ⟨_, _, l, _⟩ | ⟨_, _, _, _, _, l, _, _⟩
 ·rw [l]; decide
 ·rw [l]; decide
 ·rw [l]; decide
 ·exact l
open Go.RowKit Am loan bld
def SQ : List (Nat × Nat) := [(1, 0), (2, 0), (3, 1), (3, 2), (4, 1), (4, 2), (5, 1), (5, 2)]
def a5q (p : Nat × Nat) : List Value := [.int .u8 p.1, .int .u8 p.2]
def aly (p : Nat × Nat) : List S := [.int .u8 p.1, .int .u8 p.2]
noncomputable abbrev a3p (f : FuncId) (p : Nat × Nat) : R := @runs Know.nought (lM Tryz.prog) (lZ Tryz.prog) qx 12 8 f [.g (aly p)] ⟨[], 0⟩ 0
theorem a5Z : SQ.all (fun p => vg (.t [.s (.str (uH (a5q p))), .s (.int .i64 0)]) (a3p 37 p)) = true := by kernel_rfl
theorem Qo {t : List Value} (h : ak Kd.ok [.i .u8, .i .u8] t) (hk : ou t = true) : ∃ p ∈ SQ, t = a5q p := by
 match t, h with
 | [_, _], ⟨⟨a, rfl, ha⟩, ⟨b, rfl, hb⟩, _⟩ =>
  have h : ((decide (a = 1) || decide (a = 2)) && decide (b = 0)) || ((!decide (a < 3)) && (decide (a < 6) && (decide (b = 1) || decide (b = 2)))) = true := by
   have : GN.num (ah [Value.int .u8 a, .int .u8 b]) = true := hk
   simpa [GN, E.num, ands, isE, ah, aY] using this
  simp only [Bool.or_eq_true, Bool.and_eq_true, decide_eq_true_eq, Bool.not_eq_true', decide_eq_false_iff_not] at h
  have : (a = 1 /\ b = 0) \/ (a = 2 /\ b = 0) \/ (a = 3 /\ b = 1) \/ (a = 3 /\ b = 2) \/ (a = 4 /\ b = 1) \/ (a = 4 /\ b = 2) \/ (a = 5 /\ b = 1) \/ (a = 5 /\ b = 2) := by omega
  rcases this with ⟨rfl, rfl⟩ | ⟨rfl, rfl⟩ | ⟨rfl, rfl⟩ | ⟨rfl, rfl⟩ | ⟨rfl, rfl⟩ | ⟨rfl, rfl⟩ | ⟨rfl, rfl⟩ | ⟨rfl, rfl⟩
  ·exact ⟨(1, 0), by decide, rfl⟩
  ·exact ⟨(2, 0), by decide, rfl⟩
  ·exact ⟨(3, 1), by decide, rfl⟩
  ·exact ⟨(3, 2), by decide, rfl⟩
  ·exact ⟨(4, 1), by decide, rfl⟩
  ·exact ⟨(4, 2), by decide, rfl⟩
  ·exact ⟨(5, 1), by decide, rfl⟩
  ·exact ⟨(5, 2), by decide, rfl⟩
theorem Ov {f : FuncId} {p : Nat × Nat} {v : V} (w : World) (h : vg v (a3p f p) = true) :
  Calls Tryz.prog f #[.agg (a5q p).toArray] w fun e w' => ∃ u, e = .returned u /\ (∃ r, @VV (sZ w (aG.nought (fun _ => 0) (fun _ => []))) r v u) /\ Below w.heap.size w w' := by
 have ok := aG.nought (fun _ => 0) (fun _ => [])
 letI : Base := sZ w ok
 have hS := qL ok (@lD w _ _ _ ok) 12 8
 cases hr : a3p f p with
 | none => rw [hr] at h; cases h
 | some q =>
  obtain ⟨v', h'⟩ := q
  rw [hr] at h
  have hv := V.jy (show V.same v' v = true from h)
  subst hv
  exact (gY w (Nat.zero_le _) (fun k hk => absurd hk (Nat.not_lt_zero k)) hS (args := [.g (aly p)]) (vs := [.agg (a5q p).toArray]) ⟨⟨_, rfl, ⟨rfl, rfl, trivial⟩⟩, trivial⟩ hr).mono fun e w' ⟨u, r', e1, e2, e3⟩ => ⟨u, e1, ⟨r', e2⟩, e3⟩
theorem ajW {t : List Value} (h : ak Kd.ok [.i .u8, .i .u8] t) (hk : ou t = true) (w : World) : Calls Tryz.prog 37 #[.agg t.toArray] w (bld.Ans w (.tuple #[.string ⟨(uH t).toArray⟩, .int .i64 0])) := by
 obtain ⟨p, hp, rfl⟩ := Qo h hk
 refine (Ov w (List.all_eq_true.1 a5Z p hp)).mono ?_
 rintro e w' ⟨u, rfl, ⟨r, us, rfl, hu⟩, hb⟩
 match us, hu with
 | [x, y], ⟨h1, h2, _⟩ =>
  refine ⟨?_, hb⟩
  rw [show x = .string ⟨(uH (a5q p)).toArray⟩ from h1, show y = .int .i64 0 from h2]
end Go.Proofs.YtglmonlofejcgaaGreatDoor.txt
