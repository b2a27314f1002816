/- text.Func. -/
import Derived.Test.YtglmonlofejcgaaGreatDoorTextFn
import Derived.Test.YtglmonlofejcgaaGreatDoorTexts5A
import Derived.Test.YtglmonlofejcgaaGreatDoorPgR
set_option maxHeartbeats 8000000
set_option maxRecDepth 100000
open List renaming setIfInBounds_toArray → apu, mem_of_getElem? → apv, getElem?_eq_getElem → apw, set_cons_zero → apx, set_cons_succ → apy, not_mem_nil → apC, all_eq_true → apD, take_length → apF, mem_cons_of_mem → apH, mem_cons → apI, getElem?_drop → apK
open Array renaming getElem?_eq_some_iff → apz
open Nat renaming le_refl → apA, lt_or_ge → apE, zero_le → apG, add_zero → apJ
open Int renaming natCast_nonneg → apB
open Bool renaming and_eq_true → apL
set_option linter.unusedVariables false
namespace Go.Proofs.YtglmonlofejcgaaGreatDoor
namespace txt
open Go.RowKit Am loan bld
theorem UW (w : World) : Bld tB tU w.heap.size [] (w.alloc (.cells #[.pointer none, .slice none 0 0] tB)) := Lib.IsBuilderF.of (Lib.fresh_isBuilder tB tU w)
def rJ (l : List UInt8) (x : Int) (W : World) (e : Ending) (W' : World) : Prop := e = .returned (.tuple #[.string ⟨l.toArray⟩, .int .i64 x]) /\ Below W.heap.size W W'
def a5B (f : FuncId) (w : World) (v : Value) (x : Int) : Prop := ∀ w1, Below w.heap.size w w1 -> Calls Tryz.prog f #[v] w1 (bld.Ans w1 (.int .i64 x))
theorem a0G {w : World} {v : Value} {D : FnD} (h : aV w v D) (hL : Lim D) (hK : Cons w D) {n : Int} (h0 : 0 <= n) (h8 : n < 8) (hC : a5B 21 w v 0) : Calls Tryz.prog 9 #[v, .int .i64 n] w (rJ (textF D n) 0 w) := by
 have hW := fun (w1 : World) (b : Nat) (acc : List UInt8) (hb : w.heap.size <= b) (hb1 : Below w.heap.size w w1) (hB : Bld tB tU b acc w1) (ha : acc.length <= 100000000) => CY h hL hK hb hb1 hB ha (n := n) (by omega)
 have hT := kM hL n
 unfold a5B at hC
 rw [h.eq] at hC hW |-
 have b0 : Below w.heap.size w (w.alloc (.cells #[.int .i64 D.p, .bool D.u, D.lv, D.bv] tFn)) := (Below.refl _ _).alloc (apA _) _
 have B0 : (w.alloc (.cells #[.int .i64 D.p, .bool D.u, D.lv, D.bv] tFn)).heap[w.heap.size]? = some (.cells #[.int .i64 D.p, .bool D.u, D.lv, D.bv] tFn (0, 0)) := aX rfl
 have HC := Lib.hid hC
 have HW := Lib.hid hW
 have hd0 : ¬ n < 0 := by omega
 have hd1 : ¬ 8 <= n := by omega
 have hd : decide (n >= 8) = false := decide_eq_false hd1
 have HN := Lib.hid (And.intro h0 h8)
 clear hC hW h hL hK h0 h8
 go_enter Tryz.func9, Tryz.ntmps9
 go_upto_region 6 with (go_at_call 21; refine (HC.out _ b0).mono ?_; rintro e w1 ⟨rfl, b1⟩)
 have b01 := b0.trans (b1.mono b0.size)
 have B1 := (b1.block _ (apz.1 B0).1).trans B0
 have HB := Lib.hid (UW w1)
 have y0 : w1.cell? ⟨w.heap.size, 0, none⟩ = some (.int .i64 D.p) := by rw [cell_of_row w1 _ 0 _ tFn (0, 0) B1]; rfl
 have y1 : w1.cell? ⟨w.heap.size, 1, none⟩ = some (.bool D.u) := by rw [cell_of_row w1 _ 1 _ tFn (0, 0) B1]; rfl
 have y2 : w1.cell? ⟨w.heap.size, 2, none⟩ = some D.lv := by rw [cell_of_row w1 _ 2 _ tFn (0, 0) B1]; rfl
 have y3 : w1.cell? ⟨w.heap.size, 3, none⟩ = some D.bv := by rw [cell_of_row w1 _ 3 _ tFn (0, 0) B1]; rfl
 have hlt1 : w.heap.size < w1.heap.size := (apz.1 B1).1
 have HB01 := Lib.hid b01
 have HT := Lib.hid hT
 clear hd0 hd1 hd B0 b0 b1 b01 B1 hT
 go_wp2_with (first | (go_at_call 22; refine (HW.out _ _ _ HB01.out.size (HB01.out.alloc HB01.out.size _) HB.out (by simp)).mono ?_; rintro e w2 ⟨rfl, hb2, wr2⟩) | (go_at_call 23; refine (Tryz.Builder_String_any_k w1.heap.size w1.heap.size _ w2 hb2 (Nat.le_of_lt hb2.lt)).mono ?_; rintro e w3 ⟨rfl, _, b3, _⟩))
 go_ret2
 have b12 : Below w.heap.size w w2 := (HB01.out.alloc HB01.out.size _).trans (wr2.bel.mono HB01.out.size)
 exact ⟨by simp, b12.trans (b3.mono HB01.out.size)⟩
end txt
namespace Am
open Go.RowKit
theorem a0l : ([1, 2, 3, 5].all fun c => Nq mS1 87 c 0) = true := by kernel_rfl
theorem Yk : ((List.range 9).all fun n => Nq mS1 87 4 n) = true := by kernel_rfl
theorem alN {w : World} {v : Value} {pre : List Value} {sv : Value} {post : List Value} {els : List (List Value)} (kt : dL w) (hj : dO w v pre sv post els) (hok : okJ pre els post = true) :
  Calls Tryz.prog 87 #[v] w fun x w' => x = .returned (vS1 (kD pre els post)) /\ Below w.heap.size w w' := a3T hj Vj a0l Yk kt hok
end Am
namespace txt
open Go.RowKit Am loan bld
theorem oM {w : World} {b : bK} (h : jY w b) : dO w (.agg (b.pre ++ b.a :: b.post).toArray) b.pre b.a b.post b.ops :=
 ⟨rfl, h.EU, h.yu, ⟨h.opl.sl, h.opl.most, h.opl.at_, fun i el he => h.okd el (apv he), h.opl.cap⟩⟩
theorem gB {w0 w : World} (k : dL w0) (h : Below w0.heap.size w0 w) : dL w := k.all fun b hb => h.block b (Nat.lt_of_lt_of_le hb k.size)
theorem sW {w : World} {v : Value} {D : FnD} (h : aV w v D) (hc : check.jK D = 0) : Lim D := by
 have k := jW hc
 exact ⟨k.l0, k.b0, k.l1, k.b1, k.s, fun b hb => ani (oM (h.blk b hb)) (k.jm b hb)⟩
theorem Ju {w : World} {v : Value} {D : FnD} (h : aV w v D) (kt : dL w) (hc : check.jK D = 0) : Cons w D := by
 have k := jW hc
 refine ⟨fun n h0 h1 W hW => Po h0 h1 (gB kt hW), fun t ht W hW => alO (h.lkd t ht) (k.ty t ht) W, fun b hb s hs W hW => ?_, fun b hb W hW => ?_⟩
 ·exact a0Y _ ((h.blk b hb).skd s hs) (k.st b hb s hs) W (gB kt hW)
 ·exact amJ W _ _ _ _ _ (gB kt hW) (oM ((h.frz hW.block).blk b hb)) (k.jm b hb)
theorem Zc {w : World} {v : Value} {D : FnD} (h : aV w v D) : a5B 21 w v (check.jK D) := fun w1 hb => check.a6F (h.frz hb.block)
theorem aoq {w : World} {v : Value} {D : FnD} (h : aV w v D) : a5B 24 w v (check.jK D) := fun w1 hb => refC.a0E (h.frz hb.block)
end txt
namespace prg
open Go.RowKit Am loan bld txt
theorem aoC : (MB ((Lf.of (ivU 16)).lo 6 8) && MB ((Lf.of (ivU 16)).hi 6 (-1))) = true := by kernel_rfl
theorem a9Q {w : World} {v : Value} {pre : List Value} {sv : Value} {post : List Value} {els : List (List Value)} (hj : dO w v pre sv post els) (h : okJ pre els post = true) : 0 <= ah pre 6 /\ ah pre 6 <= 7 := by
 have hl := iF hj
 have lp := fH hj
 let us : List Value := aU pre els post ++ (lI pre els post).map (Value.int .i64)
 have hk : ak Kd.ok (kJ ++ [.i .i64, .i .i64, .i .i64]) us := (qj hj).app ⟨⟨_, rfl, by have := gI (els.all fun el => (aY 0).val el); show (-9223372036854775808 : Int) <= _; omega, by have := gI (els.all fun el => (aY 0).val el); show _ <= (9223372036854775807 : Int); omega⟩, ⟨_, rfl, by have := gI ((aY 1).val (aU pre els post)); show (-9223372036854775808 : Int) <= _; omega, by have := gI ((aY 1).val (aU pre els post)); show _ <= (9223372036854775807 : Int); omega⟩, ⟨_, rfl, by have := gI ((dS 10).val (aU pre els post)); show (-9223372036854775808 : Int) <= _; omega, by have := gI ((dS 10).val (aU pre els post)); show _ <= (9223372036854775807 : Int); omega⟩, trivial⟩
 have h0 : (Lf.of (ivU 16)).Holds (ah us) (fun _ => []) := Gw hk rfl
 have ea : ∀ i, i < 13 -> ah us i = ah (aU pre els post) i := fun i hi => jE (by omega)
 have ep : ∀ i, i < 9 -> ah us i = ah pre i := fun i hi => (ea i (by omega)).trans (by unfold aU; exact jE (by omega))
 have eb : ∀ j m, (lI pre els post)[j]? = some m -> ah us (13 + j) = m := fun j m hm => by
  show ah (aU pre els post ++ _) _ = _
  rw [kG hl]
  unfold ah
  rw [List.getElem?_map, hm]
  rfl
 have e14 : ah us 14 = b2i ((aY 1).val (aU pre els post)) := eb 1 _ rfl
 have e15 : ah us 15 = b2i ((dS 10).val (aU pre els post)) := eb 2 _ rfl
 have idr : ∀ e : E, e.ren (fun i => i) = e := fun e => by
  induction e with
  | lt i c => rfl
  | zero l => simp [E.ren]
  | and a b ha hb => rw [E.ren, ha, hb]
  | or a b ha hb => rw [E.ren, ha, hb]
  | not a ha => rw [E.ren, ha]
 have sm : ∀ e : E, e.bd 13 = true -> e.num (ah us) = e.val (aU pre els post) := fun e he => by
  rw [E.iR]
  have := E.jM (f := fun i => i) he ea
  rwa [idr] at this
 have sp : ∀ e : E, e.bd 9 = true -> e.num (ah us) = e.num (ah pre) := fun e he => by
  have := E.jM (f := fun i => i) he ep
  rwa [idr] at this
 have one : ∀ i c, (isE i c).num (ah us) = decide (ah us i = c) := fun i c => by show (decide _ && true) = _; rw [Bool.and_true]
 have hg : ∀ p ∈ jmG, p.1.num (ah us) = p.2 := fun p hp => by
  simp only [jmG, apI, apC, or_false] at hp
  rcases hp with rfl | rfl | rfl
  ·unfold okJ at h
   rw [E.iR] at h
   exact h
  ·refine tX ?_
   rw [one, e14, made.eG, sm _ rfl]
  ·refine tX ?_
   rw [one, e15, made.eG, sm _ rfl]
 have c6 := ep 6 (by decide)
 have r := aoC
 rw [apL] at r
 constructor
 ·apply Decidable.byContradiction; intro hc; exact cannot r.2 (h0.hi (i := 6) (c := -1) (by omega)) hg
 ·apply Decidable.byContradiction; intro hc; exact cannot r.1 (h0.lo (i := 6) (c := 8) (by omega)) hg
def Qe (t : List Value) : Bool := decide (ah t 0 = 1)
theorem a5s : D6.all (fun p => vY (.a (.s (.bool (decide (p.1 = 1))))) (ZG 50 p)) = true := by kernel_rfl
theorem am7 {t : List Value} (h : ak Kd.ok [.i .u8, .i .u8] t) (hk : ng t = true) (W : World) : Calls Tryz.prog 50 #[.agg t.toArray] W (bld.Ans W (.bool (Qe t))) := by
 obtain ⟨p, hp, rfl⟩ := uH h hk
 refine (GV W (apD.1 a5s p hp)).mono ?_
 rintro e w' ⟨u, rfl, ⟨r, hu⟩, hb⟩
 refine ⟨?_, hb⟩
 rw [show u = .bool (decide (p.1 = 1)) from hu]
 unfold Qe Uw ah bf
 simp
 omega
theorem J8 {w : World} {v : Value} {D : FnD} (h : aV w v D) (hc : check.jK D = 0) : ∀ b ∈ D.bs, ah b.pre 0 = 4 -> 0 <= ah b.pre 6 := fun b hb _ => (a9Q (txt.oM (h.blk b hb)) ((txt.jW hc).jm b hb)).1
def vF : List FnD -> Int
 | [] => 0
 | D :: Ds => if check.jK D = 0 then vF Ds else check.jK D
theorem Pm : ∀ {Ds : List FnD}, (∀ D ∈ Ds, check.jK D = 0) -> vF Ds = 0
 | [], _ => rfl
 | D :: Ds, h => by
  unfold vF
  rw [if_pos (h D List.mem_cons_self)]
  exact Pm fun x hx => h x (apH _ hx)
theorem Vd : ∀ {Ds : List FnD} {i : Nat} {D : FnD}, Ds[i]? = some D -> (∀ x ∈ Ds.take i, check.jK x = 0) -> check.jK D ≠ 0 -> vF Ds = check.jK D
 | [], _, _, h, _, _ => by simp at h
 | D :: Ds, 0, E, h, _, hn => by
  have h : D = E := by simpa using h
  subst h
  unfold vF
  rw [if_neg hn]
 | D :: Ds, i + 1, E, h, h0, hn => by
  unfold vF
  rw [if_pos (h0 D (by simp))]
  exact Vd (by simpa using h) (fun x hx => h0 x (by rw [List.take_succ_cons]; exact apH _ hx)) hn
def ql (Ds : List FnD) : Bool := (((Ds.getD 0 noF).ls.drop 1).take (Ds.getD 0 noF).p.toNat).all Qe
def vK (Ds : List FnD) : Bool := Ds.all fun D => D.bs.all (nD Ds)
def gJ (Ds : List FnD) : Int := if 8 < Ds.length then 4 else if Ds.length = 0 then 8 else if vF Ds = 0 then (if ql Ds && vK Ds then 0 else 8) else vF Ds
def jJ (Ds : List FnD) : Bool := decide (12 < Ds.length) || Ds.any great.CB
theorem a05 {w : World} {v fv : Value} {Ds : List FnD} (h : cu w v fv Ds) (hn : 12 < Ds.length) : Calls Tryz.prog 14 #[v] w (bld.Ans w (.bool true)) := by
 obtain ⟨A, c, e, _, hm, hr⟩ := h.rows
 rw [e]
 have hd : decide ((Ds.length : Int) > 12) = true := decide_eq_true (by omega)
 have b0 : Below w.heap.size w (w.alloc (.cells #[.slice A Ds.length c] tPr)) := (Below.refl _ _).alloc (apA _) _
 have HB := Lib.hid b0
 clear h hr e b0
 go_enter Tryz.func14, Tryz.ntmps14
 go_wp2_with fail
 go_ret
 exact ⟨rfl, HB.out⟩
theorem ahE {w : World} {v fv : Value} {Ds : List FnD} (h : cu w v fv Ds) (hn : Ds.length <= 12) : Calls Tryz.prog 14 #[v] w (bld.Ans w (.bool (Ds.any great.CB))) := by
 obtain ⟨A, c, e, _, hm, hr⟩ := h.rows
 have hnI : ¬ (12 : Int) < (Ds.length : Int) := by omega
 have hd : decide ((Ds.length : Int) > 12) = false := decide_eq_false hnI
 have HG := Lib.hid (fun (D : FnD) (hD : D ∈ Ds) (W : World) (hW : Below w.heap.size w W) => great.RV ((h.fn D hD).frz hW.block))
 rw [e]
 obtain ⟨w1, hw1⟩ : ∃ w1, w1 = w.alloc (.cells #[.slice A Ds.length c] tPr) := ⟨_, rfl⟩
 have b0 : Below w.heap.size w w1 := by rw [hw1]; exact (Below.refl _ _).alloc (apA _) _
 have p0 : w1.cell? ⟨w.heap.size, 0, none⟩ = some (.slice A Ds.length c) := by rw [hw1, cell_of_row _ w.heap.size 0 _ _ (0, 0) (aX rfl)]; rfl
 have l1 : w.heap.size < w1.heap.size := by rw [hw1]; simp
 have HB := Lib.hid b0
 have HR := Lib.hid hr
 have HP0 := Lib.hid p0
 clear h hr e b0
 go_enter Tryz.func14, Tryz.ntmps14
 go_upto_region 1 with fail
 rw [<- hw1]
 clear hw1
 go_wp2_with fail
 clear p0
 go_loopg [3] Ds.length (fun g s3 w8 => ∃ i : Nat, s3 = .int .i64 i /\ i <= Ds.length /\ g = Ds.length - i /\ (Ds.take i).any great.CB = false /\ Below w1.heap.size w1 w8)
 case atStart => exact ⟨0, rfl, apG _, rfl, rfl, Below.refl _ _⟩
 case round =>
  obtain ⟨i, rfl, hi, rfl, hno, hbel⟩ := hrel
  have h0I : (0 : Int) <= (i : Int) := apB _
  have p0 := (hbel.cell (p := ⟨w.heap.size, 0, none⟩) l1).trans HP0.out
  have HBL := Lib.hid hbel
  have HO := Lib.hid (HB.out.trans (hbel.mono HB.out.size))
  have HNO := Lib.hid hno
  clear hbel hno
  rcases apE i Ds.length with hlt | hge
  ·have hltI : (i : Int) < (Ds.length : Int) := by omega
   obtain ⟨D, hD⟩ : ∃ D, Ds[i]? = some D := ⟨_, apw hlt⟩
   obtain ⟨g, o, eA, hg, hc⟩ := iL (HR.out.below HO.out) hD
   subst eA
   have HC := Lib.hid hc
   have HD := Lib.hid hD
   have HGD := Lib.hid (HG.out D (apv hD) _ HO.out)
   clear hc hD
   cases ht : great.CB D with
   | true =>
    have HT := Lib.hid ht
    rw [ht] at HGD
    clear ht
    go_wp2_with (first | (refine wpList_load_mid rfl tFn _ rfl g (o + i * 4) rfl [.int .i64 D.p, .bool D.u, D.lv, D.bv] _ HC.out Tryz.underlying25 rfl fnR ?_) | (go_at_call 7; refine HGD.out.mono ?_; rintro e w2 ⟨rfl, b2⟩))
    go_ret
    exact ⟨by rw [Uz HD.out HT.out]; rfl, HO.out.trans (b2.mono HO.out.size)⟩
   | false =>
    have HT := Lib.hid ht
    rw [ht] at HGD
    clear ht
    go_wp2_with (first | (refine wpList_load_mid rfl tFn _ rfl g (o + i * 4) rfl [.int .i64 D.p, .bool D.u, D.lv, D.bv] _ HC.out Tryz.underlying25 rfl fnR ?_) | (go_at_call 7; refine HGD.out.mono ?_; rintro e w2 ⟨rfl, b2⟩))
    go_roundg (Ds.length - (i + 1))
    case measure => omega
    case rel => exact ⟨i + 1, by simp, by omega, rfl, (uN HD.out HNO.out).trans HT.out, HBL.out.trans (b2.mono HBL.out.size)⟩
  ·obtain rfl : i = Ds.length := by omega
   rw [apF] at HNO
   go_wp2_with fail
   go_ret
   exact ⟨by rw [HNO.out]; rfl, HO.out⟩
theorem qX {w : World} {v fv : Value} {Ds : List FnD} (h : cu w v fv Ds) : Calls Tryz.prog 14 #[v] w (bld.Ans w (.bool (jJ Ds))) := by
 unfold jJ
 by_cases hn : 12 < Ds.length
 ·rw [decide_eq_true hn]; exact a05 h hn
 ·rw [decide_eq_false hn]; exact ahE h (by omega)
theorem Gu {w : World} {v fv : Value} {Ds : List FnD} (h : cu w v fv Ds) (hn : 8 < Ds.length) : Calls Tryz.prog 17 #[v] w (bld.Ans w (.int .i64 4)) := by
 obtain ⟨A, c, e, _, hm, hr⟩ := h.rows
 rw [e]
 have hd : decide ((Ds.length : Int) > 8) = true := decide_eq_true (by omega)
 have b0 : Below w.heap.size w (w.alloc (.cells #[.slice A Ds.length c] tPr)) := (Below.refl _ _).alloc (apA _) _
 have HB := Lib.hid b0
 clear h hr e b0
 go_enter Tryz.func17, Tryz.ntmps17
 go_wp2_with fail
 go_ret
 exact ⟨rfl, HB.out⟩
theorem Hl {w : World} {v fv : Value} {Ds : List FnD} (h : cu w v fv Ds) (hn : Ds.length = 0) : Calls Tryz.prog 17 #[v] w (bld.Ans w (.int .i64 8)) := by
 obtain ⟨A, c, e, _, hm, hr⟩ := h.rows
 rw [e, hn]
 have b0 : Below w.heap.size w (w.alloc (.cells #[.slice A 0 c] tPr)) := (Below.refl _ _).alloc (apA _) _
 have HB := Lib.hid b0
 clear h hr e b0
 go_enter Tryz.func17, Tryz.ntmps17
 go_wp2_with fail
 go_ret
 exact ⟨rfl, HB.out⟩
theorem ZR {w : World} {v fv : Value} {Ds : List FnD} (h : cu w v fv Ds) (h0 : 0 < Ds.length) (h8 : Ds.length <= 8) : Calls Tryz.prog 17 #[v] w (bld.Ans w (.int .i64 (gJ Ds))) := by
 obtain ⟨A, c, e, _, hm, hr⟩ := h.rows
 have hP : gJ Ds = if vF Ds = 0 then (if ql Ds && vK Ds then 0 else 8) else vF Ds := by unfold gJ; rw [if_neg (by omega), if_neg (by omega)]
 have HPP := Lib.hid hP
 have hd8 : decide ((Ds.length : Int) > 8) = false := decide_eq_false (by omega)
 have h8n : ¬ (8 : Int) < (Ds.length : Int) := by omega
 have hne0 : ((Ds.length : Int) == 0) = false := by rw [beq_eq_false_iff_ne]; omega
 have HF := Lib.hid (fun (D : FnD) (hD : D ∈ Ds) (W : World) (hW : Below w.heap.size w W) => txt.aoq ((h.fn D hD).frz hW.block) W (Below.refl _ _))
 have HOK := Lib.hid h.fn
 rw [e]
 obtain ⟨w1, hw1⟩ : ∃ w1, w1 = w.alloc (.cells #[.slice A Ds.length c] tPr) := ⟨_, rfl⟩
 have b0 : Below w.heap.size w w1 := by rw [hw1]; exact (Below.refl _ _).alloc (apA _) _
 have P0 : w1.heap[w.heap.size]? = some (.cells #[.slice A Ds.length c] tPr (0, 0)) := by rw [hw1]; exact aX rfl
 have p0 : w1.cell? ⟨w.heap.size, 0, none⟩ = some (.slice A Ds.length c) := by rw [cell_of_row _ w.heap.size 0 _ _ (0, 0) P0]; rfl
 have l1 : w.heap.size < w1.heap.size := by rw [hw1]; simp
 have HB := Lib.hid b0
 have HR := Lib.hid hr
 have HP0 := Lib.hid P0
 clear h hr e b0 hP P0
 go_enter Tryz.func17, Tryz.ntmps17
 go_upto_region 1 with fail
 rw [<- hw1]
 clear hw1
 go_wp2_with fail
 clear p0
 go_loopg [3] Ds.length (fun g s3 w8 => ∃ i : Nat, s3 = .int .i64 i /\ i <= Ds.length /\ g = Ds.length - i /\ (∀ D ∈ Ds.take i, check.jK D = 0) /\ Below w1.heap.size w1 w8)
 case atStart => exact ⟨0, rfl, apG _, rfl, (by simp), Below.refl _ _⟩
 case round =>
  obtain ⟨i, rfl, hi, rfl, hno, hbel⟩ := hrel
  have h0I : (0 : Int) <= (i : Int) := apB _
  have p0 := (hbel.block _ l1).trans HP0.out
  have q0 : wr.cell? ⟨w.heap.size, 0, none⟩ = some (.slice A Ds.length c) := by rw [cell_of_row _ w.heap.size 0 _ _ (0, 0) p0]; rfl
  have HBL := Lib.hid hbel
  have HO := Lib.hid (HB.out.trans (hbel.mono HB.out.size))
  have HNO := Lib.hid hno
  have HP := Lib.hid p0
  clear hbel hno p0
  rcases apE i Ds.length with hlt | hge
  ·have hltI : (i : Int) < (Ds.length : Int) := by omega
   obtain ⟨D, hD⟩ : ∃ D, Ds[i]? = some D := ⟨_, apw hlt⟩
   obtain ⟨g, o, eA, hg, hc⟩ := iL (HR.out.below HO.out) hD
   subst eA
   have HC := Lib.hid hc
   have HD := Lib.hid hD
   have hDm := apv hD
   have HCK := Lib.hid (HF.out D hDm)
   clear hc hD
   by_cases hz : check.jK D = 0
   ·have HZ := Lib.hid hz
    rw [hz] at HCK
    clear hz
    go_wp2_with (first | (refine wpList_load_mid rfl tFn _ rfl g (o + i * 4) rfl [.int .i64 D.p, .bool D.u, D.lv, D.bv] _ HC.out Tryz.underlying25 rfl fnR ?_) | (go_at_call 24; refine (HCK.out _ HO.out).mono ?_; rintro e w2 ⟨rfl, b2⟩))
    go_roundg (Ds.length - (i + 1))
    case measure => omega
    case rel => exact ⟨i + 1, by simp, by omega, rfl, take_one HD.out HNO.out HZ.out, HBL.out.trans (b2.mono HBL.out.size)⟩
   ·have hb := Vd HD.out HNO.out hz
    have hz' : (check.jK D != 0) = true := by simpa using hz
    have HV := Lib.hid (show gJ Ds = check.jK D from by rw [HPP.out, hb, if_neg hz])
    clear hb
    go_upto_region 9 with (first | (refine wpList_load_mid rfl tFn _ rfl g (o + i * 4) rfl [.int .i64 D.p, .bool D.u, D.lv, D.bv] _ HC.out Tryz.underlying25 rfl fnR ?_) | (go_at_call 24; refine (HCK.out _ HO.out).mono ?_; rintro e w2 ⟨rfl, b2⟩))
    have hP2 := (b2.block _ (apz.1 HP.out).1).trans HP.out
    have q2 : w2.cell? ⟨w.heap.size, 0, none⟩ = some (.slice (some ⟨g, o, none⟩) Ds.length c) := by rw [cell_of_row _ w.heap.size 0 _ _ (0, 0) hP2]; rfl
    have HO2 := Lib.hid (HO.out.trans (b2.mono HO.out.size))
    have HC2 := Lib.hid (txt.dX HC.out hg b2)
    clear q0 hP2 b2
    go_wp2_with (first | (refine wpList_load_mid rfl tFn _ rfl g (o + i * 4) rfl [.int .i64 D.p, .bool D.u, D.lv, D.bv] _ HC2.out Tryz.underlying25 rfl fnR ?_) | (go_at_call 24; refine (HCK.out _ HO2.out).mono ?_; rintro e w3 ⟨rfl, b3⟩))
    go_ret
    exact ⟨by rw [HV.out]; rfl, HO2.out.trans (b3.mono HO2.out.size)⟩
  ·obtain rfl : i = Ds.length := by omega
   have hall := HNO.out
   rw [apF] at hall
   have HV := Lib.hid (show gJ Ds = if ql Ds && vK Ds then 0 else 8 from by rw [HPP.out, Pm hall, if_pos rfl])
   have HALL := Lib.hid hall
   clear hall HNO
   go_wp2_with fail
   clear q0
   go_loopg [4] Ds.length (fun g s4 w8 => ∃ i : Nat, s4 = .int .i64 i /\ i <= Ds.length /\ g = Ds.length - i /\ (∀ D ∈ Ds.take i, D.bs.all (nD Ds) = true) /\ Below w1.heap.size w1 w8)
   case atStart => exact ⟨0, rfl, apG _, rfl, (by simp), HBL.out⟩
   case round =>
    clear HBL HO HP
    obtain ⟨i, rfl, hi2, rfl, hno, hbel⟩ := hrel
    have h0I2 : (0 : Int) <= (i : Int) := apB _
    have p0 := (hbel.block _ l1).trans HP0.out
    have q0 : wr.cell? ⟨w.heap.size, 0, none⟩ = some (.slice A Ds.length c) := by rw [cell_of_row _ w.heap.size 0 _ _ (0, 0) p0]; rfl
    have HBL := Lib.hid hbel
    have HO := Lib.hid (HB.out.trans (hbel.mono HB.out.size))
    have HNO := Lib.hid hno
    have HP := Lib.hid p0
    clear hbel hno p0
    rcases apE i Ds.length with hlt | hge2
    ·have hltI : (i : Int) < (Ds.length : Int) := by omega
     obtain ⟨D, hD⟩ : ∃ D, Ds[i]? = some D := ⟨_, apw hlt⟩
     obtain ⟨g, o, eA, hg, hc⟩ := iL (HR.out.below HO.out) hD
     subst eA
     have hDm := apv hD
     have hDk := (HOK.out D hDm).frz (HO.out.drew).block
     have hcl := agN (c := c) hDk (by have := (txt.jW (HALL.out D hDm)).b1; exact this) (J8 hDk (HALL.out D hDm)) (HR.out.below HO.out.drew) h8
     have f0 := hc 0 _ rfl
     have f1 := hc 1 _ rfl
     have f2 := hc 2 _ rfl
     have f3 := hc 3 _ rfl
     simp only [apJ] at f0
     have HD := Lib.hid hD
     have HCL := Lib.hid hcl
     have hlw : w.heap.size < wr.heap.size := (apz.1 HP.out).1
     clear hc hD hDk hcl
     cases hq : D.bs.all (nD Ds) with
     | true =>
      have HQ := Lib.hid hq
      rw [hq] at HCL
      clear hq
      go_upto_region 13 with fail
      refine bZ [⟨w.heap.size, 0, none⟩, ⟨g, o + i * 4, none⟩, ⟨g, o + i * 4 + 1, none⟩, ⟨g, o + i * 4 + 2, none⟩, ⟨g, o + i * 4 + 3, none⟩] [(0, true), (1, true), (2, true), (3, true), (4, true), (5, true), (6, false), (7, true)] (by kernel_rfl) (by kernel_rfl) (by decide) (by kernel_rfl) (fun _ _ _ _ _ h => h) ?_
      have q0 : wr.drew.cell? ⟨w.heap.size, 0, none⟩ = _ := q0
      have f0 : wr.drew.cell? ⟨g, o + i * 4, none⟩ = _ := f0
      have f1 : wr.drew.cell? ⟨g, o + i * 4 + 1, none⟩ = _ := f1
      have f2 : wr.drew.cell? ⟨g, o + i * 4 + 2, none⟩ = _ := f2
      have f3 : wr.drew.cell? ⟨g, o + i * 4 + 3, none⟩ = _ := f3
      iterate 6 (refine SeqC.take (v := ?_) rfl (by rfl) (fun W hW => ?_) ?_; rotate_left; (focus (have zq := hW.get (by simp) q0; have z0 := hW.get (by simp) f0; have z1 := hW.get (by simp) f1; have z2 := hW.get (by simp) f2; have z3 := hW.get (by simp) f3; go_simp; with_reducible rfl)); simp only [Act.put, apu, apx, apy])
      refine SeqC.call (f := ?_) (args := ?_) rfl (by rfl) ?_ ?_
      rotate_left 2
      ·(go_simp; first | with_reducible rfl | (refine ⟨?_, ?_⟩ <;> with_reducible rfl))
      refine HCL.out.mono ?_
      rintro e w2 ⟨rfl, b2⟩
      refine ⟨_, rfl, Cells.lX b2 (by intro p hp; simp only [apI, apC, or_false] at hp; rcases hp with rfl | rfl | rfl | rfl | rfl <;> first | exact hlw | exact hg), ?_⟩
      simp only [Act.put, apu, apx, apy]
      refine SeqC.take (v := ?_) rfl (by rfl) (fun W hW => ?_) ?_; rotate_left; (focus (go_simp; with_reducible rfl)); simp only [Act.put, apu, apx, apy]
      refine SeqC.done ?_
      clear q0 f0 f1 f2 f3
      go_wp2_with fail
      go_roundg (Ds.length - (i + 1))
      case measure => omega
      case rel => exact ⟨i + 1, by simp, by omega, rfl, take_one HD.out HNO.out HQ.out, HBL.out.trans (((Below.refl _ _).drew.trans b2).mono HBL.out.size)⟩
     | false =>
      have HQ := Lib.hid (show vK Ds = false from JO HD.out hq)
      rw [hq] at HCL
      clear hq
      go_upto_region 13 with fail
      refine bZ [⟨w.heap.size, 0, none⟩, ⟨g, o + i * 4, none⟩, ⟨g, o + i * 4 + 1, none⟩, ⟨g, o + i * 4 + 2, none⟩, ⟨g, o + i * 4 + 3, none⟩] [(0, true), (1, true), (2, true), (3, true), (4, true), (5, true), (6, false), (7, true)] (by kernel_rfl) (by kernel_rfl) (by decide) (by kernel_rfl) (fun _ _ _ _ _ h => h) ?_
      have q0 : wr.drew.cell? ⟨w.heap.size, 0, none⟩ = _ := q0
      have f0 : wr.drew.cell? ⟨g, o + i * 4, none⟩ = _ := f0
      have f1 : wr.drew.cell? ⟨g, o + i * 4 + 1, none⟩ = _ := f1
      have f2 : wr.drew.cell? ⟨g, o + i * 4 + 2, none⟩ = _ := f2
      have f3 : wr.drew.cell? ⟨g, o + i * 4 + 3, none⟩ = _ := f3
      iterate 6 (refine SeqC.take (v := ?_) rfl (by rfl) (fun W hW => ?_) ?_; rotate_left; (focus (have zq := hW.get (by simp) q0; have z0 := hW.get (by simp) f0; have z1 := hW.get (by simp) f1; have z2 := hW.get (by simp) f2; have z3 := hW.get (by simp) f3; go_simp; with_reducible rfl)); simp only [Act.put, apu, apx, apy])
      refine SeqC.call (f := ?_) (args := ?_) rfl (by rfl) ?_ ?_
      rotate_left 2
      ·(go_simp; first | with_reducible rfl | (refine ⟨?_, ?_⟩ <;> with_reducible rfl))
      refine HCL.out.mono ?_
      rintro e w2 ⟨rfl, b2⟩
      refine ⟨_, rfl, Cells.lX b2 (by intro p hp; simp only [apI, apC, or_false] at hp; rcases hp with rfl | rfl | rfl | rfl | rfl <;> first | exact hlw | exact hg), ?_⟩
      simp only [Act.put, apu, apx, apy]
      refine SeqC.take (v := ?_) rfl (by rfl) (fun W hW => ?_) ?_; rotate_left; (focus (go_simp; with_reducible rfl)); simp only [Act.put, apu, apx, apy]
      refine SeqC.done ?_
      clear q0 f0 f1 f2 f3
      go_wp2_with fail
      go_ret
      exact ⟨by rw [HV.out, HQ.out, Bool.and_false]; rfl, HO.out.trans (((Below.refl _ _).drew.trans b2).mono HO.out.size)⟩
    ·obtain rfl : i = Ds.length := by omega
     have hq := HNO.out
     rw [apF] at hq
     have hcp : vK Ds = true := apD.2 hq
     have hv2 := HV.out
     rw [hcp, Bool.and_true] at hv2
     obtain ⟨D, hD⟩ : ∃ D, Ds[0]? = some D := ⟨_, apw h0⟩
     have hDm := apv hD
     have hgd : Ds.getD 0 noF = D := by rw [List.getD_eq_getElem?_getD, hD]; rfl
     have hDk := HOK.out D hDm
     have k := txt.jW (HALL.out D hDm)
     have hp0 := k.p.1
     have hp8 := k.p.2
     obtain ⟨hlt0, hlt1⟩ : D.p < D.ls.length /\ 0 < D.ls.length := by
      have := (size.ZE (HALL.out D hDm)).2.1
      unfold made.kV head.mM head.guard at this
      simp only [apL, decide_eq_true_eq] at this
      exact ⟨this.1.1.2.2.2, this.1.1.1⟩
     obtain ⟨Al, cl, el, hml, hrl⟩ := cZ.rows hDk.locals (by decide)
     obtain ⟨gl, ol, rfl, hgl, hrl⟩ := txt.nY hrl hlt1
     obtain ⟨A2, c2, eb, hmb, hrb⟩ := aV.blks hDk
     obtain ⟨pn, hpn⟩ : ∃ pn : Nat, D.p = (pn : Int) := ⟨D.p.toNat, by omega⟩
     obtain ⟨g, o, eA, hg, hc⟩ := iL (HR.out.below HO.out) hD
     subst eA
     rw [el, eb, hpn] at hc
     simp only [Nat.zero_mul, apJ] at hc
     have hib : ql Ds = ((D.ls.drop 1).take pn).all Qe := by unfold ql; rw [hgd, hpn]; rfl
     rw [hib] at hv2
     have HV2 := Lib.hid hv2
     clear hv2
     obtain ⟨wv, hwv⟩ : ∃ wv, wv = wr.alloc (.cells #[.int .i64 pn, .bool D.u, .slice (some ⟨gl, ol, none⟩) D.ls.length cl, .slice A2 D.bs.length c2] tFn) := ⟨_, rfl⟩
     have bv : Below wr.heap.size wr wv := by rw [hwv]; exact (Below.refl _ _).alloc (apA _) _
     have BV : Box wv wr.heap.size tFn (.int .i64 pn) (.bool D.u) (.slice (some ⟨gl, ol, none⟩) D.ls.length cl) (.slice A2 D.bs.length c2) := by rw [hwv]; exact Box.mk rfl
     have HC := Lib.hid hc
     have HOV := Lib.hid (HO.out.trans (bv.mono HO.out.size))
     have HBV := Lib.hid BV
     have HKD := Lib.hid hDk.lkd
     have HTY := Lib.hid k.ty
     have HRL := Lib.hid hrl
     clear hc hq hcp hgd hib hDk k el eb hrb HBL HO HNO HP bv BV hD hmb hml hrl HF HOK HR
     go_upto_region 16 with (refine wpList_load_mid rfl tFn _ rfl g o rfl [.int .i64 pn, .bool D.u, .slice (some ⟨gl, ol, none⟩) D.ls.length cl, .slice A2 D.bs.length c2] _ HC.out Tryz.underlying25 rfl fnR ?_)
     rw [<- hwv]
     clear hwv q0
     generalize wr.heap.size = Q at *
     go_wp2_with fail
     go_loopg [6] pn (fun g s6 w8 => ∃ j : Nat, s6 = .int .i64 ((j : Int) + 1) /\ j <= pn /\ g = pn - j /\ (∀ t ∈ (D.ls.drop 1).take j, Qe t = true) /\ w8 = wv)
     case atStart => exact ⟨0, rfl, apG _, rfl, (by simp), rfl⟩
     case round =>
      obtain ⟨j, rfl, hj, rfl, hno, rfl⟩ := hrel
      have h0J : (0 : Int) <= (j : Int) := apB _
      obtain ⟨y0, y1, y2, y3⟩ := HBV.out.cells
      have HNO := Lib.hid hno
      clear hno
      rcases apE j pn with hjl | hjg
      ·have hjI : (j : Int) + 1 <= (pn : Int) := by omega
       have hjL : (j : Int) + 1 < (D.ls.length : Int) := by omega
       obtain ⟨t, ht⟩ : ∃ t, D.ls[j + 1]? = some t := ⟨_, apw (by omega)⟩
       obtain ⟨x, y, rfl⟩ : ∃ x y : Int, t = [.int .u8 x, .int .u8 y] := by
        obtain ⟨v0, l0, q0, ⟨x0, rfl, _⟩, k0⟩ := aI (HKD.out t (apv ht))
        obtain ⟨v1, l1, rfl, ⟨x1, rfl, _⟩, k1⟩ := aI k0
        obtain rfl := mD k1
        exact ⟨x0, x1, q0⟩
       have t0 := (txt.dX (HRL.out (j + 1) _ ht) hgl HOV.out) 0 _ rfl
       simp only [apJ] at t0
       have hat : ((D.ls.drop 1).take pn)[j]? = some [.int .u8 x, .int .u8 y] := by rw [List.getElem?_take, if_pos hjl, apK, Nat.add_comm]; exact ht
       have hat1 : (D.ls.drop 1)[j]? = some [.int .u8 x, .int .u8 y] := by rw [apK, Nat.add_comm]; exact ht
       have hit : Qe [.int .u8 x, .int .u8 y] = decide (x = 1) := rfl
       have HAT := Lib.hid hat
       have HAT1 := Lib.hid hat1
       clear ht hat hat1
       by_cases hx : x = 1
       ·subst hx
        go_wp2_with fail
        go_roundg (pn - (j + 1))
        case measure => omega
        case rel => exact ⟨j + 1, by simp, by omega, rfl, take_one HAT1.out HNO.out hit, rfl⟩
       ·have hxn : (x != 1) = true := by simpa using hx
        have HIT := Lib.hid (hit.trans (decide_eq_false hx))
        clear hit
        go_wp2_with fail
        go_ret
        exact ⟨by rw [HV2.out, JO HAT.out HIT.out]; rfl, HOV.out⟩
      ·obtain rfl : j = pn := by omega
       have hle : ¬ ((j : Int) + 1 <= (j : Int)) := by omega
       have HA := Lib.hid (show ((D.ls.drop 1).take j).all Qe = true from apD.2 HNO.out)
       go_wp2_with fail
       go_ret
       exact ⟨by rw [HV2.out, HA.out]; rfl, HOV.out⟩
end prg
end Go.Proofs.YtglmonlofejcgaaGreatDoor
