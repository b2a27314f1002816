/- slices.IndexFunc, slices.ContainsFunc and program.all, at types, functions and blocks, by what the asked function answers. -/
import Derived.Test.YtglmonlofejcgaaGreatDoorTextX
set_option maxHeartbeats 4000000
set_option maxRecDepth 100000
open List renaming mem_of_getElem? → apu, getElem?_eq_getElem → apv, not_any_eq_all_not → apw, getElem?_map → apA, take_length → apB
open Nat renaming le_refl → apx, lt_of_lt_of_le → apz, lt_or_ge → apC, zero_add → apD, zero_le → apE
open Int renaming natCast_nonneg → apy
set_option linter.unusedVariables false
namespace Go.Proofs.YtglmonlofejcgaaGreatDoor
namespace prg
open Go.RowKit Am loan bld
abbrev tTy : TypeId := 73
abbrev tFn : TypeId := 25
abbrev tBk : TypeId := 60
theorem tyR : (Tryz.prog.info? 73).map (·.size) = some 2 := by kernel_rfl
theorem fnR : (Tryz.prog.info? 25).map (·.size) = some 4 := by kernel_rfl
theorem bkR : (Tryz.prog.info? 60).map (·.size) = some 14 := by kernel_rfl
def an2 (t : Bool) (W : World) (e : Ending) (W' : World) : Prop := ∃ r : Int, e = .returned (.int .i64 r) /\ decide (r >= 0) = t /\ Below W.heap.size W W'
theorem uN {α : Type} {l : List α} {t : α -> Bool} {i : Nat} {x : α} (h : l[i]? = some x) (h0 : (l.take i).any t = false) : (l.take (i + 1)).any t = t x := by
 rw [List.take_add_one, h, List.any_append, h0]
 simp
theorem Uz {α : Type} {l : List α} {t : α -> Bool} {i : Nat} {x : α} (h : l[i]? = some x) (ht : t x = true) : l.any t = true := List.any_eq_true.2 ⟨x, apu h, ht⟩
theorem anA : ∀ {el : List Value}, el.length = 2 -> ∃ x0 x1, el = [x0, x1]
 | [x0, x1], _ => ⟨x0, x1, rfl⟩
theorem a7p {w : World} {A : Option Addr} {c X : Nat} {α : Type} {xs : List α} {f : α -> List Value} {t : α -> Bool} (hr : gY w A 2 (xs.map f)) (hn : xs.length <= 1000) (hl : ∀ x ∈ xs, (f x).length = 2)
  (hP : ∀ x ∈ xs, ∀ W, Below w.heap.size w W -> Calls Tryz.prog 89 #[.agg (f x).toArray, .pointer (some ⟨X, 0, none⟩)] W (bld.Ans W (.bool (t x)))) :
  Calls Tryz.prog 118 #[.slice A xs.length c, .func (.func 89) #[] #[.pointer (some ⟨X, 0, none⟩)]] w (an2 (xs.any t) w) := by
 have HR := Lib.hid hr
 have HP := Lib.hid hP
 have HL := Lib.hid hl
 clear hr hP hl
 go_enter Tryz.func118, Tryz.ntmps118
 go_wp2_with fail
 go_loopg [8] xs.length (fun g s8 w8 => ∃ i : Nat, s8 = .int .i64 i /\ i <= xs.length /\ g = xs.length - i /\ (xs.take i).any t = false /\ Below w.heap.size w w8)
 case atStart => exact ⟨0, rfl, apE _, rfl, rfl, Below.refl _ _⟩
 case round =>
  obtain ⟨i, rfl, hi, rfl, hno, hbel⟩ := hrel
  have h0I : (0 : Int) <= (i : Int) := apy _
  have HB := Lib.hid hbel
  have HNO := Lib.hid hno
  clear hbel hno
  rcases apC i xs.length with hlt | hge
  ·have hltI : (i : Int) < (xs.length : Int) := by omega
   obtain ⟨x, hel⟩ : ∃ x, xs[i]? = some x := ⟨_, apv hlt⟩
   have hlen := HL.out x (apu hel)
   obtain ⟨g, o, eA, hg, hc⟩ := (HR.out.below HB.out) i (f x) (by rw [apA, hel]; rfl)
   subst eA
   have HC := Lib.hid hc
   have HE := Lib.hid hel
   have HPE := Lib.hid (HP.out x (apu hel))
   clear hc hel
   cases ht : t x with
   | true =>
    have HT := Lib.hid ht
    rw [ht] at HPE
    clear ht
    go_wp2_with (first | (refine wpList_load_mid rfl tTy _ rfl g (o + i * 2) rfl (f x) _ HC.out Tryz.underlying73 rfl (by rw [hlen]; exact tyR) ?_) | (go_at_call 89; refine (HPE.out _ HB.out).mono ?_; rintro e w2 ⟨rfl, b2⟩))
    go_ret
    exact ⟨(i : Int), rfl, by rw [Uz HE.out HT.out]; exact decide_eq_true (by omega), HB.out.trans (b2.mono HB.out.size)⟩
   | false =>
    have HT := Lib.hid ht
    rw [ht] at HPE
    clear ht
    go_wp2_with (first | (refine wpList_load_mid rfl tTy _ rfl g (o + i * 2) rfl (f x) _ HC.out Tryz.underlying73 rfl (by rw [hlen]; exact tyR) ?_) | (go_at_call 89; refine (HPE.out _ HB.out).mono ?_; rintro e w2 ⟨rfl, b2⟩))
    go_roundg (xs.length - (i + 1))
    case measure => omega
    case rel => exact ⟨i + 1, by simp, by omega, rfl, (uN HE.out HNO.out).trans HT.out, HB.out.trans (b2.mono HB.out.size)⟩
  ·obtain rfl : i = xs.length := by omega
   rw [apB] at HNO
   go_wp2_with fail
   go_ret
   exact ⟨-1, rfl, by rw [HNO.out]; rfl, HB.out⟩
theorem aoL {w : World} {A : Option Addr} {c X : Nat} {α : Type} {xs : List α} {f : α -> List Value} {t : α -> Bool} (hr : gY w A 2 (xs.map f)) (hn : xs.length <= 1000) (hl : ∀ x ∈ xs, (f x).length = 2)
  (hP : ∀ x ∈ xs, ∀ W, Below w.heap.size w W -> Calls Tryz.prog 89 #[.agg (f x).toArray, .pointer (some ⟨X, 0, none⟩)] W (bld.Ans W (.bool (t x)))) :
  Calls Tryz.prog 88 #[.slice A xs.length c, .func (.func 89) #[] #[.pointer (some ⟨X, 0, none⟩)]] w (bld.Ans w (.bool (xs.any t))) := by
 have H := Lib.hid (a7p (c := c) hr hn hl hP)
 clear hr hn hl hP
 generalize xs.any t = b at *
 go_enter Tryz.func88, Tryz.ntmps88
 go_wp2_with (go_at_call 118; refine H.out.mono ?_; rintro e w1 ⟨r, rfl, rfl, b1⟩)
 go_ret
 exact ⟨rfl, b1⟩
theorem ap4 {w : World} {X : Nat} {el : List Value} {b : Bool} (hlen : el.length = 2) (h1 : ∀ u ∈ el, u.oneCell' = true) (hX : w.cell? ⟨X, 0, none⟩ = some (.func (.func 50) #[] #[])) (hlt : X < w.heap.size)
  (hP : ∀ W, Below w.heap.size w W -> Calls Tryz.prog 50 #[.agg el.toArray] W (bld.Ans W (.bool b))) :
  Calls Tryz.prog 89 #[.agg el.toArray, .pointer (some ⟨X, 0, none⟩)] w (bld.Ans w (.bool (!b))) := by
 obtain ⟨x0, x1, rfl⟩ := anA hlen
 have HP := Lib.hid hP
 have b0 : Below w.heap.size w (w.alloc (.cells #[x0, x1] tTy)) := (Below.refl _ _).alloc (apx _) _
 have c0 := (b0.cell (p := ⟨X, 0, none⟩) hlt).trans hX
 have hr : (w.alloc (.cells #[x0, x1] tTy)).rangeAt w.heap.size 0 [x0, x1] := fun j u hj => by
  rw [apD, cell_of_row _ w.heap.size j _ tTy (0, 0) (aX rfl)]
  simpa using hj
 have HR := Lib.hid hr
 have HB := Lib.hid b0
 clear hP hX hr b0 h1
 go_enter Tryz.func89, Tryz.ntmps89
 go_wp2_with (first | (refine wpList_load_mid rfl tTy _ rfl w.heap.size 0 rfl [x0, x1] _ HR.out Tryz.underlying73 rfl tyR ?_) | (go_at_call 50; refine (HP.out _ HB.out).mono ?_; rintro e w2 ⟨rfl, b2⟩))
 go_ret
 exact ⟨rfl, HB.out.trans (b2.mono HB.out.size)⟩
theorem allT {w : World} {A : Option Addr} {c : Nat} {α : Type} {xs : List α} {f : α -> List Value} {t : α -> Bool} (hr : gY w A 2 (xs.map f)) (hn : xs.length <= 1000) (hl : ∀ x ∈ xs, (f x).length = 2 /\ ∀ u ∈ f x, u.oneCell' = true)
  (hP : ∀ x ∈ xs, ∀ W, Below w.heap.size w W -> Calls Tryz.prog 50 #[.agg (f x).toArray] W (bld.Ans W (.bool (t x)))) :
  Calls Tryz.prog 49 #[.slice A xs.length c, .func (.func 50) #[] #[]] w (bld.Ans w (.bool (xs.all t))) := by
 obtain ⟨w1, hw1⟩ : ∃ w1, w1 = w.alloc (.cells #[.func (.func 50) #[] #[]] 102) := ⟨_, rfl⟩
 have b1 : Below w.heap.size w w1 := by rw [hw1]; exact (Below.refl _ _).alloc (apx _) _
 have c1 : w1.cell? ⟨w.heap.size, 0, none⟩ = some (.func (.func 50) #[] #[]) := by rw [hw1, cell_of_row _ w.heap.size 0 _ _ (0, 0) (aX rfl)]; rfl
 have l1 : w.heap.size < w1.heap.size := by rw [hw1]; simp
 have H := Lib.hid (aoL (c := c) (X := w.heap.size) (t := fun x => !t x) (hr.below b1) hn (fun el he => (hl el he).1) (fun el he W hW => ap4 (hl el he).1 (hl el he).2 ((hW.cell (p := ⟨w.heap.size, 0, none⟩) l1).trans c1) (apz l1 hW.size) (fun W2 hW2 => hP el he W2 ((b1.trans (hW.mono b1.size)).trans (hW2.mono ((b1.trans (hW.mono b1.size)).size))))))
 have HB := Lib.hid b1
 have he : (!xs.any fun x => !t x) = xs.all t := by rw [apw]; simp
 have HE := Lib.hid he
 clear hr hP hl b1 c1 l1 he
 go_enter Tryz.func49, Tryz.ntmps49
 go_upto_region 1 with fail
 rw [<- hw1]
 clear hw1
 go_wp2_with (go_at_call 88; refine H.out.mono ?_; rintro e w2 ⟨rfl, b2⟩)
 go_ret
 exact ⟨by rw [<- HE.out]; rfl, HB.out.trans (b2.mono HB.out.size)⟩
theorem anH : ∀ {el : List Value}, el.length = 4 -> ∃ x0 x1 x2 x3, el = [x0, x1, x2, x3]
 | [x0, x1, x2, x3], _ => ⟨x0, x1, x2, x3, rfl⟩
theorem aoY {w : World} {A : Option Addr} {c X : Nat} {α : Type} {xs : List α} {f : α -> List Value} {t : α -> Bool} (hr : gY w A 4 (xs.map f)) (hn : xs.length <= 1000) (hl : ∀ x ∈ xs, (f x).length = 4)
  (hP : ∀ x ∈ xs, ∀ W, Below w.heap.size w W -> Calls Tryz.prog 91 #[.agg (f x).toArray, .pointer (some ⟨X, 0, none⟩)] W (bld.Ans W (.bool (t x)))) :
  Calls Tryz.prog 119 #[.slice A xs.length c, .func (.func 91) #[] #[.pointer (some ⟨X, 0, none⟩)]] w (an2 (xs.any t) w) := by
 have HR := Lib.hid hr
 have HP := Lib.hid hP
 have HL := Lib.hid hl
 clear hr hP hl
 go_enter Tryz.func119, Tryz.ntmps119
 go_wp2_with fail
 go_loopg [8] xs.length (fun g s8 w8 => ∃ i : Nat, s8 = .int .i64 i /\ i <= xs.length /\ g = xs.length - i /\ (xs.take i).any t = false /\ Below w.heap.size w w8)
 case atStart => exact ⟨0, rfl, apE _, rfl, rfl, Below.refl _ _⟩
 case round =>
  obtain ⟨i, rfl, hi, rfl, hno, hbel⟩ := hrel
  have h0I : (0 : Int) <= (i : Int) := apy _
  have HB := Lib.hid hbel
  have HNO := Lib.hid hno
  clear hbel hno
  rcases apC i xs.length with hlt | hge
  ·have hltI : (i : Int) < (xs.length : Int) := by omega
   obtain ⟨x, hel⟩ : ∃ x, xs[i]? = some x := ⟨_, apv hlt⟩
   have hlen := HL.out x (apu hel)
   obtain ⟨g, o, eA, hg, hc⟩ := (HR.out.below HB.out) i (f x) (by rw [apA, hel]; rfl)
   subst eA
   have HC := Lib.hid hc
   have HE := Lib.hid hel
   have HPE := Lib.hid (HP.out x (apu hel))
   clear hc hel
   cases ht : t x with
   | true =>
    have HT := Lib.hid ht
    rw [ht] at HPE
    clear ht
    go_wp2_with (first | (refine wpList_load_mid rfl tFn _ rfl g (o + i * 4) rfl (f x) _ HC.out Tryz.underlying25 rfl (by rw [hlen]; exact fnR) ?_) | (go_at_call 91; refine (HPE.out _ HB.out).mono ?_; rintro e w2 ⟨rfl, b2⟩))
    go_ret
    exact ⟨(i : Int), rfl, by rw [Uz HE.out HT.out]; exact decide_eq_true (by omega), HB.out.trans (b2.mono HB.out.size)⟩
   | false =>
    have HT := Lib.hid ht
    rw [ht] at HPE
    clear ht
    go_wp2_with (first | (refine wpList_load_mid rfl tFn _ rfl g (o + i * 4) rfl (f x) _ HC.out Tryz.underlying25 rfl (by rw [hlen]; exact fnR) ?_) | (go_at_call 91; refine (HPE.out _ HB.out).mono ?_; rintro e w2 ⟨rfl, b2⟩))
    go_roundg (xs.length - (i + 1))
    case measure => omega
    case rel => exact ⟨i + 1, by simp, by omega, rfl, (uN HE.out HNO.out).trans HT.out, HB.out.trans (b2.mono HB.out.size)⟩
  ·obtain rfl : i = xs.length := by omega
   rw [apB] at HNO
   go_wp2_with fail
   go_ret
   exact ⟨-1, rfl, by rw [HNO.out]; rfl, HB.out⟩
theorem aoI {w : World} {A : Option Addr} {c X : Nat} {α : Type} {xs : List α} {f : α -> List Value} {t : α -> Bool} (hr : gY w A 4 (xs.map f)) (hn : xs.length <= 1000) (hl : ∀ x ∈ xs, (f x).length = 4)
  (hP : ∀ x ∈ xs, ∀ W, Below w.heap.size w W -> Calls Tryz.prog 91 #[.agg (f x).toArray, .pointer (some ⟨X, 0, none⟩)] W (bld.Ans W (.bool (t x)))) :
  Calls Tryz.prog 90 #[.slice A xs.length c, .func (.func 91) #[] #[.pointer (some ⟨X, 0, none⟩)]] w (bld.Ans w (.bool (xs.any t))) := by
 have H := Lib.hid (aoY (c := c) hr hn hl hP)
 clear hr hn hl hP
 generalize xs.any t = b at *
 go_enter Tryz.func90, Tryz.ntmps90
 go_wp2_with (go_at_call 119; refine H.out.mono ?_; rintro e w1 ⟨r, rfl, rfl, b1⟩)
 go_ret
 exact ⟨rfl, b1⟩
theorem aoM {w : World} {X Y : Nat} {el : List Value} {b : Bool} (hlen : el.length = 4) (h1 : ∀ u ∈ el, u.oneCell' = true) (hX : w.cell? ⟨X, 0, none⟩ = some (.func (.func 53) #[] #[.pointer (some ⟨Y, 0, none⟩)])) (hlt : X < w.heap.size)
  (hP : ∀ W, Below w.heap.size w W -> Calls Tryz.prog 53 #[.agg el.toArray, .pointer (some ⟨Y, 0, none⟩)] W (bld.Ans W (.bool b))) :
  Calls Tryz.prog 91 #[.agg el.toArray, .pointer (some ⟨X, 0, none⟩)] w (bld.Ans w (.bool (!b))) := by
 obtain ⟨x0, x1, x2, x3, rfl⟩ := anH hlen
 have HP := Lib.hid hP
 have b0 : Below w.heap.size w (w.alloc (.cells #[x0, x1, x2, x3] tFn)) := (Below.refl _ _).alloc (apx _) _
 have c0 := (b0.cell (p := ⟨X, 0, none⟩) hlt).trans hX
 have hr : (w.alloc (.cells #[x0, x1, x2, x3] tFn)).rangeAt w.heap.size 0 [x0, x1, x2, x3] := fun j u hj => by
  rw [apD, cell_of_row _ w.heap.size j _ tFn (0, 0) (aX rfl)]
  simpa using hj
 have HR := Lib.hid hr
 have HB := Lib.hid b0
 clear hP hX hr b0 h1
 go_enter Tryz.func91, Tryz.ntmps91
 go_wp2_with (first | (refine wpList_load_mid rfl tFn _ rfl w.heap.size 0 rfl [x0, x1, x2, x3] _ HR.out Tryz.underlying25 rfl fnR ?_) | (go_at_call 53; refine (HP.out _ HB.out).mono ?_; rintro e w2 ⟨rfl, b2⟩))
 go_ret
 exact ⟨rfl, HB.out.trans (b2.mono HB.out.size)⟩
theorem aoT {w : World} {A : Option Addr} {c Y : Nat} {α : Type} {xs : List α} {f : α -> List Value} {t : α -> Bool} (hr : gY w A 4 (xs.map f)) (hn : xs.length <= 1000) (hl : ∀ x ∈ xs, (f x).length = 4 /\ ∀ u ∈ f x, u.oneCell' = true)
  (hP : ∀ x ∈ xs, ∀ W, Below w.heap.size w W -> Calls Tryz.prog 53 #[.agg (f x).toArray, .pointer (some ⟨Y, 0, none⟩)] W (bld.Ans W (.bool (t x)))) :
  Calls Tryz.prog 52 #[.slice A xs.length c, .func (.func 53) #[] #[.pointer (some ⟨Y, 0, none⟩)]] w (bld.Ans w (.bool (xs.all t))) := by
 obtain ⟨w1, hw1⟩ : ∃ w1, w1 = w.alloc (.cells #[.func (.func 53) #[] #[.pointer (some ⟨Y, 0, none⟩)]] 28) := ⟨_, rfl⟩
 have b1 : Below w.heap.size w w1 := by rw [hw1]; exact (Below.refl _ _).alloc (apx _) _
 have c1 : w1.cell? ⟨w.heap.size, 0, none⟩ = some (.func (.func 53) #[] #[.pointer (some ⟨Y, 0, none⟩)]) := by rw [hw1, cell_of_row _ w.heap.size 0 _ _ (0, 0) (aX rfl)]; rfl
 have l1 : w.heap.size < w1.heap.size := by rw [hw1]; simp
 have H := Lib.hid (aoI (c := c) (X := w.heap.size) (t := fun x => !t x) (hr.below b1) hn (fun el he => (hl el he).1) (fun el he W hW => aoM (hl el he).1 (hl el he).2 ((hW.cell (p := ⟨w.heap.size, 0, none⟩) l1).trans c1) (apz l1 hW.size) (fun W2 hW2 => hP el he W2 ((b1.trans (hW.mono b1.size)).trans (hW2.mono ((b1.trans (hW.mono b1.size)).size))))))
 have HB := Lib.hid b1
 have he : (!xs.any fun x => !t x) = xs.all t := by rw [apw]; simp
 have HE := Lib.hid he
 clear hr hP hl b1 c1 l1 he
 go_enter Tryz.func52, Tryz.ntmps52
 go_upto_region 1 with fail
 rw [<- hw1]
 clear hw1
 go_wp2_with (go_at_call 90; refine H.out.mono ?_; rintro e w2 ⟨rfl, b2⟩)
 go_ret
 exact ⟨by rw [<- HE.out]; rfl, HB.out.trans (b2.mono HB.out.size)⟩
theorem ana : ∀ {el : List Value}, el.length = 14 -> ∃ x0 x1 x2 x3 x4 x5 x6 x7 x8 x9 x10 x11 x12 x13, el = [x0, x1, x2, x3, x4, x5, x6, x7, x8, x9, x10, x11, x12, x13]
 | [x0, x1, x2, x3, x4, x5, x6, x7, x8, x9, x10, x11, x12, x13], _ => ⟨x0, x1, x2, x3, x4, x5, x6, x7, x8, x9, x10, x11, x12, x13, rfl⟩
theorem apl {w : World} {A : Option Addr} {c X : Nat} {α : Type} {xs : List α} {f : α -> List Value} {t : α -> Bool} (hr : gY w A 14 (xs.map f)) (hn : xs.length <= 1000) (hl : ∀ x ∈ xs, (f x).length = 14)
  (hP : ∀ x ∈ xs, ∀ W, Below w.heap.size w W -> Calls Tryz.prog 93 #[.agg (f x).toArray, .pointer (some ⟨X, 0, none⟩)] W (bld.Ans W (.bool (t x)))) :
  Calls Tryz.prog 120 #[.slice A xs.length c, .func (.func 93) #[] #[.pointer (some ⟨X, 0, none⟩)]] w (an2 (xs.any t) w) := by
 have HR := Lib.hid hr
 have HP := Lib.hid hP
 have HL := Lib.hid hl
 clear hr hP hl
 go_enter Tryz.func120, Tryz.ntmps120
 go_wp2_with fail
 go_loopg [8] xs.length (fun g s8 w8 => ∃ i : Nat, s8 = .int .i64 i /\ i <= xs.length /\ g = xs.length - i /\ (xs.take i).any t = false /\ Below w.heap.size w w8)
 case atStart => exact ⟨0, rfl, apE _, rfl, rfl, Below.refl _ _⟩
 case round =>
  obtain ⟨i, rfl, hi, rfl, hno, hbel⟩ := hrel
  have h0I : (0 : Int) <= (i : Int) := apy _
  have HB := Lib.hid hbel
  have HNO := Lib.hid hno
  clear hbel hno
  rcases apC i xs.length with hlt | hge
  ·have hltI : (i : Int) < (xs.length : Int) := by omega
   obtain ⟨x, hel⟩ : ∃ x, xs[i]? = some x := ⟨_, apv hlt⟩
   have hlen := HL.out x (apu hel)
   obtain ⟨g, o, eA, hg, hc⟩ := (HR.out.below HB.out) i (f x) (by rw [apA, hel]; rfl)
   subst eA
   have HC := Lib.hid hc
   have HE := Lib.hid hel
   have HPE := Lib.hid (HP.out x (apu hel))
   clear hc hel
   cases ht : t x with
   | true =>
    have HT := Lib.hid ht
    rw [ht] at HPE
    clear ht
    go_wp2_with (first | (refine wpList_load_mid rfl tBk _ rfl g (o + i * 14) rfl (f x) _ HC.out Tryz.underlying60 rfl (by rw [hlen]; exact bkR) ?_) | (go_at_call 93; refine (HPE.out _ HB.out).mono ?_; rintro e w2 ⟨rfl, b2⟩))
    go_ret
    exact ⟨(i : Int), rfl, by rw [Uz HE.out HT.out]; exact decide_eq_true (by omega), HB.out.trans (b2.mono HB.out.size)⟩
   | false =>
    have HT := Lib.hid ht
    rw [ht] at HPE
    clear ht
    go_wp2_with (first | (refine wpList_load_mid rfl tBk _ rfl g (o + i * 14) rfl (f x) _ HC.out Tryz.underlying60 rfl (by rw [hlen]; exact bkR) ?_) | (go_at_call 93; refine (HPE.out _ HB.out).mono ?_; rintro e w2 ⟨rfl, b2⟩))
    go_roundg (xs.length - (i + 1))
    case measure => omega
    case rel => exact ⟨i + 1, by simp, by omega, rfl, (uN HE.out HNO.out).trans HT.out, HB.out.trans (b2.mono HB.out.size)⟩
  ·obtain rfl : i = xs.length := by omega
   rw [apB] at HNO
   go_wp2_with fail
   go_ret
   exact ⟨-1, rfl, by rw [HNO.out]; rfl, HB.out⟩
theorem aoJ {w : World} {A : Option Addr} {c X : Nat} {α : Type} {xs : List α} {f : α -> List Value} {t : α -> Bool} (hr : gY w A 14 (xs.map f)) (hn : xs.length <= 1000) (hl : ∀ x ∈ xs, (f x).length = 14)
  (hP : ∀ x ∈ xs, ∀ W, Below w.heap.size w W -> Calls Tryz.prog 93 #[.agg (f x).toArray, .pointer (some ⟨X, 0, none⟩)] W (bld.Ans W (.bool (t x)))) :
  Calls Tryz.prog 92 #[.slice A xs.length c, .func (.func 93) #[] #[.pointer (some ⟨X, 0, none⟩)]] w (bld.Ans w (.bool (xs.any t))) := by
 have H := Lib.hid (apl (c := c) hr hn hl hP)
 clear hr hn hl hP
 generalize xs.any t = b at *
 go_enter Tryz.func92, Tryz.ntmps92
 go_wp2_with (go_at_call 120; refine H.out.mono ?_; rintro e w1 ⟨r, rfl, rfl, b1⟩)
 go_ret
 exact ⟨rfl, b1⟩
theorem apr {w : World} {X Y : Nat} {el : List Value} {b : Bool} (hlen : el.length = 14) (h1 : ∀ u ∈ el, u.oneCell' = true) (hX : w.cell? ⟨X, 0, none⟩ = some (.func (.func 48) #[] #[.pointer (some ⟨Y, 0, none⟩)])) (hlt : X < w.heap.size)
  (hP : ∀ W, Below w.heap.size w W -> Calls Tryz.prog 48 #[.agg el.toArray, .pointer (some ⟨Y, 0, none⟩)] W (bld.Ans W (.bool b))) :
  Calls Tryz.prog 93 #[.agg el.toArray, .pointer (some ⟨X, 0, none⟩)] w (bld.Ans w (.bool (!b))) := by
 obtain ⟨x0, x1, x2, x3, x4, x5, x6, x7, x8, x9, x10, x11, x12, x13, rfl⟩ := ana hlen
 have HP := Lib.hid hP
 have b0 : Below w.heap.size w (w.alloc (.cells #[x0, x1, x2, x3, x4, x5, x6, x7, x8, x9, x10, x11, x12, x13] tBk)) := (Below.refl _ _).alloc (apx _) _
 have c0 := (b0.cell (p := ⟨X, 0, none⟩) hlt).trans hX
 have hr : (w.alloc (.cells #[x0, x1, x2, x3, x4, x5, x6, x7, x8, x9, x10, x11, x12, x13] tBk)).rangeAt w.heap.size 0 [x0, x1, x2, x3, x4, x5, x6, x7, x8, x9, x10, x11, x12, x13] := fun j u hj => by
  rw [apD, cell_of_row _ w.heap.size j _ tBk (0, 0) (aX rfl)]
  simpa using hj
 have HR := Lib.hid hr
 have HB := Lib.hid b0
 clear hP hX hr b0 h1
 go_enter Tryz.func93, Tryz.ntmps93
 go_wp2_with (first | (refine wpList_load_mid rfl tBk _ rfl w.heap.size 0 rfl [x0, x1, x2, x3, x4, x5, x6, x7, x8, x9, x10, x11, x12, x13] _ HR.out Tryz.underlying60 rfl bkR ?_) | (go_at_call 48; refine (HP.out _ HB.out).mono ?_; rintro e w2 ⟨rfl, b2⟩))
 go_ret
 exact ⟨rfl, HB.out.trans (b2.mono HB.out.size)⟩
theorem allB {w : World} {A : Option Addr} {c Y : Nat} {α : Type} {xs : List α} {f : α -> List Value} {t : α -> Bool} (hr : gY w A 14 (xs.map f)) (hn : xs.length <= 1000) (hl : ∀ x ∈ xs, (f x).length = 14 /\ ∀ u ∈ f x, u.oneCell' = true)
  (hP : ∀ x ∈ xs, ∀ W, Below w.heap.size w W -> Calls Tryz.prog 48 #[.agg (f x).toArray, .pointer (some ⟨Y, 0, none⟩)] W (bld.Ans W (.bool (t x)))) :
  Calls Tryz.prog 54 #[.slice A xs.length c, .func (.func 48) #[] #[.pointer (some ⟨Y, 0, none⟩)]] w (bld.Ans w (.bool (xs.all t))) := by
 obtain ⟨w1, hw1⟩ : ∃ w1, w1 = w.alloc (.cells #[.func (.func 48) #[] #[.pointer (some ⟨Y, 0, none⟩)]] 99) := ⟨_, rfl⟩
 have b1 : Below w.heap.size w w1 := by rw [hw1]; exact (Below.refl _ _).alloc (apx _) _
 have c1 : w1.cell? ⟨w.heap.size, 0, none⟩ = some (.func (.func 48) #[] #[.pointer (some ⟨Y, 0, none⟩)]) := by rw [hw1, cell_of_row _ w.heap.size 0 _ _ (0, 0) (aX rfl)]; rfl
 have l1 : w.heap.size < w1.heap.size := by rw [hw1]; simp
 have H := Lib.hid (aoJ (c := c) (X := w.heap.size) (t := fun x => !t x) (hr.below b1) hn (fun el he => (hl el he).1) (fun el he W hW => apr (hl el he).1 (hl el he).2 ((hW.cell (p := ⟨w.heap.size, 0, none⟩) l1).trans c1) (apz l1 hW.size) (fun W2 hW2 => hP el he W2 ((b1.trans (hW.mono b1.size)).trans (hW2.mono ((b1.trans (hW.mono b1.size)).size))))))
 have HB := Lib.hid b1
 have he : (!xs.any fun x => !t x) = xs.all t := by rw [apw]; simp
 have HE := Lib.hid he
 clear hr hP hl b1 c1 l1 he
 go_enter Tryz.func54, Tryz.ntmps54
 go_upto_region 1 with fail
 rw [<- hw1]
 clear hw1
 go_wp2_with (go_at_call 92; refine H.out.mono ?_; rintro e w2 ⟨rfl, b2⟩)
 go_ret
 exact ⟨by rw [<- HE.out]; rfl, HB.out.trans (b2.mono HB.out.size)⟩
end prg
end Go.Proofs.YtglmonlofejcgaaGreatDoor
