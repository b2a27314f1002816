/- slices.IndexFunc, slices.ContainsFunc and program.all, at types, functions and blocks, by what the asked function answers. -/
import Derived.Test.YtglmonlofejcgaaDoorPgIs
import Derived.Test.YtglmonlofejcgaaDoorTextX
import Derived.Test.YtglmonlofejcgaaDoorProg
import Derived.Deep.DeepCutAuto
namespace Go.Proofs.YtglmonlofejcgaaDoor.prg
open Go.RowKit Go.Proofs.YtglmonlofejcgaaDoor Go.Proofs.YtglmonlofejcgaaDoor.Am Go.Proofs.YtglmonlofejcgaaDoor.loan Go.Proofs.YtglmonlofejcgaaDoor.bld
set_option linter.unusedVariables false
abbrev tTy : TypeId := 63
abbrev tFn : TypeId := 25
abbrev tBk : TypeId := 52
theorem tyR : (Tryd.prog.info? 63).map (·.size) = some 2 := by kernel_rfl
theorem fnR : (Tryd.prog.info? 25).map (·.size) = some 4 := by kernel_rfl
theorem bkR : (Tryd.prog.info? 52).map (·.size) = some 14 := by kernel_rfl
def AnsI (t : Bool) (W : World) (e : Ending) (W' : World) : Prop := ∃ r : Int, e = .returned (.int .i64 r) ∧ decide (r ≥ 0) = t ∧ Below W.heap.size W W'
theorem any_take {α : Type} {l : List α} {t : α → Bool} {i : Nat} {x : α} (h : l[i]? = some x) (h0 : (l.take i).any t = false) : (l.take (i + 1)).any t = t x := by
 rw [List.take_add_one, h, List.any_append, h0]
 simp
theorem any_at {α : Type} {l : List α} {t : α → Bool} {i : Nat} {x : α} (h : l[i]? = some x) (ht : t x = true) : l.any t = true := List.any_eq_true.2 ⟨x, List.mem_of_getElem? h, ht⟩
theorem len_T : ∀ {el : List Value}, el.length = 2 → ∃ x0 x1, el = [x0, x1]
 | [x0, x1], _ => ⟨x0, x1, rfl⟩
set_option maxHeartbeats 4000000 in
set_option maxRecDepth 100000 in
theorem idxT {w : World} {A : Option Addr} {c X : Nat} {α : Type} {xs : List α} {f : α → List Value} {t : α → Bool} (hr : RowsAt w A 2 (xs.map f)) (hn : xs.length ≤ 1000) (hl : ∀ x ∈ xs, (f x).length = 2)
  (hP : ∀ x ∈ xs, ∀ W, Below w.heap.size w W → Calls Tryd.prog 88 #[.agg (f x).toArray, .pointer (some ⟨X, 0, none⟩)] W (bld.Ans W (.bool (t x)))) :
  Calls Tryd.prog 106 #[.slice A xs.length c, .func (.func 88) #[] #[.pointer (some ⟨X, 0, none⟩)]] w (AnsI (xs.any t) w) := by
 have HR := Lib.hid hr
 have HP := Lib.hid hP
 have HL := Lib.hid hl
 clear hr hP hl
 go_enter Tryd.func106, Tryd.ntmps106
 go_wp2_with fail
 go_loopg [8] xs.length (fun g s8 w8 => ∃ i : Nat, s8 = .int .i64 i ∧ i ≤ xs.length ∧ g = xs.length - i ∧ (xs.take i).any t = false ∧ Below w.heap.size w w8)
 case atStart => exact ⟨0, rfl, Nat.zero_le _, rfl, rfl, Below.refl _ _⟩
 case round =>
  obtain ⟨i, rfl, hi, rfl, hno, hbel⟩ := hrel
  have h0I : (0 : Int) ≤ (i : Int) := Int.natCast_nonneg _
  have HB := Lib.hid hbel
  have HNO := Lib.hid hno
  clear hbel hno
  rcases Nat.lt_or_ge i xs.length with hlt | hge
  ·have hltI : (i : Int) < (xs.length : Int) := by omega
   obtain ⟨x, hel⟩ : ∃ x, xs[i]? = some x := ⟨_, List.getElem?_eq_getElem hlt⟩
   have hlen := HL.out x (List.mem_of_getElem? hel)
   obtain ⟨g, o, eA, hg, hc⟩ := (HR.out.below HB.out) i (f x) (by rw [List.getElem?_map, hel]; rfl)
   subst eA
   have HC := Lib.hid hc
   have HE := Lib.hid hel
   have HPE := Lib.hid (HP.out x (List.mem_of_getElem? hel))
   clear hc hel
   cases ht : t x with
   | true =>
    have HT := Lib.hid ht
    rw [ht] at HPE
    clear ht
    go_wp2_with (first | (refine wpList_load_mid rfl tTy _ rfl g (o + i * 2) rfl (f x) _ HC.out Tryd.underlying63 rfl (by rw [hlen]; exact tyR) ?_) | (go_at_call 88; refine (HPE.out _ HB.out).mono ?_; rintro e w2 ⟨rfl, b2⟩))
    go_ret
    exact ⟨(i : Int), rfl, by rw [any_at HE.out HT.out]; exact decide_eq_true (by omega), HB.out.trans (b2.mono HB.out.size)⟩
   | false =>
    have HT := Lib.hid ht
    rw [ht] at HPE
    clear ht
    go_wp2_with (first | (refine wpList_load_mid rfl tTy _ rfl g (o + i * 2) rfl (f x) _ HC.out Tryd.underlying63 rfl (by rw [hlen]; exact tyR) ?_) | (go_at_call 88; refine (HPE.out _ HB.out).mono ?_; rintro e w2 ⟨rfl, b2⟩))
    go_roundg (xs.length - (i + 1))
    case measure => omega
    case rel => exact ⟨i + 1, by simp, by omega, rfl, (any_take HE.out HNO.out).trans HT.out, HB.out.trans (b2.mono HB.out.size)⟩
  ·obtain rfl : i = xs.length := by omega
   rw [List.take_length] at HNO
   go_wp2_with fail
   go_ret
   exact ⟨-1, rfl, by rw [HNO.out]; rfl, HB.out⟩
set_option maxHeartbeats 4000000 in
set_option maxRecDepth 100000 in
theorem conT {w : World} {A : Option Addr} {c X : Nat} {α : Type} {xs : List α} {f : α → List Value} {t : α → Bool} (hr : RowsAt w A 2 (xs.map f)) (hn : xs.length ≤ 1000) (hl : ∀ x ∈ xs, (f x).length = 2)
  (hP : ∀ x ∈ xs, ∀ W, Below w.heap.size w W → Calls Tryd.prog 88 #[.agg (f x).toArray, .pointer (some ⟨X, 0, none⟩)] W (bld.Ans W (.bool (t x)))) :
  Calls Tryd.prog 87 #[.slice A xs.length c, .func (.func 88) #[] #[.pointer (some ⟨X, 0, none⟩)]] w (bld.Ans w (.bool (xs.any t))) := by
 have H := Lib.hid (idxT (c := c) hr hn hl hP)
 clear hr hn hl hP
 generalize xs.any t = b at *
 go_enter Tryd.func87, Tryd.ntmps87
 go_wp2_with (go_at_call 106; refine H.out.mono ?_; rintro e w1 ⟨r, rfl, rfl, b1⟩)
 go_ret
 exact ⟨rfl, b1⟩
set_option maxHeartbeats 4000000 in
set_option maxRecDepth 100000 in
theorem cloT {w : World} {X : Nat} {el : List Value} {b : Bool} (hlen : el.length = 2) (h1 : ∀ u ∈ el, u.oneCell' = true) (hX : w.cell? ⟨X, 0, none⟩ = some (.func (.func 61) #[] #[])) (hlt : X < w.heap.size)
  (hP : ∀ W, Below w.heap.size w W → Calls Tryd.prog 61 #[.agg el.toArray] W (bld.Ans W (.bool b))) :
  Calls Tryd.prog 88 #[.agg el.toArray, .pointer (some ⟨X, 0, none⟩)] w (bld.Ans w (.bool (!b))) := by
 obtain ⟨x0, x1, rfl⟩ := len_T hlen
 have HP := Lib.hid hP
 have b0 : Below w.heap.size w (w.alloc (.cells #[x0, x1] tTy)) := (Below.refl _ _).alloc (Nat.le_refl _) _
 have c0 := (b0.cell (p := ⟨X, 0, none⟩) hlt).trans hX
 have hr : (w.alloc (.cells #[x0, x1] tTy)).rangeAt w.heap.size 0 [x0, x1] := fun j u hj => by
  rw [Nat.zero_add, cell_of_row _ w.heap.size j _ tTy (0, 0) (at_alloc rfl)]
  simpa using hj
 have HR := Lib.hid hr
 have HB := Lib.hid b0
 clear hP hX hr b0 h1
 go_enter Tryd.func88, Tryd.ntmps88
 go_wp2_with (first | (refine wpList_load_mid rfl tTy _ rfl w.heap.size 0 rfl [x0, x1] _ HR.out Tryd.underlying63 rfl tyR ?_) | (go_at_call 61; refine (HP.out _ HB.out).mono ?_; rintro e w2 ⟨rfl, b2⟩))
 go_ret
 exact ⟨rfl, HB.out.trans (b2.mono HB.out.size)⟩
set_option maxHeartbeats 4000000 in
set_option maxRecDepth 100000 in
theorem allT {w : World} {A : Option Addr} {c : Nat} {α : Type} {xs : List α} {f : α → List Value} {t : α → Bool} (hr : RowsAt w A 2 (xs.map f)) (hn : xs.length ≤ 1000) (hl : ∀ x ∈ xs, (f x).length = 2 ∧ ∀ u ∈ f x, u.oneCell' = true)
  (hP : ∀ x ∈ xs, ∀ W, Below w.heap.size w W → Calls Tryd.prog 61 #[.agg (f x).toArray] W (bld.Ans W (.bool (t x)))) :
  Calls Tryd.prog 60 #[.slice A xs.length c, .func (.func 61) #[] #[]] w (bld.Ans w (.bool (xs.all t))) := by
 obtain ⟨w1, hw1⟩ : ∃ w1, w1 = w.alloc (.cells #[.func (.func 61) #[] #[]] 88) := ⟨_, rfl⟩
 have b1 : Below w.heap.size w w1 := by rw [hw1]; exact (Below.refl _ _).alloc (Nat.le_refl _) _
 have c1 : w1.cell? ⟨w.heap.size, 0, none⟩ = some (.func (.func 61) #[] #[]) := by rw [hw1, cell_of_row _ w.heap.size 0 _ _ (0, 0) (at_alloc rfl)]; rfl
 have l1 : w.heap.size < w1.heap.size := by rw [hw1]; simp
 have H := Lib.hid (conT (c := c) (X := w.heap.size) (t := fun x => !t x) (hr.below b1) hn (fun el he => (hl el he).1) (fun el he W hW => cloT (hl el he).1 (hl el he).2 ((hW.cell (p := ⟨w.heap.size, 0, none⟩) l1).trans c1) (Nat.lt_of_lt_of_le l1 hW.size) (fun W2 hW2 => hP el he W2 ((b1.trans (hW.mono b1.size)).trans (hW2.mono ((b1.trans (hW.mono b1.size)).size))))))
 have HB := Lib.hid b1
 have he : (!xs.any fun x => !t x) = xs.all t := by rw [List.not_any_eq_all_not]; simp
 have HE := Lib.hid he
 clear hr hP hl b1 c1 l1 he
 go_enter Tryd.func60, Tryd.ntmps60
 go_upto_region 1 with fail
 rw [← hw1]
 clear hw1
 go_wp2_with (go_at_call 87; refine H.out.mono ?_; rintro e w2 ⟨rfl, b2⟩)
 go_ret
 exact ⟨by rw [← HE.out]; rfl, HB.out.trans (b2.mono HB.out.size)⟩
theorem len_F : ∀ {el : List Value}, el.length = 4 → ∃ x0 x1 x2 x3, el = [x0, x1, x2, x3]
 | [x0, x1, x2, x3], _ => ⟨x0, x1, x2, x3, rfl⟩
set_option maxHeartbeats 4000000 in
set_option maxRecDepth 100000 in
theorem idxF {w : World} {A : Option Addr} {c X : Nat} {α : Type} {xs : List α} {f : α → List Value} {t : α → Bool} (hr : RowsAt w A 4 (xs.map f)) (hn : xs.length ≤ 1000) (hl : ∀ x ∈ xs, (f x).length = 4)
  (hP : ∀ x ∈ xs, ∀ W, Below w.heap.size w W → Calls Tryd.prog 90 #[.agg (f x).toArray, .pointer (some ⟨X, 0, none⟩)] W (bld.Ans W (.bool (t x)))) :
  Calls Tryd.prog 107 #[.slice A xs.length c, .func (.func 90) #[] #[.pointer (some ⟨X, 0, none⟩)]] w (AnsI (xs.any t) w) := by
 have HR := Lib.hid hr
 have HP := Lib.hid hP
 have HL := Lib.hid hl
 clear hr hP hl
 go_enter Tryd.func107, Tryd.ntmps107
 go_wp2_with fail
 go_loopg [8] xs.length (fun g s8 w8 => ∃ i : Nat, s8 = .int .i64 i ∧ i ≤ xs.length ∧ g = xs.length - i ∧ (xs.take i).any t = false ∧ Below w.heap.size w w8)
 case atStart => exact ⟨0, rfl, Nat.zero_le _, rfl, rfl, Below.refl _ _⟩
 case round =>
  obtain ⟨i, rfl, hi, rfl, hno, hbel⟩ := hrel
  have h0I : (0 : Int) ≤ (i : Int) := Int.natCast_nonneg _
  have HB := Lib.hid hbel
  have HNO := Lib.hid hno
  clear hbel hno
  rcases Nat.lt_or_ge i xs.length with hlt | hge
  ·have hltI : (i : Int) < (xs.length : Int) := by omega
   obtain ⟨x, hel⟩ : ∃ x, xs[i]? = some x := ⟨_, List.getElem?_eq_getElem hlt⟩
   have hlen := HL.out x (List.mem_of_getElem? hel)
   obtain ⟨g, o, eA, hg, hc⟩ := (HR.out.below HB.out) i (f x) (by rw [List.getElem?_map, hel]; rfl)
   subst eA
   have HC := Lib.hid hc
   have HE := Lib.hid hel
   have HPE := Lib.hid (HP.out x (List.mem_of_getElem? hel))
   clear hc hel
   cases ht : t x with
   | true =>
    have HT := Lib.hid ht
    rw [ht] at HPE
    clear ht
    go_wp2_with (first | (refine wpList_load_mid rfl tFn _ rfl g (o + i * 4) rfl (f x) _ HC.out Tryd.underlying25 rfl (by rw [hlen]; exact fnR) ?_) | (go_at_call 90; refine (HPE.out _ HB.out).mono ?_; rintro e w2 ⟨rfl, b2⟩))
    go_ret
    exact ⟨(i : Int), rfl, by rw [any_at HE.out HT.out]; exact decide_eq_true (by omega), HB.out.trans (b2.mono HB.out.size)⟩
   | false =>
    have HT := Lib.hid ht
    rw [ht] at HPE
    clear ht
    go_wp2_with (first | (refine wpList_load_mid rfl tFn _ rfl g (o + i * 4) rfl (f x) _ HC.out Tryd.underlying25 rfl (by rw [hlen]; exact fnR) ?_) | (go_at_call 90; refine (HPE.out _ HB.out).mono ?_; rintro e w2 ⟨rfl, b2⟩))
    go_roundg (xs.length - (i + 1))
    case measure => omega
    case rel => exact ⟨i + 1, by simp, by omega, rfl, (any_take HE.out HNO.out).trans HT.out, HB.out.trans (b2.mono HB.out.size)⟩
  ·obtain rfl : i = xs.length := by omega
   rw [List.take_length] at HNO
   go_wp2_with fail
   go_ret
   exact ⟨-1, rfl, by rw [HNO.out]; rfl, HB.out⟩
set_option maxHeartbeats 4000000 in
set_option maxRecDepth 100000 in
theorem conF {w : World} {A : Option Addr} {c X : Nat} {α : Type} {xs : List α} {f : α → List Value} {t : α → Bool} (hr : RowsAt w A 4 (xs.map f)) (hn : xs.length ≤ 1000) (hl : ∀ x ∈ xs, (f x).length = 4)
  (hP : ∀ x ∈ xs, ∀ W, Below w.heap.size w W → Calls Tryd.prog 90 #[.agg (f x).toArray, .pointer (some ⟨X, 0, none⟩)] W (bld.Ans W (.bool (t x)))) :
  Calls Tryd.prog 89 #[.slice A xs.length c, .func (.func 90) #[] #[.pointer (some ⟨X, 0, none⟩)]] w (bld.Ans w (.bool (xs.any t))) := by
 have H := Lib.hid (idxF (c := c) hr hn hl hP)
 clear hr hn hl hP
 generalize xs.any t = b at *
 go_enter Tryd.func89, Tryd.ntmps89
 go_wp2_with (go_at_call 107; refine H.out.mono ?_; rintro e w1 ⟨r, rfl, rfl, b1⟩)
 go_ret
 exact ⟨rfl, b1⟩
set_option maxHeartbeats 4000000 in
set_option maxRecDepth 100000 in
theorem cloF {w : World} {X Y : Nat} {el : List Value} {b : Bool} (hlen : el.length = 4) (h1 : ∀ u ∈ el, u.oneCell' = true) (hX : w.cell? ⟨X, 0, none⟩ = some (.func (.func 64) #[] #[.pointer (some ⟨Y, 0, none⟩)])) (hlt : X < w.heap.size)
  (hP : ∀ W, Below w.heap.size w W → Calls Tryd.prog 64 #[.agg el.toArray, .pointer (some ⟨Y, 0, none⟩)] W (bld.Ans W (.bool b))) :
  Calls Tryd.prog 90 #[.agg el.toArray, .pointer (some ⟨X, 0, none⟩)] w (bld.Ans w (.bool (!b))) := by
 obtain ⟨x0, x1, x2, x3, rfl⟩ := len_F hlen
 have HP := Lib.hid hP
 have b0 : Below w.heap.size w (w.alloc (.cells #[x0, x1, x2, x3] tFn)) := (Below.refl _ _).alloc (Nat.le_refl _) _
 have c0 := (b0.cell (p := ⟨X, 0, none⟩) hlt).trans hX
 have hr : (w.alloc (.cells #[x0, x1, x2, x3] tFn)).rangeAt w.heap.size 0 [x0, x1, x2, x3] := fun j u hj => by
  rw [Nat.zero_add, cell_of_row _ w.heap.size j _ tFn (0, 0) (at_alloc rfl)]
  simpa using hj
 have HR := Lib.hid hr
 have HB := Lib.hid b0
 clear hP hX hr b0 h1
 go_enter Tryd.func90, Tryd.ntmps90
 go_wp2_with (first | (refine wpList_load_mid rfl tFn _ rfl w.heap.size 0 rfl [x0, x1, x2, x3] _ HR.out Tryd.underlying25 rfl fnR ?_) | (go_at_call 64; refine (HP.out _ HB.out).mono ?_; rintro e w2 ⟨rfl, b2⟩))
 go_ret
 exact ⟨rfl, HB.out.trans (b2.mono HB.out.size)⟩
set_option maxHeartbeats 4000000 in
set_option maxRecDepth 100000 in
theorem allF {w : World} {A : Option Addr} {c Y : Nat} {α : Type} {xs : List α} {f : α → List Value} {t : α → Bool} (hr : RowsAt w A 4 (xs.map f)) (hn : xs.length ≤ 1000) (hl : ∀ x ∈ xs, (f x).length = 4 ∧ ∀ u ∈ f x, u.oneCell' = true)
  (hP : ∀ x ∈ xs, ∀ W, Below w.heap.size w W → Calls Tryd.prog 64 #[.agg (f x).toArray, .pointer (some ⟨Y, 0, none⟩)] W (bld.Ans W (.bool (t x)))) :
  Calls Tryd.prog 63 #[.slice A xs.length c, .func (.func 64) #[] #[.pointer (some ⟨Y, 0, none⟩)]] w (bld.Ans w (.bool (xs.all t))) := by
 obtain ⟨w1, hw1⟩ : ∃ w1, w1 = w.alloc (.cells #[.func (.func 64) #[] #[.pointer (some ⟨Y, 0, none⟩)]] 26) := ⟨_, rfl⟩
 have b1 : Below w.heap.size w w1 := by rw [hw1]; exact (Below.refl _ _).alloc (Nat.le_refl _) _
 have c1 : w1.cell? ⟨w.heap.size, 0, none⟩ = some (.func (.func 64) #[] #[.pointer (some ⟨Y, 0, none⟩)]) := by rw [hw1, cell_of_row _ w.heap.size 0 _ _ (0, 0) (at_alloc rfl)]; rfl
 have l1 : w.heap.size < w1.heap.size := by rw [hw1]; simp
 have H := Lib.hid (conF (c := c) (X := w.heap.size) (t := fun x => !t x) (hr.below b1) hn (fun el he => (hl el he).1) (fun el he W hW => cloF (hl el he).1 (hl el he).2 ((hW.cell (p := ⟨w.heap.size, 0, none⟩) l1).trans c1) (Nat.lt_of_lt_of_le l1 hW.size) (fun W2 hW2 => hP el he W2 ((b1.trans (hW.mono b1.size)).trans (hW2.mono ((b1.trans (hW.mono b1.size)).size))))))
 have HB := Lib.hid b1
 have he : (!xs.any fun x => !t x) = xs.all t := by rw [List.not_any_eq_all_not]; simp
 have HE := Lib.hid he
 clear hr hP hl b1 c1 l1 he
 go_enter Tryd.func63, Tryd.ntmps63
 go_upto_region 1 with fail
 rw [← hw1]
 clear hw1
 go_wp2_with (go_at_call 89; refine H.out.mono ?_; rintro e w2 ⟨rfl, b2⟩)
 go_ret
 exact ⟨by rw [← HE.out]; rfl, HB.out.trans (b2.mono HB.out.size)⟩
theorem len_B : ∀ {el : List Value}, el.length = 14 → ∃ x0 x1 x2 x3 x4 x5 x6 x7 x8 x9 x10 x11 x12 x13, el = [x0, x1, x2, x3, x4, x5, x6, x7, x8, x9, x10, x11, x12, x13]
 | [x0, x1, x2, x3, x4, x5, x6, x7, x8, x9, x10, x11, x12, x13], _ => ⟨x0, x1, x2, x3, x4, x5, x6, x7, x8, x9, x10, x11, x12, x13, rfl⟩
set_option maxHeartbeats 4000000 in
set_option maxRecDepth 100000 in
theorem idxB {w : World} {A : Option Addr} {c X : Nat} {α : Type} {xs : List α} {f : α → List Value} {t : α → Bool} (hr : RowsAt w A 14 (xs.map f)) (hn : xs.length ≤ 1000) (hl : ∀ x ∈ xs, (f x).length = 14)
  (hP : ∀ x ∈ xs, ∀ W, Below w.heap.size w W → Calls Tryd.prog 92 #[.agg (f x).toArray, .pointer (some ⟨X, 0, none⟩)] W (bld.Ans W (.bool (t x)))) :
  Calls Tryd.prog 108 #[.slice A xs.length c, .func (.func 92) #[] #[.pointer (some ⟨X, 0, none⟩)]] w (AnsI (xs.any t) w) := by
 have HR := Lib.hid hr
 have HP := Lib.hid hP
 have HL := Lib.hid hl
 clear hr hP hl
 go_enter Tryd.func108, Tryd.ntmps108
 go_wp2_with fail
 go_loopg [8] xs.length (fun g s8 w8 => ∃ i : Nat, s8 = .int .i64 i ∧ i ≤ xs.length ∧ g = xs.length - i ∧ (xs.take i).any t = false ∧ Below w.heap.size w w8)
 case atStart => exact ⟨0, rfl, Nat.zero_le _, rfl, rfl, Below.refl _ _⟩
 case round =>
  obtain ⟨i, rfl, hi, rfl, hno, hbel⟩ := hrel
  have h0I : (0 : Int) ≤ (i : Int) := Int.natCast_nonneg _
  have HB := Lib.hid hbel
  have HNO := Lib.hid hno
  clear hbel hno
  rcases Nat.lt_or_ge i xs.length with hlt | hge
  ·have hltI : (i : Int) < (xs.length : Int) := by omega
   obtain ⟨x, hel⟩ : ∃ x, xs[i]? = some x := ⟨_, List.getElem?_eq_getElem hlt⟩
   have hlen := HL.out x (List.mem_of_getElem? hel)
   obtain ⟨g, o, eA, hg, hc⟩ := (HR.out.below HB.out) i (f x) (by rw [List.getElem?_map, hel]; rfl)
   subst eA
   have HC := Lib.hid hc
   have HE := Lib.hid hel
   have HPE := Lib.hid (HP.out x (List.mem_of_getElem? hel))
   clear hc hel
   cases ht : t x with
   | true =>
    have HT := Lib.hid ht
    rw [ht] at HPE
    clear ht
    go_wp2_with (first | (refine wpList_load_mid rfl tBk _ rfl g (o + i * 14) rfl (f x) _ HC.out Tryd.underlying52 rfl (by rw [hlen]; exact bkR) ?_) | (go_at_call 92; refine (HPE.out _ HB.out).mono ?_; rintro e w2 ⟨rfl, b2⟩))
    go_ret
    exact ⟨(i : Int), rfl, by rw [any_at HE.out HT.out]; exact decide_eq_true (by omega), HB.out.trans (b2.mono HB.out.size)⟩
   | false =>
    have HT := Lib.hid ht
    rw [ht] at HPE
    clear ht
    go_wp2_with (first | (refine wpList_load_mid rfl tBk _ rfl g (o + i * 14) rfl (f x) _ HC.out Tryd.underlying52 rfl (by rw [hlen]; exact bkR) ?_) | (go_at_call 92; refine (HPE.out _ HB.out).mono ?_; rintro e w2 ⟨rfl, b2⟩))
    go_roundg (xs.length - (i + 1))
    case measure => omega
    case rel => exact ⟨i + 1, by simp, by omega, rfl, (any_take HE.out HNO.out).trans HT.out, HB.out.trans (b2.mono HB.out.size)⟩
  ·obtain rfl : i = xs.length := by omega
   rw [List.take_length] at HNO
   go_wp2_with fail
   go_ret
   exact ⟨-1, rfl, by rw [HNO.out]; rfl, HB.out⟩
set_option maxHeartbeats 4000000 in
set_option maxRecDepth 100000 in
theorem conB {w : World} {A : Option Addr} {c X : Nat} {α : Type} {xs : List α} {f : α → List Value} {t : α → Bool} (hr : RowsAt w A 14 (xs.map f)) (hn : xs.length ≤ 1000) (hl : ∀ x ∈ xs, (f x).length = 14)
  (hP : ∀ x ∈ xs, ∀ W, Below w.heap.size w W → Calls Tryd.prog 92 #[.agg (f x).toArray, .pointer (some ⟨X, 0, none⟩)] W (bld.Ans W (.bool (t x)))) :
  Calls Tryd.prog 91 #[.slice A xs.length c, .func (.func 92) #[] #[.pointer (some ⟨X, 0, none⟩)]] w (bld.Ans w (.bool (xs.any t))) := by
 have H := Lib.hid (idxB (c := c) hr hn hl hP)
 clear hr hn hl hP
 generalize xs.any t = b at *
 go_enter Tryd.func91, Tryd.ntmps91
 go_wp2_with (go_at_call 108; refine H.out.mono ?_; rintro e w1 ⟨r, rfl, rfl, b1⟩)
 go_ret
 exact ⟨rfl, b1⟩
set_option maxHeartbeats 4000000 in
set_option maxRecDepth 100000 in
theorem cloB {w : World} {X Y : Nat} {el : List Value} {b : Bool} (hlen : el.length = 14) (h1 : ∀ u ∈ el, u.oneCell' = true) (hX : w.cell? ⟨X, 0, none⟩ = some (.func (.func 59) #[] #[.pointer (some ⟨Y, 0, none⟩)])) (hlt : X < w.heap.size)
  (hP : ∀ W, Below w.heap.size w W → Calls Tryd.prog 59 #[.agg el.toArray, .pointer (some ⟨Y, 0, none⟩)] W (bld.Ans W (.bool b))) :
  Calls Tryd.prog 92 #[.agg el.toArray, .pointer (some ⟨X, 0, none⟩)] w (bld.Ans w (.bool (!b))) := by
 obtain ⟨x0, x1, x2, x3, x4, x5, x6, x7, x8, x9, x10, x11, x12, x13, rfl⟩ := len_B hlen
 have HP := Lib.hid hP
 have b0 : Below w.heap.size w (w.alloc (.cells #[x0, x1, x2, x3, x4, x5, x6, x7, x8, x9, x10, x11, x12, x13] tBk)) := (Below.refl _ _).alloc (Nat.le_refl _) _
 have c0 := (b0.cell (p := ⟨X, 0, none⟩) hlt).trans hX
 have hr : (w.alloc (.cells #[x0, x1, x2, x3, x4, x5, x6, x7, x8, x9, x10, x11, x12, x13] tBk)).rangeAt w.heap.size 0 [x0, x1, x2, x3, x4, x5, x6, x7, x8, x9, x10, x11, x12, x13] := fun j u hj => by
  rw [Nat.zero_add, cell_of_row _ w.heap.size j _ tBk (0, 0) (at_alloc rfl)]
  simpa using hj
 have HR := Lib.hid hr
 have HB := Lib.hid b0
 clear hP hX hr b0 h1
 go_enter Tryd.func92, Tryd.ntmps92
 go_wp2_with (first | (refine wpList_load_mid rfl tBk _ rfl w.heap.size 0 rfl [x0, x1, x2, x3, x4, x5, x6, x7, x8, x9, x10, x11, x12, x13] _ HR.out Tryd.underlying52 rfl bkR ?_) | (go_at_call 59; refine (HP.out _ HB.out).mono ?_; rintro e w2 ⟨rfl, b2⟩))
 go_ret
 exact ⟨rfl, HB.out.trans (b2.mono HB.out.size)⟩
set_option maxHeartbeats 4000000 in
set_option maxRecDepth 100000 in
theorem allB {w : World} {A : Option Addr} {c Y : Nat} {α : Type} {xs : List α} {f : α → List Value} {t : α → Bool} (hr : RowsAt w A 14 (xs.map f)) (hn : xs.length ≤ 1000) (hl : ∀ x ∈ xs, (f x).length = 14 ∧ ∀ u ∈ f x, u.oneCell' = true)
  (hP : ∀ x ∈ xs, ∀ W, Below w.heap.size w W → Calls Tryd.prog 59 #[.agg (f x).toArray, .pointer (some ⟨Y, 0, none⟩)] W (bld.Ans W (.bool (t x)))) :
  Calls Tryd.prog 65 #[.slice A xs.length c, .func (.func 59) #[] #[.pointer (some ⟨Y, 0, none⟩)]] w (bld.Ans w (.bool (xs.all t))) := by
 obtain ⟨w1, hw1⟩ : ∃ w1, w1 = w.alloc (.cells #[.func (.func 59) #[] #[.pointer (some ⟨Y, 0, none⟩)]] 113) := ⟨_, rfl⟩
 have b1 : Below w.heap.size w w1 := by rw [hw1]; exact (Below.refl _ _).alloc (Nat.le_refl _) _
 have c1 : w1.cell? ⟨w.heap.size, 0, none⟩ = some (.func (.func 59) #[] #[.pointer (some ⟨Y, 0, none⟩)]) := by rw [hw1, cell_of_row _ w.heap.size 0 _ _ (0, 0) (at_alloc rfl)]; rfl
 have l1 : w.heap.size < w1.heap.size := by rw [hw1]; simp
 have H := Lib.hid (conB (c := c) (X := w.heap.size) (t := fun x => !t x) (hr.below b1) hn (fun el he => (hl el he).1) (fun el he W hW => cloB (hl el he).1 (hl el he).2 ((hW.cell (p := ⟨w.heap.size, 0, none⟩) l1).trans c1) (Nat.lt_of_lt_of_le l1 hW.size) (fun W2 hW2 => hP el he W2 ((b1.trans (hW.mono b1.size)).trans (hW2.mono ((b1.trans (hW.mono b1.size)).size))))))
 have HB := Lib.hid b1
 have he : (!xs.any fun x => !t x) = xs.all t := by rw [List.not_any_eq_all_not]; simp
 have HE := Lib.hid he
 clear hr hP hl b1 c1 l1 he
 go_enter Tryd.func65, Tryd.ntmps65
 go_upto_region 1 with fail
 rw [← hw1]
 clear hw1
 go_wp2_with (go_at_call 91; refine H.out.mono ?_; rintro e w2 ⟨rfl, b2⟩)
 go_ret
 exact ⟨by rw [← HE.out]; rfl, HB.out.trans (b2.mono HB.out.size)⟩
end Go.Proofs.YtglmonlofejcgaaDoor.prg
