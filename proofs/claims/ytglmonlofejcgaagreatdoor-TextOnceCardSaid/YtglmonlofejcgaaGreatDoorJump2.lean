/- Texts of places that are not written out. -/
import Derived.Test.YtglmonlofejcgaaGreatDoorSeat
import Derived.Test.YtglmonlofejcgaaGreatDoorDigits
import Derived.Test.YtglmonlofejcgaaGreatDoorTests5
set_option maxRecDepth 100000
noncomputable section
open Bool renaming and_eq_true → apu
open List renaming getElem?_eq_getElem → apv, all_eq_true → apw, range → apy
open Nat renaming le_refl → apx
set_option linter.unusedSectionVars false
set_option linter.unusedVariables false
namespace Go.Proofs.YtglmonlofejcgaaGreatDoor
namespace Am
open Go.RowKit
def bn (l : Int) (d : Bool) (f : Int) : List UInt8 := (bif d then [42] else []) ++ (120 :: bM l) ++ (if f = 1 then [46, 49] else if f = 2 then [46, 50] else [])
def triples : List (Nat × Bool × Nat) := (apy 16).flatMap fun l => [false, true].flatMap fun d => (apy 3).map fun f => (l, d, f)
theorem Yn : ∀ (l : Nat) (d : Bool) (f : Nat), l < 16 -> f < 3 -> (l, d, f) ∈ triples := fun l d f hl hf => by
 simp only [triples, List.mem_flatMap, List.mem_map, List.mem_range]
 exact ⟨l, hl, d, by cases d <;> simp, f, hf, rfl⟩
abbrev akd (f : FuncId) (t : Nat × Bool × Nat) : R := @runs Know.nought (mY Tryz.prog) (nC Tryz.prog) numO 10 10 f [.g [.int .i64 t.1, .bool t.2.1, .int .u8 t.2.2]] ⟨[], 0⟩ 0
def zY (t : Nat × Bool × Nat) : Bool :=
 vY (.t [.s (.str (bn t.1 t.2.1 t.2.2)), .s (.int .i64 0)]) (akd 70 t) &&
 vY (.a (.s (.str (bn t.1 t.2.1 t.2.2)))) (akd 113 t) && Nat.ble (bn t.1 t.2.1 t.2.2).length 21
theorem ZK : triples.all zY = true := by kernel_rfl
theorem a5V {v : V} {r : R} (h : vY v r = true) : ∃ h', r = some (v, h') := by
 cases r with
 | none => cases h
 | some p =>
  obtain ⟨v', h'⟩ := p
  have h : V.same v' v = true := h
  letI : Base := Base.known Know.nought (aG.nought (fun _ => 0) (fun _ => [])) 0 default
  rw [V.jO h]
  exact ⟨h', rfl⟩
structure InP (l f : Int) : Prop where
 l0 : 0 <= l
 l1 : l <= 15
 f0 : 0 <= f
 f1 : f <= 2
theorem Eb {l f : Int} (h : InP l f) (d : Bool) : zY (l.toNat, d, f.toNat) = true := by
 have := h.l0; have := h.l1; have := h.f0; have := h.f1
 exact apw.1 ZK _ (Yn _ _ _ (by omega) (by omega))
theorem InP.toNat {l f : Int} (h : InP l f) : ((l.toNat : Nat) : Int) = l /\ ((f.toNat : Nat) : Int) = f := by
 have := h.l0; have := h.f0
 omega
theorem ZH {l f : Int} (h : InP l f) (d : Bool) : (bn l d f).length <= 21 := by
 have h1 := Eb h d
 obtain ⟨e1, e2⟩ := h.toNat
 unfold zY at h1
 simp only [apu, e1, e2] at h1
 exact Nat.le_of_ble_eq_true h1.2
abbrev Pl := Nat × Nat × Nat
def plT (p : Pl) : List S := [.xi .i64 p.1, .xe [(p.2.1, 1)], .xi .u8 p.2.2]
def a7z (L : Lf) (p : Pl) : Bool := Option.rec false (fun a => Option.rec false (fun b => decide (0 <= a.1) && decide (a.2 <= 15) && decide (0 <= b.1) && decide (b.2 <= 2)) (nth L.iv (L.rep p.2.2))) (nth L.iv (L.rep p.1))
def GI (L : Lf) (cells : List S) : Nat -> List Pl -> Option Nat
 | _, [] => none
 | j, p :: r => bif iE S.eqv ((plT p).map L.nS) cells && a7z L p then some (256 + j) else GI L cells (j + 1) r
def plG (L : Lf) (n : Nat) (pls : List Pl) (mk : Nat -> V) (args : List A) : Option V := match args with
 | [.g cells] => ob (GI L cells n pls) fun h => some (mk h)
 | _ => none
def PlE (n : Nat) (pls : List Pl) (rho : Nat -> Int) (sig : Nat -> List UInt8) : Prop := ∀ j p, pls[j]? = some p -> InP (rho p.1) (rho p.2.2) -> sig (n + j) = bn (rho p.1) (decide (rho p.2.1 = 1)) (rho p.2.2)
theorem zV {L : Lf} {cells : List S} : ∀ {pls : List Pl} {n h : Nat}, GI L cells n pls = some h -> ∃ j p, pls[j]? = some p /\ h = 256 + (n + j) /\ (plT p).map L.nS = cells /\ a7z L p = true
 | [], _, _, e => by cases e
 | p :: r, n, h, e => by
  have e : (bif iE S.eqv ((plT p).map L.nS) cells && a7z L p then some (256 + n) else GI L cells (n + 1) r) = some h := e
  cases hc : (iE S.eqv ((plT p).map L.nS) cells && a7z L p) <;> rw [hc] at e <;> simp only [cond_true, cond_false] at e
  ·obtain ⟨j, q, h1, h2, h3⟩ := zV e
   exact ⟨j + 1, q, by simpa using h1, by omega, h3⟩
  ·cases e
   simp only [apu] at hc
   letI : Base := Base.known Know.nought (aG.nought (fun _ => 0) (fun _ => [])) 0 default
   exact ⟨0, p, rfl, rfl, O4 (fun _ _ => S.vJ) hc.1, hc.2⟩
section
variable [Base] {L : Lf}
def S.sc (x : S) : Bool := match x with | .bool _ | .int .. | .xi .. | .xe _ | .xs _ | .str _ => true | _ => false
theorem VS.only {r : Ren} {x : S} (h : x.sc = true) {v v' : Value} (k : VS r x v) (k' : VS r x v') : v = v' := by
 cases x <;> simp [S.sc] at h <;> exact k.trans k'.symm
theorem akz (kd : IntKind) (i : Nat) : (L.nS (.xi kd i)).sc = true := by
 show (S.aiZ kd (L.rep i) (nth L.iv (L.rep i))).sc = true
 cases nth L.iv (L.rep i) with
 | none => rfl
 | some p =>
  show S.sc (bif decide (p.1 = p.2) then _ else _) = true
  cases decide (p.1 = p.2) <;> rfl
theorem anv (l : List (Nat × Int)) : (L.nS (.xe l)).sc = true := by
 show (S.ai7 _ (@Du L.Fh (l.map fun p => (L.rep p.1, p.2)))).sc = true
 cases @Du L.Fh (l.map fun p => (L.rep p.1, p.2)) <;> rfl
theorem V8 {r : Ren} (h : L.Holds Base.rho Base.sig) {p : Pl} {us : List Value} (hu : ak (VS r) ((plT p).map L.nS) us) :
  us = [.int .i64 (Base.rho p.1), .bool (decide (Base.rho p.2.1 = 1)), .int .u8 (Base.rho p.2.2)] := by
 match us, hu with
 | [a, b, c], ⟨h1, h2, h3, _⟩ =>
  have e1 := VS.only (akz _ _) h1 (Lf.Xm h (show VS r (.xi .i64 p.1) (.int .i64 (Base.rho p.1)) from rfl))
  have e2 := VS.only (anv _) h2 (Lf.Xm h (show VS r (.xe [(p.2.1, 1)]) (.bool (decide (Base.rho p.2.1 = 1))) by show _ = _; simp))
  have e3 := VS.only (akz _ _) h3 (Lf.Xm h (show VS r (.xi .u8 p.2.2) (.int .u8 (Base.rho p.2.2)) from rfl))
  rw [e1, e2, e3]
theorem VB (h : L.Holds Base.rho Base.sig) {p : Pl} (hp : a7z L p = true) : InP (Base.rho p.1) (Base.rho p.2.2) := by
 unfold a7z at hp
 cases ha : nth L.iv (L.rep p.1) with
 | none => rw [ha] at hp; cases hp
 | some a =>
  cases hb : nth L.iv (L.rep p.2.2) with
  | none => rw [ha, hb] at hp; cases hp
  | some b =>
   simp only [ha, hb, apu, decide_eq_true_eq] at hp
   have h1 := h.iv _ _ ha
   have h2 := h.iv _ _ hb
   rw [Lf.a0R h] at h1 h2
   exact ⟨by omega, by omega, by omega, by omega⟩
end
theorem ZT {w0 w : World} (k : dL w0) (hw : ∀ b, b < 3 -> w.heap[b]? = w0.heap[b]?) {l f : Int} (h : InP l f) (d : Bool) {F : FuncId} {v : V} (hv : vY v (akd F (l.toNat, d, f.toNat)) = true) :
  Calls Tryz.prog F #[.agg #[.int .i64 l, .bool d, .int .u8 f]] w fun e w' => ∃ u, e = .returned u /\ (∃ r', @VV (base0 w0 (aG.nought (fun _ => 0) (fun _ => []))) r' v u) /\ Below w.heap.size w w' := by
 obtain ⟨h', hr⟩ := a5V hv
 obtain ⟨e1, e2⟩ := h.toNat
 letI b0 : Base := base0 w0 (aG.nought (fun _ => 0) (fun _ => []))
 have hsz : 3 <= w.heap.size := by
  have hs := k.size
  have h3 : w0.heap[2]? = some w0.heap[2] := Array.getElem?_eq_getElem (by omega)
  have := (Array.getElem?_eq_some_iff.1 ((hw 2 (by decide)).trans h3)).1
  omega
 refine (iC w hsz hw (CJ (aG.nought (fun _ => 0) (fun _ => [])) (Rx (aG.nought (fun _ => 0) (fun _ => [])) k) 10 10) (vs := [.agg #[.int .i64 l, .bool d, .int .u8 f]]) ?_ hr).mono fun e w' ⟨u, r', k1, k2, k3⟩ => ⟨u, k1, ⟨r', k2⟩, k3⟩
 refine ⟨⟨[.int .i64 l, .bool d, .int .u8 f], rfl, ?_, rfl, ?_, trivial⟩, trivial⟩
 ·show Value.int .i64 l = .int .i64 ((l.toNat : Nat) : Int)
  rw [e1]
 ·show Value.int .u8 f = .int .u8 ((f.toNat : Nat) : Int)
  rw [e2]
section
variable {w0 : World} {K : Know} {rho : Nat -> Int} {sig : Nat -> List UInt8} (ok : aG K rho sig)
def plO (L : Lf) (n : Nat) (pls : List Pl) : aS := fun f a h fl =>
 orR (qE 70 (plG L n pls fun h => .t [.s (.xs [h]), .s (.int .i64 0)]) f a h fl)
  (qE 113 (plG L n pls fun h => .a (.s (.xs [h]))) f a h fl)
theorem Ti {L : Lf} (hL : L.Holds rho sig) {n : Nat} {pls : List Pl} (hE : PlE n pls rho sig) (k : dL w0) {F : FuncId} (hF : dG Tryz.prog F) {mk : Nat -> V} (at' : List UInt8 -> V)
  (hrun : ∀ l d f, InP l f -> vY (at' (bn l d f)) (akd F (l.toNat, d, f.toNat)) = true)
  (hmk : ∀ r r' h t u, bH sig [h] = t -> @VV (base0 w0 (aG.nought (fun _ => 0) (fun _ => []))) r' (at' t) u -> @VV (base0 w0 ok) r (mk h) u) : @Sound (base0 w0 ok) Tryz.prog (qE F (plG L n pls mk)) := by
 letI : Base := base0 w0 ok
 refine jk hF fun args v hg r vs ha w hw => ?_
 unfold plG at hg
 split at hg
 ·rename_i cells
  obtain ⟨u, rfl, hu⟩ := EZ ha
  obtain ⟨us, rfl, hu⟩ := hu
  obtain ⟨q, hq, hg⟩ := aj hg
  cases hg
  obtain ⟨j, p, hj, rfl, rfl, hp⟩ := zV hq
  obtain rfl := V8 hL hu
  have hin := VB hL hp
  refine (ZT k hw hin _ (hrun _ _ _ hin)).mono fun e w' ⟨u, e1, ⟨r', e2⟩, e3⟩ => ⟨u, e1, hmk r r' _ _ u ?_ e2, e3⟩
  rw [gU]
  exact hE j p hj hin
 ·cases hg
theorem aho {L : Lf} (hL : L.Holds rho sig) {n : Nat} {pls : List Pl} (hE : PlE n pls rho sig) (k : dL w0) : @Sound (base0 w0 ok) Tryz.prog (plO L n pls) := by
 have hT : ∀ r r' h t u, bH sig [h] = t -> @VV (base0 w0 (aG.nought (fun _ => 0) (fun _ => []))) r' (.t [.s (.str t), .s (.int .i64 0)]) u -> @VV (base0 w0 ok) r (.t [.s (.xs [h]), .s (.int .i64 0)]) u := by
  intro r r' h t u ht hu
  obtain ⟨us, rfl, hu⟩ := hu
  refine ⟨us, rfl, ?_⟩
  match us, hu with
  | [a, b], ⟨h1, h2, _⟩ => exact ⟨by subst ht; exact h1, h2, trivial⟩
 have hA : ∀ r r' h t u, bH sig [h] = t -> @VV (base0 w0 (aG.nought (fun _ => 0) (fun _ => []))) r' (.a (.s (.str t))) u -> @VV (base0 w0 ok) r (.a (.s (.xs [h]))) u := by
  intro r r' h t u ht hu
  subst ht
  exact hu
 have hr := fun l d f (h : InP l f) => Eb h d
 simp only [zY, apu] at hr
 have e0 := fun l f (h : InP l f) => (h.toNat).1
 have e1 := fun l f (h : InP l f) => (h.toNat).2
 refine @dZ (base0 w0 ok) _ _ _ (Ti ok hL hE k ⟨_, Tryz.func70, by kernel_rfl, by kernel_rfl⟩ (fun t => .t [.s (.str t), .s (.int .i64 0)]) (fun l d f h => ?_) hT)
  (Ti ok hL hE k ⟨_, Tryz.func113, by kernel_rfl, by kernel_rfl⟩ (fun t => .a (.s (.str t))) (fun l d f h => ?_) hA)
 ·have := (hr l d f h).1.1
  simp only [e0 l f h, e1 l f h] at this
  exact this
 ·have := (hr l d f h).1.2
  simp only [e0 l f h, e1 l f h] at this
  exact this
end
def plX (cs : List Value) (pls : List Pl) : List (List UInt8) := pls.map fun p =>
 bif decide (0 <= dw cs p.1) && decide (dw cs p.1 <= 15) && decide (0 <= dw cs p.2.2) && decide (dw cs p.2.2 <= 2) then bn (dw cs p.1) (decide (dw cs p.2.1 = 1)) (dw cs p.2.2) else []
theorem JL (cs : List Value) (pls : List Pl) : ∀ x, x ∈ plX cs pls -> x.length <= 21 := fun x hx => by
 simp only [plX, List.mem_map] at hx
 obtain ⟨p, _, rfl⟩ := hx
 cases hc : (decide (0 <= dw cs p.1) && decide (dw cs p.1 <= 15) && decide (0 <= dw cs p.2.2) && decide (dw cs p.2.2 <= 2)) with
 | false => simp
 | true =>
  simp only [apu, decide_eq_true_eq] at hc
  exact ZH ⟨hc.1.1.1, hc.1.1.2, hc.1.2, hc.2⟩ _
theorem al8 {cs : List Value} {pls : List Pl} (hp : pls.all (fun p => decide (p.1 < cs.length) && decide (p.2.1 < cs.length) && decide (p.2.2 < cs.length)) = true) : PlE cs.length pls (dw (jP cs (plX cs pls))) (fG (jP cs (plX cs pls))) := by
 intro j p hj hin
 have hm := apw.1 hp p (List.mem_of_getElem? hj)
 simp only [apu, decide_eq_true_eq] at hm
 obtain ⟨⟨h1, h2⟩, h3⟩ := hm
 rw [o7 h1, o7 h3] at hin
 rw [o7 h1, o7 h2, o7 h3]
 refine akB ?_
 rw [plX, List.getElem?_map, hj]
 simp only [Option.map_some, Option.some.injEq]
 rw [show (decide (0 <= dw cs p.1) && decide (dw cs p.1 <= 15) && decide (0 <= dw cs p.2.2) && decide (dw cs p.2.2 <= 2)) = true by
  simp only [apu, decide_eq_true_eq]; exact ⟨⟨⟨hin.l0, hin.l1⟩, hin.f0⟩, hin.f1⟩]
 rfl
def Fz (k : Option Kd) : Bool := match k with | some (.i .i64) => true | _ => false
def U8 (ks : List Kd) (args : List A) : Option V := match args with
 | [.s (.xi .i64 i)] => bif Fz (nth ks i) then some (.a (.s (.xs [256 + i]))) else none
 | _ => none
def akH (ks : List Kd) (args : List A) : Option V := match args with
 | [.s (.xi .i64 i), .s (.int .i64 b)] => bif Fz (nth ks i) && b == 10 then some (.a (.s (.xs [256 + i]))) else none
 | _ => none
def aap (ks : List Kd) : aS := qE 36 (U8 ks)
def akR (ks : List Kd) : aS := qE 101 (akH ks)
def alj (ks : List Kd) : aS := qE 111 (U8 ks)
theorem E8 {ks : List Kd} {i : Nat} (h : Fz (nth ks i) = true) : nth ks i = some (.i .i64) := by
 unfold Fz at h
 split at h
 ·assumption
 ·cases h
section
variable {w0 : World} {K : Know} {rho : Nat -> Int} {sig : Nat -> List UInt8} (ok : aG K rho sig) {ks : List Kd}
theorem XI (d : Dec ks rho sig) (k : dL w0) : @Sound (base0 w0 ok) Tryz.prog (aap ks) := by
 letI : Base := base0 w0 ok
 refine jk ⟨_, Tryz.func36, by kernel_rfl, by kernel_rfl⟩ fun args v hg r vs ha w hw => ?_
 unfold U8 at hg
 split at hg
 ·rename_i i
  obtain ⟨u, rfl, hu⟩ := EZ ha
  cases hu
  cases hi : Fz (nth ks i) <;> rw [hi] at hg <;> cases hg
  obtain ⟨e, h0, h1⟩ := d i (E8 hi)
  refine (Tryz.strconv_Itoa (rho i) h0 h1 w (k.here hw)).mono fun e' w' ⟨e1, n', os, e2⟩ => ⟨_, e1, ?_, ?_⟩
  ·show _ = _
   rw [gU, show Base.sig i = bM (rho i) from e]
   exact congrArg (fun l : List UInt8 => Value.string ⟨l.toArray⟩) (xu (rho i) h0 h1).symm
  ·rw [e2]; exact Lib.below_grow _ _ (apx _) _ _
 ·cases hg
theorem ZM (d : Dec ks rho sig) (k : dL w0) : @Sound (base0 w0 ok) Tryz.prog (akR ks) := by
 letI : Base := base0 w0 ok
 refine jk ⟨_, Tryz.func101, by kernel_rfl, by kernel_rfl⟩ fun args v hg r vs ha w hw => ?_
 unfold akH at hg
 split at hg
 ·rename_i i b
  obtain ⟨u, u', rfl, hu, hu'⟩ := FI ha
  cases hu
  cases hu'
  cases hi : (Fz (nth ks i) && b == 10) <;> rw [hi] at hg <;> cases hg
  simp only [apu, beq_iff_eq] at hi
  obtain ⟨hi, rfl⟩ := hi
  obtain ⟨e, h0, h1⟩ := d i (E8 hi)
  refine (Tryz.strconv_FormatInt_10 (rho i) h0 h1 w (k.here hw)).mono fun e' w' ⟨e1, n', os, e2⟩ => ⟨_, e1, ?_, ?_⟩
  ·show _ = _
   rw [gU, show Base.sig i = bM (rho i) from e]
   exact congrArg (fun l : List UInt8 => Value.string ⟨l.toArray⟩) (xu (rho i) h0 h1).symm
  ·rw [e2]; exact Lib.below_grow _ _ (apx _) _ _
 ·cases hg
theorem a1g (d : Dec ks rho sig) : @Sound (base0 w0 ok) Tryz.prog (alj ks) := by
 letI : Base := base0 w0 ok
 refine jk ⟨_, Tryz.func111, by kernel_rfl, by kernel_rfl⟩ fun args v hg r vs ha w hw => ?_
 unfold U8 at hg
 split at hg
 ·rename_i i
  obtain ⟨u, rfl, hu⟩ := EZ ha
  cases hu
  cases hi : Fz (nth ks i) <;> rw [hi] at hg <;> cases hg
  obtain ⟨e, h0, h1⟩ := d i (E8 hi)
  refine (H6 (rho i) h0 h1 w).mono fun e' w' ⟨e1, e2⟩ => ⟨_, e1, ?_, e2⟩
  show _ = _
  rw [gU, show Base.sig i = bM (rho i) from e]
 ·cases hg
def akY (ks : List Kd) : aS := fun f a h fl => orR (numO f a h fl) (orR (aap ks f a h fl) (orR (akR ks f a h fl) (alj ks f a h fl)))
theorem a1n (d : Dec ks rho sig) (k : dL w0) : @Sound (base0 w0 ok) Tryz.prog (akY ks) :=
 @dZ (base0 w0 ok) _ _ _ (Rx ok k) (@dZ (base0 w0 ok) _ _ _ (XI ok d k) (@dZ (base0 w0 ok) _ _ _ (ZM ok d k) (a1g ok d)))
end
end Am
open Go.RowKit Am
namespace Am
def amL (L : Lf) (ks : List Kd) (pls : List Pl) (more : aS) : aS := fun f a h fl =>
 orR (more f a h fl) (orR (plO L ks.length pls f a h fl) (akY ks f a h fl))
section
variable {w0 : World} {rho : Nat -> Int} {sig : Nat -> List UInt8} {L : Lf} {ks : List Kd} {pls : List Pl}
theorem NI (hL : L.Holds rho sig) (kk : Lens (fD 0 ks) rho sig) (d : Dec ks rho sig) (e : PlE ks.length pls rho sig) (k : dL w0) {more : aS} (hm : @Sound (base0 w0 (Lf.ok hL kk)) Tryz.prog more) :
  @Sound (base0 w0 (Lf.ok hL kk)) Tryz.prog (amL L ks pls more) :=
 @dZ (base0 w0 (Lf.ok hL kk)) _ _ _ hm (@dZ (base0 w0 (Lf.ok hL kk)) _ _ _ (aho (Lf.ok hL kk) hL e k) (a1n (Lf.ok hL kk) d k))
end
def noO : aS := fun _ _ _ _ => none
theorem YR (b : Base) : @Sound b Tryz.prog noO := fun _ _ _ _ _ _ h => by cases h
abbrev kJ : List Kd := oK ++ .i .i64 :: kW
def G5 (i : Nat) (c : Int) : E := .ands [.not (.lt i 0), .lt i c]
def a8t : E :=
 .or (.ands [.zero [(0, 1)], .zero (zs 1 6), G5 7 24, .zero (zs 8 5)])
 (.or (.ands [.zero [(0, 2)], .zero [(14, 1)], .zero [(6, 0)], G5 7 24, G5 8 24, .zero (zs 9 4)])
 (.or (.ands [.or (.zero [(0, 3)]) (.zero [(0, 5)]), .zero (zs 1 12)])
 (.ands [.zero [(0, 4)], .zero (zs 1 5), G5 6 8, G5 7 24, .zero [(8, 0)], .lt 9 9, .zero [(15, 1)], .zero [(13, 1)]])))
def aU (pre : List Value) (els : List (List Value)) (post : List Value) : List Value := pre ++ Value.int .i64 els.length :: post
def lI (pre : List Value) (els : List (List Value)) (post : List Value) : List Int :=
 [b2i (els.all fun el => (aY 0).val el), b2i ((aY 1).val (aU pre els post)), b2i ((dS 10).val (aU pre els post))]
def okJ (pre : List Value) (els : List (List Value)) (post : List Value) : Bool := a8t.val (aU pre els post ++ (lI pre els post).map (Value.int .i64))
def Ur (F : FuncId) (val : Bool -> Value) : Prop :=
 ∀ (w : World) (v : Value) (pre : List Value) (sv : Value) (post : List Value) (els : List (List Value)), dO w v pre sv post els -> Calls Tryz.prog F #[v] w fun e w' => e = .returned (val (okJ pre els post)) /\ Below w.heap.size w w'
def jB (L : Lf) : List aS := letI := L.know []
 [sV 95 (clL L 10 kPl) 15 m8, sV 127 (clL L 10 kPl) 15 m8, sV 97 (clL L 1 kOp) 14 m8, sV 129 (clL L 1 kOp) 14 m8]
def aoQ (F : FuncId) (L : Lf) : R := @rC (L.know []) (mY Tryz.prog) (nC Tryz.prog) (Jp (jB L)) tbJ (VO L) 30 15 F (([.g uY] : List A).map L.nA) ⟨[], 0⟩ 0
def jAt (mk : Bool -> V) (F : FuncId) (L : Lf) : Bool := Option.rec false (fun b => vY (mk b) (aoQ F L)) (@E.abs (L.know []) ((bV 0 kJ ++ [S.xi .i64 13, S.xi .i64 14, S.xi .i64 15]).map L.nS) a8t)
def L0J : Lf := (Lf.l9 [(true, kJ)] [] [(0, 1), (0, 1), (0, 1)]).lo 9 0
theorem b01 (b : Bool) : (0 : Int) <= b2i b /\ b2i b <= 1 := by cases b <;> decide
section
variable {w : World} {v : Value} {pre : List Value} {sv : Value} {post : List Value} {els : List (List Value)} (hj : dO w v pre sv post els)
include hj
theorem fH : pre.length = 9 := by have := hj.pre.len; simp [oK] at this; omega
theorem tV : post.length = 3 := by have := hj.post.len; simp [kW] at this; omega
theorem qj : ak Kd.ok kJ (aU pre els post) :=
 hj.pre.app ⟨⟨_, rfl, by show (-9223372036854775808 : Int) <= _; omega, hj.ops.most⟩, hj.post⟩
theorem iF : (aU pre els post).length = 13 := by have := (qj hj).len; simp [kJ, oK, kW] at this; omega
theorem EY : Gps [(true, kJ)] [.agg (aU pre els post).toArray] (aU pre els post) := ⟨aU pre els post, [], (List.append_nil _).symm, ⟨qj hj, .inl ⟨rfl, rfl⟩⟩, rfl⟩
theorem jg : ah (aU pre els post) 9 = els.length := by
 unfold ah aU
 rw [List.getElem?_append_right (by have := fH hj; omega), fH hj]
 rfl
theorem aak {L : Lf} [b0 : Base] (hK : b0.toKnow = L.know []) {full : List Value} {ints : List Value} (hf : full = aU pre els post ++ ints) (h1 : Base.rho = dw full) (h2 : Base.sig = fG full) (hL : L.Holds Base.rho Base.sig)
  (r14 : Base.rho 14 = b2i ((aY 1).val (aU pre els post))) (r15 : Base.rho 15 = b2i ((dS 10).val (aU pre els post))) : Sound Tryz.prog (Jp (jB L)) := by
 have hk := qj hj
 have hlen := iF hj
 subst hf
 have hp : ak Kd.ok kPl (((aU pre els post).drop 10).take 3) := (hk.drop 10).take 3
 have ho : ak Kd.ok kOp (((aU pre els post).drop 1).take 5) := (hk.drop 1).take 5
 have cp : ak (VS r0) (clL L 10 kPl) (((aU pre els post).drop 10).take 3) := D8 hL h1 h2 (EO (aU pre els post) _ 10 3) (by simp [hlen]) hp
 have co : ak (VS r0) (clL L 1 kOp) (((aU pre els post).drop 1).take 5) := D8 hL h1 h2 (EO (aU pre els post) _ 1 5) (by simp [hlen]) ho
 have e14 : (aY 0).val (((aU pre els post).drop 1).take 5) = (aY 1).val (aU pre els post) := (wo (aY 0) (by decide)).trans rfl
 rw [<- e14] at r14
 rw [<- abH] at r15
 have key : ∀ O ∈ @List.cons aS (@sV b0.toKnow 95 (clL L 10 kPl) 15 m8) [@sV b0.toKnow 127 (clL L 10 kPl) 15 m8, @sV b0.toKnow 97 (clL L 1 kOp) 14 m8, @sV b0.toKnow 129 (clL L 1 kOp) 14 m8], Sound Tryz.prog O := by
  intro O hO
  simp only [List.mem_cons, List.not_mem_nil, or_false] at hO
  rcases hO with rfl | rfl | rfl | rfl
  ·exact jV ⟨_, Tryz.func95, by kernel_rfl, by kernel_rfl⟩ (kK L kPl 10 rfl) cp r15 (fun _ => rfl) fun w _ => uj _ hp w trivial
  ·exact jV ⟨_, Tryz.func127, by kernel_rfl, by kernel_rfl⟩ (kK L kPl 10 rfl) cp r15 (fun _ => rfl) fun w _ => zX _ hp w trivial
  ·exact jV ⟨_, Tryz.func97, by kernel_rfl, by kernel_rfl⟩ (kK L kOp 1 rfl) co r14 (fun _ => rfl) fun w _ => uK _ ho w trivial
  ·exact jV ⟨_, Tryz.func129, by kernel_rfl, by kernel_rfl⟩ (kK L kOp 1 rfl) co r14 (fun _ => rfl) fun w _ => uh _ ho w trivial
 rw [hK] at key
 exact jL key
theorem abZ {bo : Base} (hnb : bo.nb = w.heap.size) (hg : bo.g = fun b => w.heap[b]?) (hl : bo.rho 9 = els.length) (hv : (bo.lst 0).v = sv) (h13 : bo.rho 13 = b2i (els.all fun el => (aY 0).val el)) {L : Lf} (hL : L.Holds bo.rho bo.sig) :
  ∀ f F c, Tryz.prog.funcs[f]? = some F -> F.body = some c -> Loops.ok (@aO bo Tryz.prog (VO L f)) c := by
 let cs : Nat -> Int := fun i => match els[i]? with | some el => bif (aY 0).val el then 0 else 8 | none => 0
 have hcs : ∀ i el, els[i]? = some el -> v8 ((aY 0).val el) = .int .i64 (cs i) := fun i el h => by
  simp only [cs, h]
  cases (aY 0).val el <;> rfl
 have hs : ∀ i el, els[i]? = some el -> Says 97 el (cs i) := fun i el h w => by rw [<- hcs i el h]; exact uK el (hj.ops.kd i el h) w trivial
 have hs' : ∀ i el, els[i]? = some el -> Says 129 el (cs i) := fun i el h w => by rw [<- hcs i el h]; exact uh el (hj.ops.kd i el h) w trivial
 have hall : ∀ i, i < els.length -> ((aY 0).val ((els[i]?).getD []) = true ↔ cs i = 0) := fun i hi => by
  simp only [cs, apv hi, Option.getD_some]
  cases (aY 0).val els[i] <;> simp
 intro f F c hF hc
 unfold VO
 cases hp : nth L.iv 13 with
 | none => exact Loops.qU (fun c => @aO.none bo _ c) c
 | some p =>
  have hiv : p.1 <= bo.rho 13 /\ bo.rho 13 <= p.2 := hL.iv 13 p hp
  show Loops.ok (@aO bo Tryz.prog ((bif decide (p = (1, 1)) then Gm else bif decide (p = (0, 0)) then P9 else G7) f)) c
  cases h1 : decide (p = (1, 1)) with
  | true =>
   simp only [decide_eq_true_eq] at h1
   subst h1
   have hb : (els.all fun el => (aY 0).val el) = true := by
    cases hb : (els.all fun el => (aY 0).val el)
    ·rw [h13, hb] at hiv; simp [b2i] at hiv
    ·rfl
   refine Zo hj.ops hs hs' hnb hg hl hv (fun i hi => (hall i hi).1 ?_) f F c hF hc
   rw [apv hi]
   exact apw.1 hb _ (List.getElem_mem _)
  | false =>
   cases h2 : decide (p = (0, 0)) with
   | true =>
    simp only [decide_eq_true_eq] at h2
    subst h2
    have hb : (els.all fun el => (aY 0).val el) = false := by
     cases hb : (els.all fun el => (aY 0).val el)
     ·rfl
     ·rw [h13, hb] at hiv; simp [b2i] at hiv
    rcases U0 cs els.length with h | ⟨N, k1, k2, k3⟩
    ·refine absurd (apw.2 fun el hel => ?_) (by rw [hb]; decide)
     obtain ⟨i, hi, e⟩ := List.getElem_of_mem hel
     have := (hall i hi).2 (h i hi)
     rw [apv hi, e] at this
     exact this
    ·have k8 : cs N = 8 := by
      simp only [cs, apv k1] at k3 |-
      cases hh : (aY 0).val els[N] <;> rw [hh] at k3 <;> simp at k3 |-
     exact a4B hj.ops hs hs' hnb hg hl hv k1 k2 k8 f F c hF hc
   | false => exact Loops.qU (fun c => @aO.none bo _ c) c
@[reducible] def tK (_ : dO w v pre sv post els) (ints : List Int) : Base :=
 { Know.nought with nb := w.heap.size, g := fun k => w.heap[k]?, rho := dw (behind (aU pre els post) [] ints), sig := fG (behind (aU pre els post) [] ints), ok := aG.nought _ _, lst := fun _ => ⟨sv, els⟩ }
theorem a4p (ints : List Int) : ak (@VA (tK hj ints) r0) [.g uY] [v] := by
 letI : Base := tK hj ints
 have hlenP := fH hj
 refine ⟨⟨pre ++ sv :: post, hj.v, ?_⟩, trivial⟩
 refine ak.app ?_ ⟨?_, ?_⟩
 ·exact kL (pre := []) (us := pre) (post := Value.int .i64 els.length :: post ++ ints.map (Value.int .i64)) rfl rfl (by simp [behind, aU]) hj.pre
 ·obtain ⟨A, c, e⟩ := hj.ops.sl
  exact ⟨A, els.length, c, e, e⟩
 ·have := kL (r := r0) (cs := behind (aU pre els post) [] ints) (pre := pre ++ [Value.int .i64 els.length]) (us := post) (post := ints.map (Value.int .i64)) rfl rfl (by simp [behind, aU]) hj.post
  rw [List.length_append, hlenP] at this
  exact this
theorem amK (ints : List Int) : (tK hj ints).rho 9 = els.length := by
 show dw _ 9 = _
 rw [mX (by rw [iF hj]; decide)]
 exact jg hj
theorem adF (ints : List Int) : @bg (tK hj ints) tbJ := by
 letI : Base := tK hj ints
 refine ⟨fun l j hj' => ?_, fun l i cs hj' => (by cases hj'), fun i c j hj' => (by cases hj')⟩
 have hj' : (bif Nat.beq 0 l then some 9 else none) = some j := hj'
 cases hb : Nat.beq 0 l <;> rw [hb] at hj' <;> cases hj'
 obtain ⟨A, c, e⟩ := hj.ops.sl
 exact ⟨A, els.length, c, e, amK hj ints⟩
theorem a6a {ivI : List (Int × Int)} {i0 i1 : List Int} (hI : ak (fun p (m : Int) => p.1 <= m /\ m <= p.2) ivI i0) : ((Lf.l9 [(true, kJ)] [] ivI).lo 9 0).Holds (tK hj (i0 ++ i1)).rho (tK hj (i0 ++ i1)).sig :=
 (Lf.yT (EY hj) (ivS := []) (strs := []) trivial rfl hI).lo (i := 9) (c := 0) (by
  have := amK hj (i0 ++ i1)
  show (0 : Int) <= (tK hj (i0 ++ i1)).rho 9
  rw [this]
  omega)
theorem anw (ints : List Int) : Lens [] (tK hj ints).rho (tK hj ints).sig := rY (n := 13) (a := 0) (EY hj) rfl (iF hj) rfl
theorem a7L (ints : List Int) {j : Nat} {x : Int} (h : ints[j]? = some x) : (tK hj ints).rho (13 + j) = x := iy (a := 0) (strs := []) (iF hj) rfl h
end
theorem MH {F : FuncId} {mk : Bool -> V} {val : Bool -> Value} (hmk : ∀ (b0 : Base) r b u, @VV b0 r (mk b) u -> u = val b) {sp : Sp} (hrun : ((sp.leaves L0J).all (jAt mk F)) = true) : Ur F val := by
 intro w v pre sv post els hj
 obtain ⟨L, hm, hL⟩ := sp.cover (a6a hj (ivI := [(0, 1), (0, 1), (0, 1)]) (i0 := lI pre els post) (i1 := []) ⟨b01 _, b01 _, b01 _, trivial⟩)
 have hp := apw.1 hrun L hm
 let b : Base := tK hj (lI pre els post ++ [])
 letI bL : Base := b.aH (L.know []) (Lf.ok hL (anw hj _))
 have hc : ak (VS r0) ((bV 0 kJ ++ [S.xi .i64 13, S.xi .i64 14, S.xi .i64 15]).map L.nS) (aU pre els post ++ (lI pre els post).map (Value.int .i64)) := by
  refine @Lf.Ov bL L r0 hL _ _ (ak.app (@kL bL r0 (behind (aU pre els post) [] (lI pre els post ++ [])) rfl rfl kJ (aU pre els post) [] ((lI pre els post ++ []).map (Value.int .i64)) rfl (qj hj)) ?_)
  refine ⟨?_, ?_, ?_, trivial⟩
  ·exact congrArg (Value.int .i64) (a7L hj (lI pre els post ++ []) (j := 0) rfl).symm
  ·exact congrArg (Value.int .i64) (a7L hj (lI pre els post ++ []) (j := 1) rfl).symm
  ·exact congrArg (Value.int .i64) (a7L hj (lI pre els post ++ []) (j := 2) rfl).symm
 unfold jAt at hp
 cases hb : @E.abs (L.know []) ((bV 0 kJ ++ [S.xi .i64 13, S.xi .i64 14, S.xi .i64 15]).map L.nS) a8t with
 | none => rw [hb] at hp; cases hp
 | some q =>
  rw [hb] at hp
  obtain ⟨h', hr⟩ := zD hp
  have hbv : q = okJ pre els post := (@E.qA bL _ _ _ hc _ _ hb).symm
  have hS : @Sound bL Tryz.prog (@rC (L.know []) (mY Tryz.prog) (nC Tryz.prog) (Jp (jB L)) tbJ (VO L) 30 15) :=
   @qN bL _ _ (@sF bL Tryz.prog) _ Qq _ (aak hj (L := L) rfl (full := behind (aU pre els post) [] (lI pre els post ++ [])) rfl rfl rfl hL (a7L hj _ (j := 1) rfl) (a7L hj _ (j := 2) rfl)) DF _ (bg.aH (adF hj _) _) _
    (abZ hj (bo := bL) rfl rfl (amK hj _) rfl (a7L hj _ (j := 0) rfl) hL) 30 15
  refine (@iC bL _ w (apx _) (fun _ _ => rfl) _ hS _ _ _ (@Lf.yh bL L r0 hL _ _ (a4p hj _)) _ _ hr).mono fun x w' ⟨u, r', e1, e2, e3⟩ => ⟨?_, e3⟩
  rw [e1, hmk _ _ _ _ e2, hbv]
def anK (sel : Int -> Bool) (els : List (List Value)) : List Int := els.flatMap fun el => bif sel (ah el 0) then [ah el 2] else []
def anG (T : List Int) : List Int := (apy 16).map fun j => b2i (decide (((j : Nat) : Int) ∈ T))
def anN (sel : Int -> Bool) (els : List (List Value)) (k : Nat) : List Int :=
 (k : Int) :: ((k + 1 : Nat) : Int) :: ah ((els[k]?).getD []) 0 :: ah ((els[k]?).getD []) 1 :: ah ((els[k]?).getD []) 2 :: ah ((els[k]?).getD []) 3 :: ah ((els[k]?).getD []) 4 :: anG (anK sel (els.take k))
def qG (L : Lf) (i : Nat) (c : Int) : Lf := (L.hi i c).lo i c
section
variable {w : World} {v : Value} {pre : List Value} {sv : Value} {post : List Value} {els : List (List Value)} (hj : dO w v pre sv post els) (sel : Int -> Bool)
@[reducible] def apt (k : Nat) : Base := tK hj (anN sel els k)
end
end Am
namespace Am
def S.rG (x : S) : Bool := match x with | .rv _ => true | x => x.one
def A.eqb (x y : A) : Bool := match x, y with | .s x, .s y => x.eqb y | .g l, .g m => iE S.eqb l m | _, _ => false
theorem A.sO {x y : A} (h : x.eqb y = true) : x = y := by
 unfold A.eqb at h
 split at h
 ·rw [S.sO h]
 ·rw [a3j (fun _ _ => S.sO) h]
 ·cases h
def kU (F : FuncId) (xs0 : List A) (v : V) : aS := qE F fun args => bif iE A.eqb xs0 args then some v else none
section
variable [Base]
theorem VS.nT {r r' : Ren} {x : S} (h : x.rG = true) {v v' : Value} (k : VS r x v) (k' : VS r' x v') : v = v' := by
 by_cases hx : ∃ j, x = .rv j
 ·obtain ⟨j, rfl⟩ := hx
  obtain ⟨A, n, c, e1, e2⟩ := k
  obtain ⟨A', n', c', e3, e4⟩ := k'
  rw [e2, e4, <- e1, e3]
 ·have h1 : x.one = true := by
   cases x <;> first | exact h | exact absurd ⟨_, rfl⟩ hx
  exact VS.XZ h1 k k'
theorem OH {r r' : Ren} : ∀ {xs : List S}, xs.all S.rG = true -> ∀ {us vs : List Value}, ak (VS r) xs us -> ak (VS r') xs vs -> us = vs
 | [], _, [], [], _, _ => rfl
 | x :: xs, h, u :: us, v :: vs, hu, hv => by
  simp only [List.all_cons, apu] at h
  rw [VS.nT h.1 hu.1 hv.1, OH h.2 hu.2 hv.2]
 | [], _, [], _ :: _, _, h => h.elim
 | [], _, _ :: _, _, h, _ => h.elim
 | _ :: _, _, [], _, h, _ => h.elim
 | _ :: _, _, _ :: _, [], _, h => h.elim
def A.rG (x : A) : Bool := x.cells.all S.rG
theorem A.nT {r r' : Ren} {x : A} (h : x.rG = true) {v v' : Value} (k : VA r x v) (k' : VA r' x v') : v = v' := by
 cases x with
 | s x => exact VS.nT (by have h : ([x].all S.rG) = true := h; simpa using h) k k'
 | g l =>
  obtain ⟨us, rfl, h1⟩ := k
  obtain ⟨vs, rfl, h2⟩ := k'
  rw [OH h h1 h2]
theorem As.nT {r r' : Ren} : ∀ {xs : List A}, xs.all A.rG = true -> ∀ {us vs : List Value}, ak (VA r) xs us -> ak (VA r') xs vs -> us = vs
 | [], _, [], [], _, _ => rfl
 | x :: xs, h, u :: us, v :: vs, hu, hv => by
  simp only [List.all_cons, apu] at h
  rw [A.nT h.1 hu.1 hv.1, As.nT h.2 hu.2 hv.2]
 | [], _, [], _ :: _, _, h => h.elim
 | [], _, _ :: _, _, h, _ => h.elim
 | _ :: _, _, [], _, h, _ => h.elim
 | _ :: _, _, _ :: _, [], _, h => h.elim
theorem dF {P : Program} {F : FuncId} (hc : dG P F) {xs0 : List A} {v : V} (h1 : xs0.all A.rG = true) {us : List Value} (hus : ak (VA r0) xs0 us) {u : Value} (hu : ∀ r, VV r v u)
  (h : UK fun w => Calls P F us.toArray w fun e w' => e = .returned u /\ Below w.heap.size w w') : Sound P (kU F xs0 v) := by
 refine jk hc fun args v' hg r vs ha w hw => ?_
 cases hs : iE A.eqb xs0 args <;> rw [hs] at hg <;> simp only [cond_true, cond_false] at hg
 ·cases hg
 ·cases hg
  have e := a3j (fun _ _ => A.sO) hs
  subst e
  obtain rfl := As.nT h1 ha hus
  exact (h w hw).mono fun e w' ⟨e1, e2⟩ => ⟨u, e1, hu r, e2⟩
end
end Am
end Go.Proofs.YtglmonlofejcgaaGreatDoor
