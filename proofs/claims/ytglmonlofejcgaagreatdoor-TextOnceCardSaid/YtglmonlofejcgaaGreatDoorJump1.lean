/- What the machine says of this program, without oracles. -/
import Derived.Test.YtglmonlofejcgaaGreatDoorProg
import Derived.Test.YtglmonlofejcgaaGreatDoorAmC
import Derived.Deep.Fields
set_option maxRecDepth 100000
noncomputable section
open Nat renaming not_lt_zero → apu, beq → apw
open List renaming mem_singleton → apv, mem_nil_iff → apy, getElem?_eq_getElem → apz, mem_cons → apB
open Bool renaming and_eq_true → apx
open Array renaming getElem?_toList → apA
open Option renaming getD_some → apC
namespace Go.Proofs.YtglmonlofejcgaaGreatDoor
namespace Am
open Go.RowKit
abbrev uJ (w0 : World) {K : Know} {rho : Nat -> Int} {sig : Nat -> List UInt8} (ok : aG K rho sig) : Base := Base.known K ok 0 w0
section
variable {w0 : World} {K : Know} {rho : Nat -> Int} {sig : Nat -> List UInt8} (ok : aG K rho sig)
theorem Qq : ahd Tryz.prog (nC Tryz.prog) := by
 have hall : (Tryz.prog.funcs.toList.all fun F => !(F.name == "runtime.NumGoroutine")) = true := by kernel_rfl
 intro f F h
 refine ⟨h, ?_⟩
 have hm : F ∈ Tryz.prog.funcs.toList := by
  have h : Tryz.prog.funcs[f]? = some F := h
  rw [<- apA] at h
  exact List.mem_of_getElem? h
 simpa using List.all_eq_true.1 hall F hm
theorem DF : Tryz.prog.follows .mixedOrders = true := by kernel_rfl
def nN : aS := fun _ _ _ _ => none
theorem mV : @Sound (uJ w0 ok) Tryz.prog nN := fun _ _ _ _ _ _ h => by cases h
theorem su {lib : aS} (hl : @Sound (uJ w0 ok) Tryz.prog lib) (n d : Nat) : @Sound (uJ w0 ok) Tryz.prog (@runs K (mY Tryz.prog) (nC Tryz.prog) lib n d) :=
 @a2i (uJ w0 ok) _ _ (@sF (uJ w0 ok) Tryz.prog) _ Qq _ hl DF n d
end
def opK : List Kd := [.i .u8, .i .i64, .i .i64, .b, .i .u8]
def Says (F : FuncId) (us : List Value) (n : Int) : Prop := ∀ w : World, Calls Tryz.prog F #[.agg us.toArray] w fun e w' => e = .returned (.int .i64 n) /\ Below w.heap.size w w'
structure Ops (w : World) (v : Value) (els : List (List Value)) : Prop where
 sl : ∃ A c, v = .slice A els.length c
 most : (els.length : Int) <= 9223372036854775807
 at_ : ∀ (i : Nat) (el : List Value), els[i]? = some el -> ∃ b off c, v = .slice (some ⟨b, off, none⟩) els.length c /\ ∀ f u, el[f]? = some u -> w.cell? ⟨b, off + i * 5 + f, none⟩ = some u
 kd : ∀ (i : Nat) (el : List Value), els[i]? = some el -> ak Kd.ok opK el
 cap : els ≠ [] -> ∀ A n c, v = .slice A n c -> n <= c /\ c <= maxLen
theorem aI {α β : Type} {R : α -> β -> Prop} {k : α} {ks : List α} {l : List β} (h : ak R (k :: ks) l) : ∃ a t, l = a :: t /\ R k a /\ ak R ks t := by
 cases l with
 | nil => exact h.elim
 | cons a t => exact ⟨a, t, rfl, h.1, h.2⟩
theorem mD {α β : Type} {R : α -> β -> Prop} {l : List β} (h : ak R [] l) : l = [] := by
 cases l with
 | nil => rfl
 | cons a t => exact h.elim
theorem qM {el : List Value} (h : ak Kd.ok opK el) : ∃ a b c d e, el = [.int .u8 a, .int .i64 b, .int .i64 c, .bool d, .int .u8 e] := by
 obtain ⟨v0, l0, e0, ⟨a, ea, _⟩, h0⟩ := aI h
 obtain ⟨v1, l1, e1, ⟨b, eb, _⟩, h1⟩ := aI h0
 obtain ⟨v2, l2, e2, ⟨c, ec, _⟩, h2⟩ := aI h1
 obtain ⟨v3, l3, e3, ⟨d, ed⟩, h3⟩ := aI h2
 obtain ⟨v4, l4, e4, ⟨e, ee, _⟩, h4⟩ := aI h3
 have e5 := mD h4
 exact ⟨a, b, c, d, e, by rw [e0, e1, e2, e3, e4, e5, ea, eb, ec, ed, ee]⟩
theorem Inv.conv {b1 b2 : Base} (hv : @VS b1 = @VS b2) (hn : b1.nb = b2.nb) (hg : b1.g = b2.g) {h : Heap} {r : Ren} {B : Nat} {w : World} (i : @Inv b1 h r B w) : @Inv b2 h r B w := by
 obtain ⟨n, bb, ⟨dom, own, ro, inj, nb, z⟩⟩ := i
 rw [hv] at own ro
 exact @Inv.mk b2 _ _ _ _ n bb (@HR.mk b2 _ _ _ _ dom own ro inj (by show b2.nb <= B; rw [<- hn]; exact nb) (fun c hc => by
  have hc : c < b2.nb := hc
  show w.heap[c]? = b2.g c
  rw [<- hg]
  exact z c (by show c < b1.nb; rw [hn]; exact hc)))
theorem Sound.aH {P : Program} {b : Base} {O : aS} (h : @Sound b P O) {K : Know} (ok : aG K b.rho b.sig) : @Sound (b.aH K ok) P O := by
 intro f args hp fl v h' e
 obtain ⟨hc, hk⟩ := h f args hp fl v h' e
 refine ⟨hc, fun r B w vs hi ha => (hk r B w vs (Inv.conv (b1 := b.aH K ok) (b2 := b) rfl rfl rfl hi) ha).mono fun e w' ⟨u, e1, r', i, e2, ad⟩ => ⟨u, e1, r', Inv.conv (b1 := b) (b2 := b.aH K ok) rfl rfl rfl i, e2, ad⟩⟩
theorem bg.aH {b : Base} {T : Tabs} (h : @bg b T) {K : Know} (ok : aG K b.rho b.sig) : @bg (b.aH K ok) T := by
 obtain ⟨h1, h2, h3⟩ := h
 exact @bg.mk (b.aH K ok) T h1 h2 h3
def anP (els : List (List Value)) (k : Nat) : List Int := (els.length : Int) :: (k : Int) :: ((k + 1 : Nat) : Int) :: ((els[k]?).getD []).map bf
@[reducible] def fC (w0 : World) (v : Value) (els : List (List Value)) (k : Nat) : Base :=
 { Know.nought with nb := w0.heap.size, g := fun b => w0.heap[b]?, rho := GX (anP els k), sig := fun _ => [], ok := aG.nought _ _, lst := fun _ => ⟨v, els⟩ }
def opC : List S := [.xi .u8 3, .xi .i64 4, .xi .i64 5, .xe [(6, 1)], .xi .u8 7]
def tbO : Tabs := ⟨[(0, 0)], [(0, .x 1, opC)], [(1, 1, 2)]⟩
def tbL : Tabs := ⟨[(0, 0)], [], []⟩
def D5 (F : FuncId) (n : Int) : aS := qE F fun args => match args with | [.g cs] => bif iE S.eqb opC cs then some (.a (.s (.int .i64 n))) else none | _ => none
def Gy (T : Tabs) (O : aS) : Ctx := ⟨mY Tryz.prog, O, T, fun _ _ _ => none⟩
def VL : aS := fun _ _ _ _ => none
def L1 : Lf := ⟨[], [], [(1, 0)], [], [], [], []⟩
def L2 : Lf := ⟨[], [], [], [], [], [], []⟩
theorem a3j {α : Type} {f : α -> α -> Bool} (hf : ∀ x y, f x y = true -> x = y) : ∀ {l m : List α}, iE f l m = true -> l = m
 | [], [], _ => rfl
 | a :: l, b :: m, h => by
  simp only [iE, apx] at h
  rw [hf a b h.1, a3j hf h.2]
 | [], _ :: _, h => by cases h
 | _ :: _, [], h => by cases h
section
variable {w0 : World} {v : Value} {els : List (List Value)}
theorem ao8 {k i : Nat} : (fC w0 v els k).rho (i + 3) = GX (((els[k]?).getD []).map bf) i := rfl
theorem EP {k : Nat} {el : List Value} (he : els[k]? = some el) (hk : ak Kd.ok opK el) {F : FuncId} (hF : dG Tryz.prog F) {n : Int} (h : Says F el n) : @Sound (fC w0 v els k) Tryz.prog (D5 F n) := by
 letI : Base := fC w0 v els k
 refine jk hF fun args u hg r vs ha w _ => ?_
 split at hg
 ·rename_i cs
  cases hc : iE S.eqb opC cs <;> rw [hc] at hg <;> cases hg
  obtain rfl := a3j (fun _ _ => S.sO) hc
  match vs, ha with
  | [a], ⟨⟨us, h1, h2⟩, _⟩ =>
   subst h1
   have e : us = el := by
    obtain ⟨a, b, c, d, e, rfl⟩ := qM hk
    have hr : ∀ i x, ([Value.int .u8 a, .int .i64 b, .int .i64 c, .bool d, .int .u8 e].map bf)[i]? = some x -> (fC w0 v els k).rho (i + 3) = x := fun i x hx => by
     rw [ao8, he]
     simp only [GX, apC, aN, hx]
    have r0 := hr 0 _ rfl
    have r1 := hr 1 _ rfl
    have r2 := hr 2 _ rfl
    have r3 := hr 3 _ rfl
    have r4 := hr 4 _ rfl
    match us, h2 with
    | [u0, u1, u2, u3, u4], ⟨g0, g1, g2, g3, g4, _⟩ =>
     have g0 : u0 = .int .u8 ((fC w0 v els k).rho 3) := g0
     have g1 : u1 = .int .i64 ((fC w0 v els k).rho 4) := g1
     have g2 : u2 = .int .i64 ((fC w0 v els k).rho 5) := g2
     have g3 : u3 = .bool ([((6 : Nat), (1 : Int))].any fun p => decide ((fC w0 v els k).rho p.1 = p.2)) := g3
     have g4 : u4 = .int .u8 ((fC w0 v els k).rho 7) := g4
     rw [g0, g1, g2, g3, g4, r0, r1, r2, r4]
     simp only [List.any_cons, List.any_nil, Bool.or_false]
     rw [r3]
     cases d <;> rfl
   rw [e]
   exact (h w).mono fun e w' ⟨e1, e2⟩ => ⟨_, e1, rfl, e2⟩
 ·cases hg
theorem a3i (ho : Ops w0 v els) {k : Nat} {el : List Value} (he : els[k]? = some el) : @bg (fC w0 v els k) tbO := by
 letI : Base := fC w0 v els k
 have hk := ho.kd k el he
 have hlt : k < els.length := (List.getElem?_eq_some_iff.1 he).1
 refine ⟨fun l j h => ?_, fun l i cs h => ?_, fun i c j h => ?_⟩
 ·have h : (bif apw 0 l then some 0 else none) = some j := h
  cases hb : apw 0 l <;> rw [hb] at h <;> cases h
  obtain ⟨A, c, e⟩ := ho.sl
  exact ⟨A, els.length, c, e, rfl⟩
 ·have h : (bif apw 0 l && N.eqv (.x 1) i then some opC else none) = some cs := h
  cases hb : (apw 0 l && N.eqv (.x 1) i) <;> rw [hb] at h <;> cases h
  simp only [apx] at hb
  obtain rfl := N.vJ hb.2
  obtain ⟨b, off, c, e, hc⟩ := ho.at_ k el he
  have hn : NV (.x 1) = (k : Int) := rfl
  refine ⟨b, off, els.length, c, el, e, by rw [hn]; omega, by rw [hn]; omega, ⟨by rw [hn]; exact he, fun f u hf w hw => ?_⟩, ?_⟩
  ·have hcell := hc f u hf
   rw [hn]
   have hblk : w.heap[b]? = w0.heap[b]? := hw b (World.block_lt_of_cell? w0 ⟨b, off + k * 5 + f, none⟩ hcell)
   rw [<- hcell]
   exact World.cell?_of_block hblk
  ·obtain ⟨a, b, c, d, e, rfl⟩ := qM hk
   have hr : ∀ i x, ([Value.int .u8 a, .int .i64 b, .int .i64 c, .bool d, .int .u8 e].map bf)[i]? = some x -> (fC w0 v els k).rho (i + 3) = x := fun i x hx => by
    rw [ao8, he]
    simp only [GX, apC, aN, hx]
   have r0 := hr 0 _ rfl
   have r1 := hr 1 _ rfl
   have r2 := hr 2 _ rfl
   have r3 := hr 3 _ rfl
   have r4 := hr 4 _ rfl
   refine ⟨fun r => ?_, fun r => ?_, fun r => ?_, fun r => ?_, fun r => ?_, trivial⟩
   ·show _ = Value.int .u8 ((fC w0 v els k).rho 3); rw [r0]; rfl
   ·show _ = Value.int .i64 ((fC w0 v els k).rho 4); rw [r1]; rfl
   ·show _ = Value.int .i64 ((fC w0 v els k).rho 5); rw [r2]; rfl
   ·show _ = Value.bool ([((6 : Nat), (1 : Int))].any fun p => decide ((fC w0 v els k).rho p.1 = p.2))
    simp only [List.any_cons, List.any_nil, Bool.or_false]
    rw [r3]
    cases d <;> rfl
   ·show _ = Value.int .u8 ((fC w0 v els k).rho 7); rw [r4]; rfl
 ·have h : (bif apw 1 i && decide ((1 : Int) = c) then some 2 else none) = some j := h
  cases hb : (apw 1 i && decide ((1 : Int) = c)) <;> rw [hb] at h <;> cases h
  simp only [apx, decide_eq_true_eq] at hb
  obtain rfl := Nat.eq_of_beq_eq_true hb.1
  obtain rfl := hb.2
  have hm := ho.most
  refine ⟨?_, ?_, ?_⟩
  ·show ((k + 1 : Nat) : Int) = (k : Int) + 1
   omega
  ·show (-9223372036854775808 : Int) <= ((k + 1 : Nat) : Int)
   omega
  ·show ((k + 1 : Nat) : Int) <= 9223372036854775807
   omega
theorem a4V (ho : Ops w0 v els) (k : Nat) : @bg (fC w0 v els k) tbL := by
 letI : Base := fC w0 v els k
 refine ⟨fun l j h => ?_, fun l i cs h => (by cases h), fun i c j h => (by cases h)⟩
 have h : (bif apw 0 l then some 0 else none) = some j := h
 cases hb : apw 0 l <;> rw [hb] at h <;> cases h
 obtain ⟨A, c, e⟩ := ho.sl
 exact ⟨A, els.length, c, e, rfl⟩
theorem am3 (k : Nat) : Agree (fC w0 v els k) (fC w0 v els (k + 1)) ⟨1, 0, 1⟩ := ⟨rfl, rfl, fun i hi => by
 have hi : i < 1 := hi
 obtain rfl : i = 0 := by omega
 rfl, fun _ _ => rfl, fun _ _ => rfl⟩
theorem agree0 (b1 b2 : Base) (h1 : b1.nb = b2.nb) (h2 : b1.g = b2.g) : Agree b1 b2 ⟨0, 0, 0⟩ := ⟨h1, h2, fun i h => absurd h (apu i), fun i h => absurd h (apu i), fun i h => absurd h (apu i)⟩
theorem holds1 {k : Nat} (h : k < els.length) : L1.Holds (fC w0 v els k).rho (fC w0 v els k).sig :=
 ⟨fun i p h => (by cases h), fun i j h => (by cases h), fun i j hij => by
  have : (i, j) ∈ [((1 : Nat), (0 : Nat))] := hij
  simp only [apv, Prod.mk.injEq] at this
  obtain ⟨rfl, rfl⟩ := this
  show (k : Int) < (els.length : Int)
  omega, fun i j h => (by cases h), fun i l h => (by cases h), fun i l h => (by cases h), fun m h => (by cases h)⟩
theorem holds2 (b : Base) : L2.Holds b.rho b.sig :=
 ⟨fun i p h => (by cases h), fun i j h => (by cases h), fun i j h => (by cases h), fun i j h => (by cases h), fun i l h => (by cases h), fun i l h => (by cases h), fun m h => (by cases h)⟩
theorem a3q (k : Nat) : Lens [] (fC w0 v els k).rho (fC w0 v els k).sig := ⟨fun i _ => Nat.zero_le _, fun i h => by cases h⟩
theorem Hy {k : Nat} {b2 : Base} {d : Bd} (ag : Agree (fC w0 v els k) b2 d) {c : Code} {hd s1 : St} (hnx : hd.h.next = s1.h.next) {x : X} {L : Lf} (hL : L.Holds (fC w0 v els k).rho (fC w0 v els k).sig) {T : Tabs} (hT : @bg (fC w0 v els k) T)
  {O : aS} (hs : @Sound (fC w0 v els k) Tryz.prog O) {th : Th} (hth : Th.ok (fC w0 v els k) b2 th)
  (hrun : o8 d th x s1 (@exec (L.know []) (Gy T O) 0 5 c hd) = true) : Turns Tryz.prog (fC w0 v els k) b2 c hd x s1 := by
 refine a1d DF ag hnx (sp := .leaf) hL (a3q k) (fun _ => Gy T O) (fun _ => th) (fun L' h' => ?_) (fun L' h' => ?_) (fun L' h' => ?_) (fun L' _ _ => hth) (n := 5) ?_
 ·exact @sF ((fC w0 v els k).aH (L'.know []) (Lf.ok h' (a3q k))) Tryz.prog
 ·exact @sD.mk ((fC w0 v els k).aH (L'.know []) (Lf.ok h' (a3q k))) _ (Gy T O) (Sound.aH hs _) (bg.aH hT _)
 ·exact Loops.qU (fun c => @aO.none ((fC w0 v els k).aH (L'.know []) (Lf.ok h' (a3q k))) Tryz.prog c) c
 ·show ((Sp.leaf.leaves L).all _) = true
  show (o8 d th x s1 (@exec (L.know []) (Gy T O) 0 5 c hd) && true) = true
  rw [hrun]
  rfl
end
def a3Z : Code := dW Tryz.f72 0
def alB : List V := List.replicate Tryz.f72.ntmps V.any
def hdC (i : Nat) : St := ⟨upd (upd (upd alB 116 (V.s (.rv 0))) 117 (V.s (.xi .i64 0))) 118 (V.s (.xi .i64 i)), ⟨[], 1⟩⟩
def okC : St := ⟨alB, ⟨[], 1⟩⟩
def an8 : St := ⟨upd alB 2 (V.s (.int .i64 8)), ⟨[], 1⟩⟩
def a1o : Code := dW Tryz.f107 0
def amy : List V := List.replicate Tryz.f107.ntmps V.any
def hdV (i : Nat) : St := ⟨upd (upd amy 1 (V.s (.ptr 0 0))) 6 (V.s (.xi .i64 i)), ⟨[(0, ⟨[.top, .top, .top, .top, .top, .top, .top, .top, .top, .rv 0, .top, .top, .top], true⟩)], 1⟩⟩
def okV : St := ⟨amy, ⟨[], 1⟩⟩
def adu : St := ⟨upd amy 2 (V.s (.bool false)), ⟨[], 1⟩⟩
def aik : Th := [(.xi .i64 1, .xi .i64 2)]
def a3c : Th := [(.xi .i64 0, .xi .i64 1)]
def O7 (nl m : Nat) : Th := [(.xi .i64 0, .xi .i64 nl), (.xi .i64 1, .int .i64 0), (.rv 0, .rv m)]
theorem QB : o8 ⟨1, 0, 1⟩ aik .normal (hdC 1) (@exec (L1.know []) (Gy tbO (D5 97 0)) 0 5 a3Z (hdC 1)) = true := by kernel_rfl
theorem a5g : o8 ⟨0, 0, 0⟩ [] (.exit 1) okC (@exec (L2.know []) (Gy tbL VL) 0 5 a3Z (hdC 0)) = true := by kernel_rfl
theorem adR : o8 ⟨0, 0, 0⟩ [] .ret an8 (@exec (L1.know []) (Gy tbO (D5 97 8)) 0 5 a3Z (hdC 1)) = true := by kernel_rfl
theorem Ry : o8 ⟨1, 0, 1⟩ aik .normal (hdV 1) (@exec (L1.know []) (Gy tbO (D5 129 0)) 0 5 a1o (hdV 1)) = true := by kernel_rfl
theorem a7o : o8 ⟨0, 0, 0⟩ [] (.exit 1) okV (@exec (L2.know []) (Gy tbL VL) 0 5 a1o (hdV 0)) = true := by kernel_rfl
theorem aeP : o8 ⟨0, 0, 0⟩ [] .ret adu (@exec (L1.know []) (Gy tbO (D5 129 8)) 0 5 a1o (hdV 1)) = true := by kernel_rfl
theorem WT : wG ⟨1, 0, 1⟩ a3c (hdC 0) (hdC 1) = true := by kernel_rfl
theorem YN : wG ⟨1, 0, 1⟩ a3c (hdV 0) (hdV 1) = true := by kernel_rfl
theorem Turns.pre {P : Program} {b1 b2 : Base} {d : Bd} (ag : Agree b1 b1 d) {th : Th} (ht : Th.ok b1 b1 th) {c : Code} {hd hd' s1 : St} {x : X} (hf : wG d th hd' hd = true) (hnx : hd.h.next = hd'.h.next) (h : Turns P b1 b2 c hd' x s1) : Turns P b1 b2 c hd x s1 := by
 intro r B a w hr
 obtain ⟨k1, k2⟩ := xJ ag ht hf hr
 have hadv := k2 (fl := 0) (Parts.ok hr).n hnx (@Adv.refl b1 0 hd.h r B w (@Rel.i b1 _ _ _ _ _ hr)) (fun l _ h => absurd h (apu l))
 exact wp_mono (h k1) fun e a' w' ⟨h1, r', h2, h3, h4⟩ => ⟨h1, r', h2, Adv.trans' (Parts.ok hr).dom (Parts.ok k1).dom hadv h3, h4⟩
section
variable {w0 : World} {v : Value} {els : List (List Value)}
theorem aia (k : Nat) : Th.ok (fC w0 v els k) (fC w0 v els (k + 1)) aik := by
 intro p hp r u hu
 obtain rfl := apv.1 hp
 exact hu
theorem ali (b1 b2 : Base) : Th.ok b1 b2 [] := fun p hp => by cases hp
theorem ag2 {k : Nat} (h : k = els.length) : Th.ok (fC w0 v els k) (fC w0 v els k) a3c := by
 intro p hp r u hu
 obtain rfl := apv.1 hp
 subst h
 exact hu
theorem ai0 {bo : Base} {nl m : Nat} (h1 : bo.rho nl = els.length) (h2 : (bo.lst m).v = v) : Th.ok bo (fC w0 v els 0) (O7 nl m) := by
 intro p hp r u hu
 simp only [O7, apB, apy, or_false] at hp
 rcases hp with rfl | rfl | rfl
 ·have hu : u = .int .i64 (bo.rho nl) := hu
  show u = .int .i64 (els.length : Int)
  rw [hu, h1]
 ·exact hu
 ·have hu : ∃ A n c, (bo.lst m).v = .slice A n c /\ u = .slice A n c := hu
  rw [h2] at hu
  exact hu
variable {F : FuncId} (hF : dG Tryz.prog F) (ho : Ops w0 v els) {cs : Nat -> Int} (hs : ∀ i el, els[i]? = some el -> Says F el (cs i)) {N : Nat} (h0 : ∀ i, i < N -> cs i = 0)
include hF ho hs h0
theorem VJ {bo : Base} (hnb : bo.nb = w0.heap.size) (hg : bo.g = fun b => w0.heap[b]?) {nl m : Nat} (hl : bo.rho nl = els.length) (hv : (bo.lst m).v = v) {c : Code} {hd : Nat -> St} (hn1 : (hd 1).h.next = (hd 0).h.next)
  (step : o8 ⟨1, 0, 1⟩ aik .normal (hd 1) (@exec (L1.know []) (Gy tbO (D5 F 0)) 0 5 c (hd 1)) = true) (hfit : wG ⟨1, 0, 1⟩ a3c (hd 0) (hd 1) = true) {x : X} (hx : x ≠ .normal) {s1 : St} (hn2 : (hd 1).h.next = s1.h.next)
  (last : (N = els.length /\ o8 ⟨0, 0, 0⟩ [] x s1 (@exec (L2.know []) (Gy tbL VL) 0 5 c (hd 0)) = true) \/ (N < els.length /\ cs N = 8 /\ o8 ⟨0, 0, 0⟩ [] x s1 (@exec (L1.know []) (Gy tbO (D5 F 8)) 0 5 c (hd 1)) = true)) (tag : Nat) :
  @aO bo Tryz.prog (iW tag ⟨0, 0, 0⟩ (O7 nl m) (hd 1) x s1) c := by
 have hN : N <= els.length := by rcases last with ⟨h, _⟩ | ⟨h, _⟩ <;> omega
 have hel : ∀ k, k < els.length -> ∃ el, els[k]? = some el := fun k hk => ⟨_, apz hk⟩
 refine @Ui _ bo (fun k => fC w0 v els k) c _ _ _ _ x hx N (agree0 _ _ hnb hg) (ai0 hl hv) (fun k hk => ?_) ?_ tag
 ·obtain ⟨el, he⟩ := hel k (by omega)
  exact Hy (am3 k) rfl (holds1 (by omega)) (a3i ho he) (EP he (ho.kd k el he) hF (h0 k hk ▸ hs k el he)) (aia k) step
 ·rcases last with ⟨rfl, last⟩ | ⟨hlt, h8, last⟩
  ·have hsn : @Sound (fC w0 v els els.length) Tryz.prog VL := fun _ _ _ _ _ _ h => by cases h
   intro r B a w hr
   exact Turns.pre ⟨rfl, rfl, fun _ _ => rfl, fun _ _ => rfl, fun _ _ => rfl⟩ (ag2 rfl) hfit hn1 (Hy (agree0 _ _ hnb.symm hg.symm) (hn1.symm.trans hn2) (holds2 _) (a4V ho _) hsn (ali _ _) last) hr
  ·obtain ⟨el, he⟩ := hel N hlt
   exact Hy (agree0 _ _ hnb.symm hg.symm) hn2 (holds1 hlt) (a3i ho he) (EP he (ho.kd N el he) hF (h8 ▸ hs N el he)) (ali _ _) last
end
open Go.ChangeShapes Go.WideShapes Go.Deep
section
variable {H : Type} {enc : TypeId × Value -> H} {P : Program} {w : World} {base : Nat} {spare : Nat -> Bool} {held : Bool}
def adX (P : Program) (t : TypeId) : Bool := match P.underlying t with | some .bool => true | some (.int _) => true | some .string => true | some (.slice _) => true | _ => false
def Pv (P : Program) : Nat -> Nat -> TypeId -> List (Nat × TypeId)
 | 0, _, _ => []
 | n + 1, o, t => bif adX P t then [(o, t)] else match P.underlying t with
  | some (.struct fs) => fs.toList.flatMap fun f => Pv P n (o + f.offset) f.type
  | _ => []
theorem trod_one {t : TypeId} {fuel : Nat} {cs : List Value} {x : DataW H × List MemPlace} (ht : adX P t = true) (h : DataW.trod enc P w base spare held fuel t cs = some x) : ∃ v, cs = [v] := by
 unfold adX at ht
 split at ht <;> rename_i hu
 ·obtain ⟨b, rfl, _⟩ := DataW.trod_bool hu h; exact ⟨_, rfl⟩
 ·obtain ⟨n, rfl, _⟩ := DataW.trod_int hu h; exact ⟨_, rfl⟩
 ·obtain ⟨s, rfl, _⟩ := DataW.trod_string hu h; exact ⟨_, rfl⟩
 ·rcases open_slice hu h with ⟨rfl, _⟩ | ⟨a, l, c, m, n, D, Pl, rfl, _⟩ <;> exact ⟨_, rfl⟩
 ·cases ht
theorem TL : ∀ (n o : Nat) (t : TypeId) (fuel : Nat) (cs : List Value) (x : DataW H × List MemPlace), DataW.trod enc P w base spare held fuel t cs = some x ->
  ∀ p ∈ Pv P n o t, o <= p.1 /\ ∃ v y m, cs[p.1 - o]? = some v /\ adX P p.2 = true /\ DataW.trod enc P w base spare held m p.2 [v] = some y
 | 0, _, _, _, _, _, _, p, hp => by simp [Pv] at hp
 | n + 1, o, t, fuel, cs, x, h, p, hp => by
  rw [Pv] at hp
  cases ho : adX P t <;> rw [ho] at hp <;> simp only [cond_true, cond_false] at hp
  ·split at hp
   ·rename_i fs hu
    obtain ⟨f, hf, hp⟩ := List.mem_flatMap.1 hp
    obtain ⟨xs, m, _, _, _, hlen, hg⟩ := DataW.trod_struct hu h
    obtain ⟨i, hi⟩ := List.getElem?_of_mem hf
    have hi : fs[i]? = some f := by rw [<- apA]; exact hi
    have h1 := hg i f hi
    have hil : i < xs.length := by have := (Array.getElem?_eq_some_iff.1 hi).1; omega
    rw [apz hil] at h1
    obtain ⟨k1, v, y, m', k2, k3, k4⟩ := TL n (o + f.offset) f.type m _ _ h1 p hp
    refine ⟨by omega, v, y, m', ?_, k3, k4⟩
    rw [List.getElem?_take] at k2
    split at k2
    ·rw [List.getElem?_drop] at k2
     rw [<- k2]
     congr 1
     omega
    ·cases k2
   ·cases hp
  ·rcases apv.1 hp with rfl
   obtain ⟨v, rfl⟩ := trod_one ho h
   exact ⟨Nat.le_refl _, v, x, fuel, by simp, ho, h⟩
theorem akx {t : TypeId} {kd : Kd} (hk : OO P t = some kd) {m : Nat} {v : Value} {y : DataW H × List MemPlace} (h : DataW.trod enc P w base spare held m t [v] = some y) : kd.ok v := by
 unfold OO at hk
 split at hk <;> cases hk <;> rename_i hu
 ·obtain ⟨b, e, _⟩ := DataW.trod_bool hu h
  cases e
  exact ⟨b, rfl⟩
 ·obtain ⟨n, e, _, hw⟩ := DataW.trod_int hu h
  cases e
  refine ⟨n, rfl, ?_⟩
  simpa [Lit.wf, IntKind.has] using hw
 ·obtain ⟨s, e, _, hs⟩ := DataW.trod_string hu h
  cases e
  exact ⟨s, rfl, by have : s.size <= 9223372036854775807 := hs; show (s.size : Int) <= 9223372036854775807; omega⟩
end
def oK : List Kd := [.i .u8, .i .u8, .i .i64, .i .i64, .b, .i .u8, .i .i64, .i .i64, .i .i64]
def kW : List Kd := [.i .i64, .b, .i .u8]
structure dO (w : World) (v : Value) (pre : List Value) (sv : Value) (post : List Value) (els : List (List Value)) : Prop where
 v : v = .agg (pre ++ sv :: post).toArray
 pre : ak Kd.ok oK pre
 post : ak Kd.ok kW post
 ops : Ops w sv els
def uY : List S := bV 0 oK ++ .rv 0 :: bV 10 kW
def tbJ : Tabs := ⟨[(0, 9)], [], []⟩
def Gm : FuncId -> Loops := dR [(72, iW 17 ⟨0, 0, 0⟩ (O7 9 0) (hdC 1) (.exit 1) okC), (107, iW 16 ⟨0, 0, 0⟩ (O7 9 0) (hdV 1) (.exit 1) okV)]
def P9 : FuncId -> Loops := dR [(72, iW 17 ⟨0, 0, 0⟩ (O7 9 0) (hdC 1) .ret an8), (107, iW 16 ⟨0, 0, 0⟩ (O7 9 0) (hdV 1) .ret adu)]
def G7 : FuncId -> Loops := fun _ _ _ _ => none
def VO (L : Lf) : FuncId -> Loops := Option.rec G7 (fun p => bif decide (p = (1, 1)) then Gm else bif decide (p = (0, 0)) then P9 else G7) (nth L.iv 13)
theorem a2w {bo : Base} {x : X} {s1 : St} (h : @aO bo Tryz.prog (iW 17 ⟨0, 0, 0⟩ (O7 9 0) (hdC 1) x s1) a3Z) (F : Func) (c : Code) (hF : Tryz.prog.funcs[72]? = some F) (hc : F.body = some c) : Loops.ok (@aO bo Tryz.prog (iW 17 ⟨0, 0, 0⟩ (O7 9 0) (hdC 1) x s1)) c := by
 obtain rfl : Tryz.f72 = F := Option.some.inj (Tryz.func72.symm.trans hF)
 have ht : (gQ ((Tryz.f72.body).getD .skip)).map Code.tag = [17] := by kernel_rfl
 rw [hc] at ht
 have ht : (gQ c).map Code.tag = [17] := ht
 exact Loops.agh hc (i := 0) (by rw [ht]; decide) (by have := congrArg List.length ht; simp at this; omega) (by kernel_rfl) h
theorem a3l {bo : Base} {x : X} {s1 : St} (h : @aO bo Tryz.prog (iW 16 ⟨0, 0, 0⟩ (O7 9 0) (hdV 1) x s1) a1o) (F : Func) (c : Code) (hF : Tryz.prog.funcs[107]? = some F) (hc : F.body = some c) : Loops.ok (@aO bo Tryz.prog (iW 16 ⟨0, 0, 0⟩ (O7 9 0) (hdV 1) x s1)) c := by
 obtain rfl : Tryz.f107 = F := Option.some.inj (Tryz.func107.symm.trans hF)
 have ht : (gQ ((Tryz.f107.body).getD .skip)).map Code.tag = [16] := by kernel_rfl
 rw [hc] at ht
 have ht : (gQ c).map Code.tag = [16] := ht
 exact Loops.agh hc (i := 0) (by rw [ht]; decide) (by have := congrArg List.length ht; simp at this; omega) (by kernel_rfl) h
theorem U0 (cs : Nat -> Int) : ∀ n, (∀ i, i < n -> cs i = 0) \/ ∃ N, N < n /\ (∀ i, i < N -> cs i = 0) /\ cs N ≠ 0
 | 0 => .inl fun _ h => absurd h (apu _)
 | n + 1 => by
  rcases U0 cs n with h | ⟨N, h1, h2⟩
  ·by_cases hc : cs n = 0
   ·exact .inl fun i hi => by
     rcases Nat.lt_or_ge i n with h' | h'
     ·exact h i h'
     ·obtain rfl : i = n := by omega
      exact hc
   ·exact .inr ⟨n, by omega, h, hc⟩
  ·exact .inr ⟨N, by omega, h2⟩
theorem anq : dG Tryz.prog 97 := ⟨_, Tryz.func97, by kernel_rfl, by kernel_rfl⟩
theorem aoe : dG Tryz.prog 129 := ⟨_, Tryz.func129, by kernel_rfl, by kernel_rfl⟩
theorem Zo {w : World} {sv : Value} {els : List (List Value)} (ho : Ops w sv els) {cs : Nat -> Int} (hs : ∀ i el, els[i]? = some el -> Says 97 el (cs i)) (hs' : ∀ i el, els[i]? = some el -> Says 129 el (cs i))
  {bo : Base} (hnb : bo.nb = w.heap.size) (hg : bo.g = fun b => w.heap[b]?) (hl : bo.rho 9 = els.length) (hv : (bo.lst 0).v = sv) (h0 : ∀ i, i < els.length -> cs i = 0) :
  ∀ f F c, Tryz.prog.funcs[f]? = some F -> F.body = some c -> Loops.ok (@aO bo Tryz.prog (Gm f)) c := by
 refine EM _ fun p hp => ?_
 simp only [apB, apy, or_false] at hp
 rcases hp with rfl | rfl
 ·exact a2w (VJ (x := .exit 1) (s1 := okC) anq ho hs h0 hnb hg hl hv rfl QB WT (fun h => by cases h) rfl (.inl ⟨rfl, a5g⟩) 17)
 ·exact a3l (VJ (x := .exit 1) (s1 := okV) aoe ho hs' h0 hnb hg hl hv rfl Ry YN (fun h => by cases h) rfl (.inl ⟨rfl, a7o⟩) 16)
theorem a4B {w : World} {sv : Value} {els : List (List Value)} (ho : Ops w sv els) {cs : Nat -> Int} (hs : ∀ i el, els[i]? = some el -> Says 97 el (cs i)) (hs' : ∀ i el, els[i]? = some el -> Says 129 el (cs i))
  {bo : Base} (hnb : bo.nb = w.heap.size) (hg : bo.g = fun b => w.heap[b]?) (hl : bo.rho 9 = els.length) (hv : (bo.lst 0).v = sv) {N : Nat} (hN : N < els.length) (h0 : ∀ i, i < N -> cs i = 0) (h8 : cs N = 8) :
  ∀ f F c, Tryz.prog.funcs[f]? = some F -> F.body = some c -> Loops.ok (@aO bo Tryz.prog (P9 f)) c := by
 refine EM _ fun p hp => ?_
 simp only [apB, apy, or_false] at hp
 rcases hp with rfl | rfl
 ·exact a2w (VJ (x := .ret) (s1 := an8) anq ho hs h0 hnb hg hl hv rfl QB WT (fun h => by cases h) rfl (.inr ⟨hN, h8, adR⟩) 17)
 ·exact a3l (VJ (x := .ret) (s1 := adu) aoe ho hs' h0 hnb hg hl hv rfl Ry YN (fun h => by cases h) rfl (.inr ⟨hN, h8, aeP⟩) 16)
end Am
end Go.Proofs.YtglmonlofejcgaaGreatDoor
