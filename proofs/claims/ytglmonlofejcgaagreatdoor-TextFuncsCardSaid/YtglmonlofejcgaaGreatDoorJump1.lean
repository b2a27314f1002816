/- One operand: value.CheckOperand and the reference's answer with the same number, 0 or 8. The loops over a jump's arguments that ask whether each is valid: jump.Check's, and the reference's in Valid. The loop of jump.Check and the loop of the reference's Valid, as rows. An argument's cells, each with what its type says, whatever structs lie in structs. (No program in sight.) A jump among the arguments: its cells, and the list of its operands. A law over one jump: its answer at any jump, out of its cases. -/
import Derived.Test.YtglmonlofejcgaaGreatDoorAmC
import Derived.Test.YtglmonlofejcgaaGreatDoorLn
import Derived.Deep.Slices
import Derived.Deep.Fields
import Derived.ChangeSame
import Derived.WalkKit
set_option maxRecDepth 100000
namespace Go.Proofs.YtglmonlofejcgaaGreatDoor.Am
open Go.RowKit
def opK : List Kd := [.i .u8, .i .i64, .i .i64, .b, .i .u8]
def Says (F : FuncId) (us : List Value) (n : Int) : Prop := ∀ w : World, Calls Tryz.prog F #[.agg us.toArray] w fun e w' => e = .returned (.int .i64 n) /\ Below w.heap.size w w'
end Go.Proofs.YtglmonlofejcgaaGreatDoor.Am
namespace Go.Proofs.YtglmonlofejcgaaGreatDoor.Am
open Go.RowKit
structure Ops (w : World) (v : Value) (els : List (List Value)) : Prop where
 sl : ∃ A c, v = .slice A els.length c
 most : (els.length : Int) <= 9223372036854775807
 at_ : ∀ (i : Nat) (el : List Value), els[i]? = some el -> ∃ b off c, v = .slice (some ⟨b, off, none⟩) els.length c /\ ∀ f u, el[f]? = some u -> w.cell? ⟨b, off + i * 5 + f, none⟩ = some u
 kd : ∀ (i : Nat) (el : List Value), els[i]? = some el -> ak Kd.ok opK el
 cap : els ≠ [] -> ∀ A n c, v = .slice A n c -> n <= c /\ c <= maxLen
theorem aN {α β : Type} {R : α -> β -> Prop} {k : α} {ks : List α} {l : List β} (h : ak R (k :: ks) l) : ∃ a t, l = a :: t /\ R k a /\ ak R ks t := by
 cases l with
 | nil => exact h.elim
 | cons a t => exact ⟨a, t, rfl, h.1, h.2⟩
theorem yV {α β : Type} {R : α -> β -> Prop} {l : List β} (h : ak R [] l) : l = [] := by
 cases l with
 | nil => rfl
 | cons a t => exact h.elim
theorem vN {el : List Value} (h : ak Kd.ok opK el) : ∃ a b c d e, el = [.int .u8 a, .int .i64 b, .int .i64 c, .bool d, .int .u8 e] := by
 obtain ⟨v0, l0, e0, ⟨a, ea, _⟩, h0⟩ := aN h
 obtain ⟨v1, l1, e1, ⟨b, eb, _⟩, h1⟩ := aN h0
 obtain ⟨v2, l2, e2, ⟨c, ec, _⟩, h2⟩ := aN h1
 obtain ⟨v3, l3, e3, ⟨d, ed⟩, h3⟩ := aN h2
 obtain ⟨v4, l4, e4, ⟨e, ee, _⟩, h4⟩ := aN h3
 have e5 := yV h4
 exact ⟨a, b, c, d, e, by rw [e0, e1, e2, e3, e4, e5, ea, eb, ec, ed, ee]⟩
theorem Inv.conv {b1 b2 : Base} (hv : @VS b1 = @VS b2) (hn : b1.nb = b2.nb) (hg : b1.g = b2.g) {h : Heap} {r : Ren} {B : Nat} {w : World} (i : @Inv b1 h r B w) : @Inv b2 h r B w := by
 obtain ⟨n, bb, ⟨dom, own, ro, inj, nb, z⟩⟩ := i
 rw [hv] at own ro
 exact @Inv.mk b2 _ _ _ _ n bb (@HR.mk b2 _ _ _ _ dom own ro inj (by show b2.nb <= B; rw [<- hn]; exact nb) (fun c hc => by
  have hc : c < b2.nb := hc
  show w.heap[c]? = b2.g c
  rw [<- hg]
  exact z c (by show c < b1.nb; rw [hn]; exact hc)))
theorem Sound.aH {P : Program} {b : Base} {O : aS} (h : @Sound b P O) {K : Know} (ok : aG K b.rho b.sig) : @Sound (b.aH K ok) P O := by
 intro f args hp fl v h' e
 obtain ⟨hc, hk⟩ := h f args hp fl v h' e
 refine ⟨hc, fun r B w vs hi ha => (hk r B w vs (Inv.conv (b1 := b.aH K ok) (b2 := b) rfl rfl rfl hi) ha).mono fun e w' ⟨u, e1, r', i, e2, ad⟩ => ⟨u, e1, r', Inv.conv (b1 := b) (b2 := b.aH K ok) rfl rfl rfl i, e2, ad⟩⟩
theorem aZ.aH {b : Base} {T : Tabs} (h : @aZ b T) {K : Know} (ok : aG K b.rho b.sig) : @aZ (b.aH K ok) T := by
 obtain ⟨h1, h2, h3⟩ := h
 exact @aZ.mk (b.aH K ok) T h1 h2 h3
noncomputable def alG (els : List (List Value)) (k : Nat) : List Int := (els.length : Int) :: (k : Int) :: ((k + 1 : Nat) : Int) :: ((els[k]?).getD []).map aY
@[reducible] noncomputable def eF (w0 : World) (v : Value) (els : List (List Value)) (k : Nat) : Base :=
 { Know.nought with nb := w0.heap.size, g := fun b => w0.heap[b]?, rho := FB (alG els k), sig := fun _ => [], ok := aG.nought _ _, lst := fun _ => ⟨v, els⟩ }
def opC : List S := [.xi .u8 3, .xi .i64 4, .xi .i64 5, .xe [(6, 1)], .xi .u8 7]
def tbO : Tabs := ⟨[(0, 0)], [(0, .x 1, opC)], [(1, 1, 2)]⟩
def tbL : Tabs := ⟨[(0, 0)], [], []⟩
noncomputable def BQ (F : FuncId) (n : Int) : aS := qj F fun args => match args with | [.g cs] => bif iw S.eqb opC cs then some (.a (.s (.int .i64 n))) else none | _ => none
noncomputable def ER (T : Tabs) (O : aS) : Ctx := ⟨lM Tryz.prog, O, T, fun _ _ _ => none⟩
noncomputable def TV : aS := fun _ _ _ _ => none
def L1 : Lf := ⟨[], [], [(1, 0)], [], [], [], []⟩
def L2 : Lf := ⟨[], [], [], [], [], [], []⟩
theorem a1d {α : Type} {f : α -> α -> Bool} (hf : ∀ x y, f x y = true -> x = y) : ∀ {l m : List α}, iw f l m = true -> l = m
 | [], [], _ => rfl
 | a :: l, b :: m, h => by
  simp only [iw, Bool.and_eq_true] at h
  rw [hf a b h.1, a1d hf h.2]
 | [], _ :: _, h => by cases h
 | _ :: _, [], h => by cases h
section
variable {w0 : World} {v : Value} {els : List (List Value)}
theorem alb {k i : Nat} : (eF w0 v els k).rho (i + 3) = FB (((els[k]?).getD []).map aY) i := rfl
theorem Dq {k : Nat} {el : List Value} (he : els[k]? = some el) (hk : ak Kd.ok opK el) {F : FuncId} (hF : dB Tryz.prog F) {n : Int} (h : Says F el n) : @Sound (eF w0 v els k) Tryz.prog (BQ F n) := by
 letI : Base := eF w0 v els k
 refine iV hF fun args u hg r vs ha w _ => ?_
 split at hg
 ·rename_i cs
  cases hc : iw S.eqb opC cs <;> rw [hc] at hg <;> cases hg
  obtain rfl := a1d (fun _ _ => S.rH) hc
  match vs, ha with
  | [a], ⟨⟨us, h1, h2⟩, _⟩ =>
   subst h1
   have e : us = el := by
    obtain ⟨a, b, c, d, e, rfl⟩ := vN hk
    have hr : ∀ i x, ([Value.int .u8 a, .int .i64 b, .int .i64 c, .bool d, .int .u8 e].map aY)[i]? = some x -> (eF w0 v els k).rho (i + 3) = x := fun i x hx => by
     rw [alb, he]
     simp only [FB, Option.getD_some, aK, hx]
    have r0 := hr 0 _ rfl
    have r1 := hr 1 _ rfl
    have r2 := hr 2 _ rfl
    have r3 := hr 3 _ rfl
    have r4 := hr 4 _ rfl
    match us, h2 with
    | [u0, u1, u2, u3, u4], ⟨g0, g1, g2, g3, g4, _⟩ =>
     have g0 : u0 = .int .u8 ((eF w0 v els k).rho 3) := g0
     have g1 : u1 = .int .i64 ((eF w0 v els k).rho 4) := g1
     have g2 : u2 = .int .i64 ((eF w0 v els k).rho 5) := g2
     have g3 : u3 = .bool ([((6 : Nat), (1 : Int))].any fun p => decide ((eF w0 v els k).rho p.1 = p.2)) := g3
     have g4 : u4 = .int .u8 ((eF w0 v els k).rho 7) := g4
     rw [g0, g1, g2, g3, g4, r0, r1, r2, r4]
     simp only [List.any_cons, List.any_nil, Bool.or_false]
     rw [r3]
     cases d <;> rfl
   rw [e]
   exact (h w).mono fun e w' ⟨e1, e2⟩ => ⟨_, e1, rfl, e2⟩
 ·cases hg
theorem Zt (ho : Ops w0 v els) {k : Nat} {el : List Value} (he : els[k]? = some el) : @aZ (eF w0 v els k) tbO := by
 letI : Base := eF w0 v els k
 have hk := ho.kd k el he
 have hlt : k < els.length := (List.getElem?_eq_some_iff.1 he).1
 refine ⟨fun l j h => ?_, fun l i cs h => ?_, fun i c j h => ?_⟩
 ·have h : (bif Nat.beq 0 l then some 0 else none) = some j := h
  cases hb : Nat.beq 0 l <;> rw [hb] at h <;> cases h
  obtain ⟨A, c, e⟩ := ho.sl
  exact ⟨A, els.length, c, e, rfl⟩
 ·have h : (bif Nat.beq 0 l && N.eqv (.x 1) i then some opC else none) = some cs := h
  cases hb : (Nat.beq 0 l && N.eqv (.x 1) i) <;> rw [hb] at h <;> cases h
  simp only [Bool.and_eq_true] at hb
  obtain rfl := N.ug hb.2
  obtain ⟨b, off, c, e, hc⟩ := ho.at_ k el he
  have hn : NV (.x 1) = (k : Int) := rfl
  refine ⟨b, off, els.length, c, el, e, by rw [hn]; omega, by rw [hn]; omega, ⟨by rw [hn]; exact he, fun f u hf w hw => ?_⟩, ?_⟩
  ·have hcell := hc f u hf
   rw [hn]
   have hblk : w.heap[b]? = w0.heap[b]? := hw b (World.block_lt_of_cell? w0 ⟨b, off + k * 5 + f, none⟩ hcell)
   rw [<- hcell]
   exact World.cell?_of_block hblk
  ·obtain ⟨a, b, c, d, e, rfl⟩ := vN hk
   have hr : ∀ i x, ([Value.int .u8 a, .int .i64 b, .int .i64 c, .bool d, .int .u8 e].map aY)[i]? = some x -> (eF w0 v els k).rho (i + 3) = x := fun i x hx => by
    rw [alb, he]
    simp only [FB, Option.getD_some, aK, hx]
   have r0 := hr 0 _ rfl
   have r1 := hr 1 _ rfl
   have r2 := hr 2 _ rfl
   have r3 := hr 3 _ rfl
   have r4 := hr 4 _ rfl
   refine ⟨fun r => ?_, fun r => ?_, fun r => ?_, fun r => ?_, fun r => ?_, trivial⟩
   ·show _ = Value.int .u8 ((eF w0 v els k).rho 3); rw [r0]; rfl
   ·show _ = Value.int .i64 ((eF w0 v els k).rho 4); rw [r1]; rfl
   ·show _ = Value.int .i64 ((eF w0 v els k).rho 5); rw [r2]; rfl
   ·show _ = Value.bool ([((6 : Nat), (1 : Int))].any fun p => decide ((eF w0 v els k).rho p.1 = p.2))
    simp only [List.any_cons, List.any_nil, Bool.or_false]
    rw [r3]
    cases d <;> rfl
   ·show _ = Value.int .u8 ((eF w0 v els k).rho 7); rw [r4]; rfl
 ·have h : (bif Nat.beq 1 i && decide ((1 : Int) = c) then some 2 else none) = some j := h
  cases hb : (Nat.beq 1 i && decide ((1 : Int) = c)) <;> rw [hb] at h <;> cases h
  simp only [Bool.and_eq_true, decide_eq_true_eq] at hb
  obtain rfl := Nat.eq_of_beq_eq_true hb.1
  obtain rfl := hb.2
  have hm := ho.most
  refine ⟨?_, ?_, ?_⟩
  ·show ((k + 1 : Nat) : Int) = (k : Int) + 1
   omega
  ·show (-9223372036854775808 : Int) <= ((k + 1 : Nat) : Int)
   omega
  ·show ((k + 1 : Nat) : Int) <= 9223372036854775807
   omega
theorem a5R (ho : Ops w0 v els) (k : Nat) : @aZ (eF w0 v els k) tbL := by
 letI : Base := eF w0 v els k
 refine ⟨fun l j h => ?_, fun l i cs h => (by cases h), fun i c j h => (by cases h)⟩
 have h : (bif Nat.beq 0 l then some 0 else none) = some j := h
 cases hb : Nat.beq 0 l <;> rw [hb] at h <;> cases h
 obtain ⟨A, c, e⟩ := ho.sl
 exact ⟨A, els.length, c, e, rfl⟩
theorem aks (k : Nat) : Agree (eF w0 v els k) (eF w0 v els (k + 1)) ⟨1, 0, 1⟩ := ⟨rfl, rfl, fun i hi => by
 have hi : i < 1 := hi
 obtain rfl : i = 0 := by omega
 rfl, fun _ _ => rfl, fun _ _ => rfl⟩
theorem agree0 (b1 b2 : Base) (h1 : b1.nb = b2.nb) (h2 : b1.g = b2.g) : Agree b1 b2 ⟨0, 0, 0⟩ := ⟨h1, h2, fun i h => absurd h (Nat.not_lt_zero i), fun i h => absurd h (Nat.not_lt_zero i), fun i h => absurd h (Nat.not_lt_zero i)⟩
theorem holds1 {k : Nat} (h : k < els.length) : L1.Holds (eF w0 v els k).rho (eF w0 v els k).sig :=
 ⟨fun i p h => (by cases h), fun i j h => (by cases h), fun i j hij => by
  have : (i, j) ∈ [((1 : Nat), (0 : Nat))] := hij
  simp only [List.mem_singleton, Prod.mk.injEq] at this
  obtain ⟨rfl, rfl⟩ := this
  show (k : Int) < (els.length : Int)
  omega, fun i j h => (by cases h), fun i l h => (by cases h), fun i l h => (by cases h), fun m h => (by cases h)⟩
theorem holds2 (b : Base) : L2.Holds b.rho b.sig :=
 ⟨fun i p h => (by cases h), fun i j h => (by cases h), fun i j h => (by cases h), fun i j h => (by cases h), fun i l h => (by cases h), fun i l h => (by cases h), fun m h => (by cases h)⟩
theorem ZH (k : Nat) : Lens [] (eF w0 v els k).rho (eF w0 v els k).sig := ⟨fun i _ => Nat.zero_le _, fun i h => by cases h⟩
theorem FU {k : Nat} {b2 : Base} {d : Bd} (ag : Agree (eF w0 v els k) b2 d) {c : Code} {hd s1 : St} (hnx : hd.h.next = s1.h.next) {x : X} {L : Lf} (hL : L.Holds (eF w0 v els k).rho (eF w0 v els k).sig) {T : Tabs} (hT : @aZ (eF w0 v els k) T)
  {O : aS} (hs : @Sound (eF w0 v els k) Tryz.prog O) {th : Th} (hth : Th.ok (eF w0 v els k) b2 th)
  (hrun : mQ d th x s1 (@exec (L.know []) (ER T O) 0 5 c hd) = true) : Turns Tryz.prog (eF w0 v els k) b2 c hd x s1 := by
 refine XD Bc ag hnx (sp := .leaf) hL (ZH k) (fun _ => ER T O) (fun _ => th) (fun L' h' => ?_) (fun L' h' => ?_) (fun L' h' => ?_) (fun L' _ _ => hth) (n := 5) ?_
 ·exact @qQ ((eF w0 v els k).aH (L'.know []) (Lf.ok h' (ZH k))) Tryz.prog
 ·exact @qR.mk ((eF w0 v els k).aH (L'.know []) (Lf.ok h' (ZH k))) _ (ER T O) (Sound.aH hs _) (aZ.aH hT _)
 ·exact Loops.pW (fun c => @aO.none ((eF w0 v els k).aH (L'.know []) (Lf.ok h' (ZH k))) Tryz.prog c) c
 ·show ((Sp.leaf.leaves L).all _) = true
  show (mQ d th x s1 (@exec (L.know []) (ER T O) 0 5 c hd) && true) = true
  rw [hrun]
  rfl
end
end Go.Proofs.YtglmonlofejcgaaGreatDoor.Am
namespace Go.Proofs.YtglmonlofejcgaaGreatDoor.Am
open Go.RowKit
noncomputable def a0d : Code := dS Tryz.f72 0
noncomputable def ak8 : List V := List.replicate Tryz.f72.ntmps V.any
noncomputable def hdC (i : Nat) : St := ⟨upd (upd (upd ak8 116 (V.s (.rv 0))) 117 (V.s (.xi .i64 0))) 118 (V.s (.xi .i64 i)), ⟨[], 1⟩⟩
noncomputable def okC : St := ⟨ak8, ⟨[], 1⟩⟩
noncomputable def akt : St := ⟨upd ak8 2 (V.s (.int .i64 8)), ⟨[], 1⟩⟩
noncomputable def a1I : Code := dS Tryz.f107 0
noncomputable def akh : List V := List.replicate Tryz.f107.ntmps V.any
noncomputable def hdV (i : Nat) : St := ⟨upd (upd akh 1 (V.s (.ptr 0 0))) 6 (V.s (.xi .i64 i)), ⟨[(0, ⟨[.top, .top, .top, .top, .top, .top, .top, .top, .top, .rv 0, .top, .top, .top], true⟩)], 1⟩⟩
noncomputable def okV : St := ⟨akh, ⟨[], 1⟩⟩
noncomputable def ab1 : St := ⟨upd akh 2 (V.s (.bool false)), ⟨[], 1⟩⟩
def aha : Th := [(.xi .i64 1, .xi .i64 2)]
def a0K : Th := [(.xi .i64 0, .xi .i64 1)]
def J8 (nl m : Nat) : Th := [(.xi .i64 0, .xi .i64 nl), (.xi .i64 1, .int .i64 0), (.rv 0, .rv m)]
theorem Ou : mQ ⟨1, 0, 1⟩ aha .normal (hdC 1) (@exec (L1.know []) (ER tbO (BQ 97 0)) 0 5 a0d (hdC 1)) = true := by kernel_rfl
theorem a5T : mQ ⟨0, 0, 0⟩ [] (.exit 1) okC (@exec (L2.know []) (ER tbL TV) 0 5 a0d (hdC 0)) = true := by kernel_rfl
theorem adK : mQ ⟨0, 0, 0⟩ [] .ret akt (@exec (L1.know []) (ER tbO (BQ 97 8)) 0 5 a0d (hdC 1)) = true := by kernel_rfl
theorem OD : mQ ⟨1, 0, 1⟩ aha .normal (hdV 1) (@exec (L1.know []) (ER tbO (BQ 129 0)) 0 5 a1I (hdV 1)) = true := by kernel_rfl
theorem a4o : mQ ⟨0, 0, 0⟩ [] (.exit 1) okV (@exec (L2.know []) (ER tbL TV) 0 5 a1I (hdV 0)) = true := by kernel_rfl
theorem aaC : mQ ⟨0, 0, 0⟩ [] .ret ab1 (@exec (L1.know []) (ER tbO (BQ 129 8)) 0 5 a1I (hdV 1)) = true := by kernel_rfl
theorem WV : uV ⟨1, 0, 1⟩ a0K (hdC 0) (hdC 1) = true := by kernel_rfl
theorem Ua : uV ⟨1, 0, 1⟩ a0K (hdV 0) (hdV 1) = true := by kernel_rfl
theorem Turns.pre {P : Program} {b1 b2 : Base} {d : Bd} (ag : Agree b1 b1 d) {th : Th} (ht : Th.ok b1 b1 th) {c : Code} {hd hd' s1 : St} {x : X} (hf : uV d th hd' hd = true) (hnx : hd.h.next = hd'.h.next) (h : Turns P b1 b2 c hd' x s1) : Turns P b1 b2 c hd x s1 := by
 intro r B a w hr
 obtain ⟨k1, k2⟩ := wU ag ht hf hr
 have hadv := k2 (fl := 0) (Parts.ok hr).n hnx (@Adv.refl b1 0 hd.h r B w (@Rel.i b1 _ _ _ _ _ hr)) (fun l _ h => absurd h (Nat.not_lt_zero l))
 exact wp_mono (h k1) fun e a' w' ⟨h1, r', h2, h3, h4⟩ => ⟨h1, r', h2, Adv.trans' (Parts.ok hr).dom (Parts.ok k1).dom hadv h3, h4⟩
section
variable {w0 : World} {v : Value} {els : List (List Value)}
theorem agY (k : Nat) : Th.ok (eF w0 v els k) (eF w0 v els (k + 1)) aha := by
 intro p hp r u hu
 obtain rfl := List.mem_singleton.1 hp
 exact hu
theorem aj9 (b1 b2 : Base) : Th.ok b1 b2 [] := fun p hp => by cases hp
theorem a8x {k : Nat} (h : k = els.length) : Th.ok (eF w0 v els k) (eF w0 v els k) a0K := by
 intro p hp r u hu
 obtain rfl := List.mem_singleton.1 hp
 subst h
 exact hu
theorem ahF {bo : Base} {nl m : Nat} (h1 : bo.rho nl = els.length) (h2 : (bo.lst m).v = v) : Th.ok bo (eF w0 v els 0) (J8 nl m) := by
 intro p hp r u hu
 simp only [J8, List.mem_cons, List.mem_nil_iff, or_false] at hp
 rcases hp with rfl | rfl | rfl
 ·have hu : u = .int .i64 (bo.rho nl) := hu
  show u = .int .i64 (els.length : Int)
  rw [hu, h1]
 ·exact hu
 ·have hu : ∃ A n c, (bo.lst m).v = .slice A n c /\ u = .slice A n c := hu
  rw [h2] at hu
  exact hu
variable {F : FuncId} (hF : dB Tryz.prog F) (ho : Ops w0 v els) {cs : Nat -> Int} (hs : ∀ i el, els[i]? = some el -> Says F el (cs i)) {N : Nat} (h0 : ∀ i, i < N -> cs i = 0)
include hF ho hs h0
theorem SG {bo : Base} (hnb : bo.nb = w0.heap.size) (hg : bo.g = fun b => w0.heap[b]?) {nl m : Nat} (hl : bo.rho nl = els.length) (hv : (bo.lst m).v = v) {c : Code} {hd : Nat -> St} (hn1 : (hd 1).h.next = (hd 0).h.next)
  (step : mQ ⟨1, 0, 1⟩ aha .normal (hd 1) (@exec (L1.know []) (ER tbO (BQ F 0)) 0 5 c (hd 1)) = true) (hfit : uV ⟨1, 0, 1⟩ a0K (hd 0) (hd 1) = true) {x : X} (hx : x ≠ .normal) {s1 : St} (hn2 : (hd 1).h.next = s1.h.next)
  (last : (N = els.length /\ mQ ⟨0, 0, 0⟩ [] x s1 (@exec (L2.know []) (ER tbL TV) 0 5 c (hd 0)) = true) \/ (N < els.length /\ cs N = 8 /\ mQ ⟨0, 0, 0⟩ [] x s1 (@exec (L1.know []) (ER tbO (BQ F 8)) 0 5 c (hd 1)) = true)) (tag : Nat) :
  @aO bo Tryz.prog (iP tag ⟨0, 0, 0⟩ (J8 nl m) (hd 1) x s1) c := by
 have hN : N <= els.length := by rcases last with ⟨h, _⟩ | ⟨h, _⟩ <;> omega
 have hel : ∀ k, k < els.length -> ∃ el, els[k]? = some el := fun k hk => ⟨_, List.getElem?_eq_getElem hk⟩
 refine @TP _ bo (fun k => eF w0 v els k) c _ _ _ _ x hx N (agree0 _ _ hnb hg) (ahF hl hv) (fun k hk => ?_) ?_ tag
 ·obtain ⟨el, he⟩ := hel k (by omega)
  exact FU (aks k) rfl (holds1 (by omega)) (Zt ho he) (Dq he (ho.kd k el he) hF (h0 k hk ▸ hs k el he)) (agY k) step
 ·rcases last with ⟨rfl, last⟩ | ⟨hlt, h8, last⟩
  ·have hsn : @Sound (eF w0 v els els.length) Tryz.prog TV := fun _ _ _ _ _ _ h => by cases h
   intro r B a w hr
   exact Turns.pre ⟨rfl, rfl, fun _ _ => rfl, fun _ _ => rfl, fun _ _ => rfl⟩ (a8x rfl) hfit hn1 (FU (agree0 _ _ hnb.symm hg.symm) (hn1.symm.trans hn2) (holds2 _) (a5R ho _) hsn (aj9 _ _) last) hr
  ·obtain ⟨el, he⟩ := hel N hlt
   exact FU (agree0 _ _ hnb.symm hg.symm) hn2 (holds1 hlt) (Zt ho he) (Dq he (ho.kd N el he) hF (h8 ▸ hs N el he)) (aj9 _ _) last
end
end Go.Proofs.YtglmonlofejcgaaGreatDoor.Am
namespace Go.Proofs.YtglmonlofejcgaaGreatDoor.Am
open Go.ChangeShapes Go.WideShapes Go.Deep
section
variable {H : Type} {enc : TypeId × Value -> H} {P : Program} {w : World} {base : Nat} {spare : Nat -> Bool} {held : Bool}
def aao (P : Program) (t : TypeId) : Bool := match P.underlying t with | some .bool => true | some (.int _) => true | some .string => true | some (.slice _) => true | _ => false
def Np (P : Program) : Nat -> Nat -> TypeId -> List (Nat × TypeId)
 | 0, _, _ => []
 | n + 1, o, t => bif aao P t then [(o, t)] else match P.underlying t with
  | some (.struct fs) => fs.toList.flatMap fun f => Np P n (o + f.offset) f.type
  | _ => []
theorem trod_one {t : TypeId} {fuel : Nat} {cs : List Value} {x : DataW H × List MemPlace} (ht : aao P t = true) (h : DataW.trod enc P w base spare held fuel t cs = some x) : ∃ v, cs = [v] := by
 unfold aao at ht
 split at ht <;> rename_i hu
 ·obtain ⟨b, rfl, _⟩ := DataW.trod_bool hu h; exact ⟨_, rfl⟩
 ·obtain ⟨n, rfl, _⟩ := DataW.trod_int hu h; exact ⟨_, rfl⟩
 ·obtain ⟨s, rfl, _⟩ := DataW.trod_string hu h; exact ⟨_, rfl⟩
 ·rcases open_slice hu h with ⟨rfl, _⟩ | ⟨a, l, c, m, n, D, Pl, rfl, _⟩ <;> exact ⟨_, rfl⟩
 ·cases ht
theorem P8 : ∀ (n o : Nat) (t : TypeId) (fuel : Nat) (cs : List Value) (x : DataW H × List MemPlace), DataW.trod enc P w base spare held fuel t cs = some x ->
  ∀ p ∈ Np P n o t, o <= p.1 /\ ∃ v y m, cs[p.1 - o]? = some v /\ aao P p.2 = true /\ DataW.trod enc P w base spare held m p.2 [v] = some y
 | 0, _, _, _, _, _, _, p, hp => by simp [Np] at hp
 | n + 1, o, t, fuel, cs, x, h, p, hp => by
  rw [Np] at hp
  cases ho : aao P t <;> rw [ho] at hp <;> simp only [cond_true, cond_false] at hp
  ·split at hp
   ·rename_i fs hu
    obtain ⟨f, hf, hp⟩ := List.mem_flatMap.1 hp
    obtain ⟨xs, m, _, _, _, hlen, hg⟩ := DataW.trod_struct hu h
    obtain ⟨i, hi⟩ := List.getElem?_of_mem hf
    have hi : fs[i]? = some f := by rw [<- Array.getElem?_toList]; exact hi
    have h1 := hg i f hi
    have hil : i < xs.length := by have := (Array.getElem?_eq_some_iff.1 hi).1; omega
    rw [List.getElem?_eq_getElem hil] at h1
    obtain ⟨k1, v, y, m', k2, k3, k4⟩ := P8 n (o + f.offset) f.type m _ _ h1 p hp
    refine ⟨by omega, v, y, m', ?_, k3, k4⟩
    rw [List.getElem?_take] at k2
    split at k2
    ·rw [List.getElem?_drop] at k2
     rw [<- k2]
     congr 1
     omega
    ·cases k2
   ·cases hp
  ·rcases List.mem_singleton.1 hp with rfl
   obtain ⟨v, rfl⟩ := trod_one ho h
   exact ⟨Nat.le_refl _, v, x, fuel, by simp, ho, h⟩
theorem afW {t : TypeId} {kd : Kd} (hk : KJ P t = some kd) {m : Nat} {v : Value} {y : DataW H × List MemPlace} (h : DataW.trod enc P w base spare held m t [v] = some y) : kd.ok v := by
 unfold KJ at hk
 split at hk <;> cases hk <;> rename_i hu
 ·obtain ⟨b, e, _⟩ := DataW.trod_bool hu h
  cases e
  exact ⟨b, rfl⟩
 ·obtain ⟨n, e, _, hw⟩ := DataW.trod_int hu h
  cases e
  refine ⟨n, rfl, ?_⟩
  simpa [Lit.wf, IntKind.has] using hw
 ·obtain ⟨s, e, _, hs⟩ := DataW.trod_string hu h
  cases e
  exact ⟨s, rfl, by have : s.size <= 9223372036854775807 := hs; show (s.size : Int) <= 9223372036854775807; omega⟩
end
end Go.Proofs.YtglmonlofejcgaaGreatDoor.Am
namespace Go.Proofs.YtglmonlofejcgaaGreatDoor.Am
open Go.RowKit Go.ChangeShapes Go.WideShapes Go.Deep
def oM : List Kd := [.i .u8, .i .u8, .i .i64, .i .i64, .b, .i .u8, .i .i64, .i .i64, .i .i64]
def kT : List Kd := [.i .i64, .b, .i .u8]
structure eU (w : World) (v : Value) (pre : List Value) (sv : Value) (post : List Value) (els : List (List Value)) : Prop where
 v : v = .agg (pre ++ sv :: post).toArray
 pre : ak Kd.ok oM pre
 post : ak Kd.ok kT post
 ops : Ops w sv els
end Go.Proofs.YtglmonlofejcgaaGreatDoor.Am
namespace Go.Proofs.YtglmonlofejcgaaGreatDoor.Am
open Go.RowKit
def uh : List S := bZ 0 oM ++ .rv 0 :: bZ 10 kT
def tbJ : Tabs := ⟨[(0, 9)], [], []⟩
noncomputable def EX : FuncId -> Loops := dP [(72, iP 17 ⟨0, 0, 0⟩ (J8 9 0) (hdC 1) (.exit 1) okC), (107, iP 16 ⟨0, 0, 0⟩ (J8 9 0) (hdV 1) (.exit 1) okV)]
noncomputable def ND : FuncId -> Loops := dP [(72, iP 17 ⟨0, 0, 0⟩ (J8 9 0) (hdC 1) .ret akt), (107, iP 16 ⟨0, 0, 0⟩ (J8 9 0) (hdV 1) .ret ab1)]
noncomputable def Fj : FuncId -> Loops := fun _ _ _ _ => none
noncomputable def TM (L : Lf) : FuncId -> Loops := Option.rec Fj (fun p => bif decide (p = (1, 1)) then EX else bif decide (p = (0, 0)) then ND else Fj) (nth L.iv 13)
theorem ZR {bo : Base} {x : X} {s1 : St} (h : @aO bo Tryz.prog (iP 17 ⟨0, 0, 0⟩ (J8 9 0) (hdC 1) x s1) a0d) (F : Func) (c : Code) (hF : Tryz.prog.funcs[72]? = some F) (hc : F.body = some c) : Loops.ok (@aO bo Tryz.prog (iP 17 ⟨0, 0, 0⟩ (J8 9 0) (hdC 1) x s1)) c := by
 obtain rfl : Tryz.f72 = F := Option.some.inj (Tryz.func72.symm.trans hF)
 have ht : (gu ((Tryz.f72.body).getD .skip)).map Code.tag = [17] := by kernel_rfl
 rw [hc] at ht
 have ht : (gu c).map Code.tag = [17] := ht
 exact Loops.a8o hc (i := 0) (by rw [ht]; decide) (by have := congrArg List.length ht; simp at this; omega) (by kernel_rfl) h
theorem a0H {bo : Base} {x : X} {s1 : St} (h : @aO bo Tryz.prog (iP 16 ⟨0, 0, 0⟩ (J8 9 0) (hdV 1) x s1) a1I) (F : Func) (c : Code) (hF : Tryz.prog.funcs[107]? = some F) (hc : F.body = some c) : Loops.ok (@aO bo Tryz.prog (iP 16 ⟨0, 0, 0⟩ (J8 9 0) (hdV 1) x s1)) c := by
 obtain rfl : Tryz.f107 = F := Option.some.inj (Tryz.func107.symm.trans hF)
 have ht : (gu ((Tryz.f107.body).getD .skip)).map Code.tag = [16] := by kernel_rfl
 rw [hc] at ht
 have ht : (gu c).map Code.tag = [16] := ht
 exact Loops.a8o hc (i := 0) (by rw [ht]; decide) (by have := congrArg List.length ht; simp at this; omega) (by kernel_rfl) h
theorem OW (cs : Nat -> Int) : ∀ n, (∀ i, i < n -> cs i = 0) \/ ∃ N, N < n /\ (∀ i, i < N -> cs i = 0) /\ cs N ≠ 0
 | 0 => .inl fun _ h => absurd h (Nat.not_lt_zero _)
 | n + 1 => by
  rcases OW cs n with h | ⟨N, h1, h2⟩
  ·by_cases hc : cs n = 0
   ·exact .inl fun i hi => by
     rcases Nat.lt_or_ge i n with h' | h'
     ·exact h i h'
     ·obtain rfl : i = n := by omega
      exact hc
   ·exact .inr ⟨n, by omega, h, hc⟩
  ·exact .inr ⟨N, by omega, h2⟩
theorem akO : dB Tryz.prog 97 := ⟨_, Tryz.func97, by kernel_rfl, by kernel_rfl⟩
theorem akJ : dB Tryz.prog 129 := ⟨_, Tryz.func129, by kernel_rfl, by kernel_rfl⟩
theorem Yt {w : World} {sv : Value} {els : List (List Value)} (ho : Ops w sv els) {cs : Nat -> Int} (hs : ∀ i el, els[i]? = some el -> Says 97 el (cs i)) (hs' : ∀ i el, els[i]? = some el -> Says 129 el (cs i))
  {bo : Base} (hnb : bo.nb = w.heap.size) (hg : bo.g = fun b => w.heap[b]?) (hl : bo.rho 9 = els.length) (hv : (bo.lst 0).v = sv) (h0 : ∀ i, i < els.length -> cs i = 0) :
  ∀ f F c, Tryz.prog.funcs[f]? = some F -> F.body = some c -> Loops.ok (@aO bo Tryz.prog (EX f)) c := by
 refine E8 _ fun p hp => ?_
 simp only [List.mem_cons, List.mem_nil_iff, or_false] at hp
 rcases hp with rfl | rfl
 ·exact ZR (SG (x := .exit 1) (s1 := okC) akO ho hs h0 hnb hg hl hv rfl Ou WV (fun h => by cases h) rfl (.inl ⟨rfl, a5T⟩) 17)
 ·exact a0H (SG (x := .exit 1) (s1 := okV) akJ ho hs' h0 hnb hg hl hv rfl OD Ua (fun h => by cases h) rfl (.inl ⟨rfl, a4o⟩) 16)
theorem a5D {w : World} {sv : Value} {els : List (List Value)} (ho : Ops w sv els) {cs : Nat -> Int} (hs : ∀ i el, els[i]? = some el -> Says 97 el (cs i)) (hs' : ∀ i el, els[i]? = some el -> Says 129 el (cs i))
  {bo : Base} (hnb : bo.nb = w.heap.size) (hg : bo.g = fun b => w.heap[b]?) (hl : bo.rho 9 = els.length) (hv : (bo.lst 0).v = sv) {N : Nat} (hN : N < els.length) (h0 : ∀ i, i < N -> cs i = 0) (h8 : cs N = 8) :
  ∀ f F c, Tryz.prog.funcs[f]? = some F -> F.body = some c -> Loops.ok (@aO bo Tryz.prog (ND f)) c := by
 refine E8 _ fun p hp => ?_
 simp only [List.mem_cons, List.mem_nil_iff, or_false] at hp
 rcases hp with rfl | rfl
 ·exact ZR (SG (x := .ret) (s1 := akt) akO ho hs h0 hnb hg hl hv rfl Ou WV (fun h => by cases h) rfl (.inr ⟨hN, h8, adK⟩) 17)
 ·exact a0H (SG (x := .ret) (s1 := ab1) akJ ho hs' h0 hnb hg hl hv rfl OD Ua (fun h => by cases h) rfl (.inr ⟨hN, h8, aaC⟩) 16)
end Go.Proofs.YtglmonlofejcgaaGreatDoor.Am
