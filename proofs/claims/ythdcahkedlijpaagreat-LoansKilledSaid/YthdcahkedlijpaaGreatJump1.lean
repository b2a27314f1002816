/- One operand: value.CheckOperand and the reference's answer with the same number, 0 or 8. The loops over a jump's arguments that ask whether each is valid: jump.Check's, and the reference's in Valid. The loop of jump.Check and the loop of the reference's Valid, as rows. An argument's cells, each with what its type says, whatever structs lie in structs. (No program in sight.) A jump among the arguments: its cells, and the list of its operands. A law over one jump: its answer at any jump, out of its cases. -/
import Derived.Test.YthdcahkedlijpaaGreatAmC
import Derived.Test.YthdcahkedlijpaaGreatLn
import Derived.Deep.Slices
import Derived.Deep.Fields
import Derived.ChangeSame
import Derived.WalkKit
namespace Go.Proofs.YthdcahkedlijpaaGreat.Am
open Go.RowKit
set_option maxRecDepth 100000
def opK : List Kd := [.i .u8, .i .i64, .i .i64, .b, .i .u8]
def Says (F : FuncId) (us : List Value) (n : Int) : Prop := ∀ w : World, Calls Tryz.prog F #[.agg us.toArray] w fun e w' => e = .returned (.int .i64 n) ∧ Below w.heap.size w w'
end Go.Proofs.YthdcahkedlijpaaGreat.Am
namespace Go.Proofs.YthdcahkedlijpaaGreat.Am
open Go.RowKit
set_option maxRecDepth 100000
structure Ops (w : World) (v : Value) (els : List (List Value)) : Prop where
  sl : ∃ A c, v = .slice A els.length c
  most : (els.length : Int) ≤ 9223372036854775807
  at_ : ∀ (i : Nat) (el : List Value), els[i]? = some el → ∃ b off c, v = .slice (some ⟨b, off, none⟩) els.length c ∧ ∀ f u, el[f]? = some u → w.cell? ⟨b, off + i * 5 + f, none⟩ = some u
  kd : ∀ (i : Nat) (el : List Value), els[i]? = some el → All2 Kd.ok opK el
  cap : els ≠ [] → ∀ A n c, v = .slice A n c → n ≤ c ∧ c ≤ maxLen
theorem all2_cons' {α β : Type} {R : α → β → Prop} {k : α} {ks : List α} {l : List β} (h : All2 R (k :: ks) l) : ∃ a t, l = a :: t ∧ R k a ∧ All2 R ks t := by
  cases l with
  | nil => exact h.elim
  | cons a t => exact ⟨a, t, rfl, h.1, h.2⟩
theorem all2_nil' {α β : Type} {R : α → β → Prop} {l : List β} (h : All2 R [] l) : l = [] := by
  cases l with
  | nil => rfl
  | cons a t => exact h.elim
theorem opK_form {el : List Value} (h : All2 Kd.ok opK el) : ∃ a b c d e, el = [.int .u8 a, .int .i64 b, .int .i64 c, .bool d, .int .u8 e] := by
  obtain ⟨v0, l0, e0, ⟨a, ea, _⟩, h0⟩ := all2_cons' h
  obtain ⟨v1, l1, e1, ⟨b, eb, _⟩, h1⟩ := all2_cons' h0
  obtain ⟨v2, l2, e2, ⟨c, ec, _⟩, h2⟩ := all2_cons' h1
  obtain ⟨v3, l3, e3, ⟨d, ed⟩, h3⟩ := all2_cons' h2
  obtain ⟨v4, l4, e4, ⟨e, ee, _⟩, h4⟩ := all2_cons' h3
  have e5 := all2_nil' h4
  exact ⟨a, b, c, d, e, by rw [e0, e1, e2, e3, e4, e5, ea, eb, ec, ed, ee]⟩
theorem Inv.conv {b1 b2 : Base} (hv : @VS b1 = @VS b2) (hn : b1.nb = b2.nb) (hg : b1.g = b2.g) {h : Heap} {r : Ren} {B : Nat} {w : World} (i : @Inv b1 h r B w) : @Inv b2 h r B w := by
  obtain ⟨n, bb, ⟨dom, own, ro, inj, nb, z⟩⟩ := i
  rw [hv] at own ro
  exact @Inv.mk b2 _ _ _ _ n bb (@HR.mk b2 _ _ _ _ dom own ro inj (by show b2.nb ≤ B; rw [← hn]; exact nb) (fun c hc => by
    have hc : c < b2.nb := hc
    show w.heap[c]? = b2.g c
    rw [← hg]
    exact z c (by show c < b1.nb; rw [hn]; exact hc)))
theorem Sound.withK {P : Program} {b : Base} {O : Oracle} (h : @Sound b P O) {K : Know} (ok : KnowOk K b.rho b.sig) : @Sound (b.withK K ok) P O := by
  intro f args hp fl v h' e
  obtain ⟨hc, hk⟩ := h f args hp fl v h' e
  refine ⟨hc, fun r B w vs hi ha => (hk r B w vs (Inv.conv (b1 := b.withK K ok) (b2 := b) rfl rfl rfl hi) ha).mono fun e w' ⟨u, e1, r', i, e2, ad⟩ => ⟨u, e1, r', Inv.conv (b1 := b) (b2 := b.withK K ok) rfl rfl rfl i, e2, ad⟩⟩
theorem TabsOk.withK {b : Base} {T : Tabs} (h : @TabsOk b T) {K : Know} (ok : KnowOk K b.rho b.sig) : @TabsOk (b.withK K ok) T := by
  obtain ⟨h1, h2, h3⟩ := h
  exact @TabsOk.mk (b.withK K ok) T h1 h2 h3
noncomputable def numsE (els : List (List Value)) (k : Nat) : List Int := (els.length : Int) :: (k : Int) :: ((k + 1 : Nat) : Int) :: ((els[k]?).getD []).map codeI
@[reducible] noncomputable def baseE (w0 : World) (v : Value) (els : List (List Value)) (k : Nat) : Base :=
  { Know.nought with nb := w0.heap.size, g := fun b => w0.heap[b]?, rho := valI (numsE els k), sig := fun _ => [], ok := KnowOk.nought _ _, lst := fun _ => ⟨v, els⟩ }
def opC : List S := [.xi .u8 3, .xi .i64 4, .xi .i64 5, .xe [(6, 1)], .xi .u8 7]
def tbO : Tabs := ⟨[(0, 0)], [(0, .x 1, opC)], [(1, 1, 2)]⟩
def tbL : Tabs := ⟨[(0, 0)], [], []⟩
noncomputable def rowChk (F : FuncId) (n : Int) : Oracle := pureO F fun args => match args with | [.g cs] => bif sameL S.eqb opC cs then some (.a (.s (.int .i64 n))) else none | _ => none
noncomputable def ctxE (T : Tabs) (O : Oracle) : Ctx := ⟨tyOf Tryz.prog, O, T, fun _ _ _ => none⟩
noncomputable def quietO : Oracle := fun _ _ _ _ => none
def L1 : Lf := ⟨[], [], [(1, 0)], [], [], [], []⟩
def L2 : Lf := ⟨[], [], [], [], [], [], []⟩
theorem sameB {α : Type} {f : α → α → Bool} (hf : ∀ x y, f x y = true → x = y) : ∀ {l m : List α}, sameL f l m = true → l = m
  | [], [], _ => rfl
  | a :: l, b :: m, h => by
    simp only [sameL, Bool.and_eq_true] at h
    rw [hf a b h.1, sameB hf h.2]
  | [], _ :: _, h => by cases h
  | _ :: _, [], h => by cases h
section
variable {w0 : World} {v : Value} {els : List (List Value)}
theorem rho3 {k i : Nat} : (baseE w0 v els k).rho (i + 3) = valI (((els[k]?).getD []).map codeI) i := rfl
theorem sound_rowChk {k : Nat} {el : List Value} (he : els[k]? = some el) (hk : All2 Kd.ok opK el) {F : FuncId} (hF : Callable Tryz.prog F) {n : Int} (h : Says F el n) : @Sound (baseE w0 v els k) Tryz.prog (rowChk F n) := by
  letI : Base := baseE w0 v els k
  refine sound_pure hF fun args u hg r vs ha w _ => ?_
  split at hg
  · rename_i cs
    cases hc : sameL S.eqb opC cs <;> rw [hc] at hg <;> cases hg
    obtain rfl := sameB (fun _ _ => S.eqb_ok) hc
    match vs, ha with
    | [a], ⟨⟨us, h1, h2⟩, _⟩ =>
      subst h1
      have e : us = el := by
        obtain ⟨a, b, c, d, e, rfl⟩ := opK_form hk
        have hr : ∀ i x, ([Value.int .u8 a, .int .i64 b, .int .i64 c, .bool d, .int .u8 e].map codeI)[i]? = some x → (baseE w0 v els k).rho (i + 3) = x := fun i x hx => by
          rw [rho3, he]
          simp only [valI, Option.getD_some, nth_eq, hx]
        have r0 := hr 0 _ rfl
        have r1 := hr 1 _ rfl
        have r2 := hr 2 _ rfl
        have r3 := hr 3 _ rfl
        have r4 := hr 4 _ rfl
        match us, h2 with
        | [u0, u1, u2, u3, u4], ⟨g0, g1, g2, g3, g4, _⟩ =>
          have g0 : u0 = .int .u8 ((baseE w0 v els k).rho 3) := g0
          have g1 : u1 = .int .i64 ((baseE w0 v els k).rho 4) := g1
          have g2 : u2 = .int .i64 ((baseE w0 v els k).rho 5) := g2
          have g3 : u3 = .bool ([((6 : Nat), (1 : Int))].any fun p => decide ((baseE w0 v els k).rho p.1 = p.2)) := g3
          have g4 : u4 = .int .u8 ((baseE w0 v els k).rho 7) := g4
          rw [g0, g1, g2, g3, g4, r0, r1, r2, r4]
          simp only [List.any_cons, List.any_nil, Bool.or_false]
          rw [r3]
          cases d <;> rfl
      rw [e]
      exact (h w).mono fun e w' ⟨e1, e2⟩ => ⟨_, e1, rfl, e2⟩
  · cases hg
theorem tabs_el (ho : Ops w0 v els) {k : Nat} {el : List Value} (he : els[k]? = some el) : @TabsOk (baseE w0 v els k) tbO := by
  letI : Base := baseE w0 v els k
  have hk := ho.kd k el he
  have hlt : k < els.length := (List.getElem?_eq_some_iff.1 he).1
  refine ⟨fun l j h => ?_, fun l i cs h => ?_, fun i c j h => ?_⟩
  · have h : (bif Nat.beq 0 l then some 0 else none) = some j := h
    cases hb : Nat.beq 0 l <;> rw [hb] at h <;> cases h
    obtain ⟨A, c, e⟩ := ho.sl
    exact ⟨A, els.length, c, e, rfl⟩
  · have h : (bif Nat.beq 0 l && N.eqv (.x 1) i then some opC else none) = some cs := h
    cases hb : (Nat.beq 0 l && N.eqv (.x 1) i) <;> rw [hb] at h <;> cases h
    simp only [Bool.and_eq_true] at hb
    obtain rfl := N.eqv_ok hb.2
    obtain ⟨b, off, c, e, hc⟩ := ho.at_ k el he
    have hn : NV (.x 1) = (k : Int) := rfl
    refine ⟨b, off, els.length, c, el, e, by rw [hn]; omega, by rw [hn]; omega, ⟨by rw [hn]; exact he, fun f u hf w hw => ?_⟩, ?_⟩
    · have hcell := hc f u hf
      rw [hn]
      have hblk : w.heap[b]? = w0.heap[b]? := hw b (World.block_lt_of_cell? w0 ⟨b, off + k * 5 + f, none⟩ hcell)
      rw [← hcell]
      exact World.cell?_of_block hblk
    · obtain ⟨a, b, c, d, e, rfl⟩ := opK_form hk
      have hr : ∀ i x, ([Value.int .u8 a, .int .i64 b, .int .i64 c, .bool d, .int .u8 e].map codeI)[i]? = some x → (baseE w0 v els k).rho (i + 3) = x := fun i x hx => by
        rw [rho3, he]
        simp only [valI, Option.getD_some, nth_eq, hx]
      have r0 := hr 0 _ rfl
      have r1 := hr 1 _ rfl
      have r2 := hr 2 _ rfl
      have r3 := hr 3 _ rfl
      have r4 := hr 4 _ rfl
      refine ⟨fun r => ?_, fun r => ?_, fun r => ?_, fun r => ?_, fun r => ?_, trivial⟩
      · show _ = Value.int .u8 ((baseE w0 v els k).rho 3); rw [r0]; rfl
      · show _ = Value.int .i64 ((baseE w0 v els k).rho 4); rw [r1]; rfl
      · show _ = Value.int .i64 ((baseE w0 v els k).rho 5); rw [r2]; rfl
      · show _ = Value.bool ([((6 : Nat), (1 : Int))].any fun p => decide ((baseE w0 v els k).rho p.1 = p.2))
        simp only [List.any_cons, List.any_nil, Bool.or_false]
        rw [r3]
        cases d <;> rfl
      · show _ = Value.int .u8 ((baseE w0 v els k).rho 7); rw [r4]; rfl
  · have h : (bif Nat.beq 1 i && decide ((1 : Int) = c) then some 2 else none) = some j := h
    cases hb : (Nat.beq 1 i && decide ((1 : Int) = c)) <;> rw [hb] at h <;> cases h
    simp only [Bool.and_eq_true, decide_eq_true_eq] at hb
    obtain rfl := Nat.eq_of_beq_eq_true hb.1
    obtain rfl := hb.2
    have hm := ho.most
    refine ⟨?_, ?_, ?_⟩
    · show ((k + 1 : Nat) : Int) = (k : Int) + 1
      omega
    · show (-9223372036854775808 : Int) ≤ ((k + 1 : Nat) : Int)
      omega
    · show ((k + 1 : Nat) : Int) ≤ 9223372036854775807
      omega
theorem tabs_last (ho : Ops w0 v els) (k : Nat) : @TabsOk (baseE w0 v els k) tbL := by
  letI : Base := baseE w0 v els k
  refine ⟨fun l j h => ?_, fun l i cs h => (by cases h), fun i c j h => (by cases h)⟩
  have h : (bif Nat.beq 0 l then some 0 else none) = some j := h
  cases hb : Nat.beq 0 l <;> rw [hb] at h <;> cases h
  obtain ⟨A, c, e⟩ := ho.sl
  exact ⟨A, els.length, c, e, rfl⟩
theorem agreeE (k : Nat) : Agree (baseE w0 v els k) (baseE w0 v els (k + 1)) ⟨1, 0, 1⟩ := ⟨rfl, rfl, fun i hi => by
  have hi : i < 1 := hi
  obtain rfl : i = 0 := by omega
  rfl, fun _ _ => rfl, fun _ _ => rfl⟩
theorem agree0 (b1 b2 : Base) (h1 : b1.nb = b2.nb) (h2 : b1.g = b2.g) : Agree b1 b2 ⟨0, 0, 0⟩ := ⟨h1, h2, fun i h => absurd h (Nat.not_lt_zero i), fun i h => absurd h (Nat.not_lt_zero i), fun i h => absurd h (Nat.not_lt_zero i)⟩
theorem holds1 {k : Nat} (h : k < els.length) : L1.Holds (baseE w0 v els k).rho (baseE w0 v els k).sig :=
  ⟨fun i p h => (by cases h), fun i j h => (by cases h), fun i j hij => by
    have : (i, j) ∈ [((1 : Nat), (0 : Nat))] := hij
    simp only [List.mem_singleton, Prod.mk.injEq] at this
    obtain ⟨rfl, rfl⟩ := this
    show (k : Int) < (els.length : Int)
    omega, fun i j h => (by cases h), fun i l h => (by cases h), fun i l h => (by cases h), fun m h => (by cases h)⟩
theorem holds2 (b : Base) : L2.Holds b.rho b.sig :=
  ⟨fun i p h => (by cases h), fun i j h => (by cases h), fun i j h => (by cases h), fun i j h => (by cases h), fun i l h => (by cases h), fun i l h => (by cases h), fun m h => (by cases h)⟩
theorem lensE (k : Nat) : Lens [] (baseE w0 v els k).rho (baseE w0 v els k).sig := ⟨fun i _ => Nat.zero_le _, fun i h => by cases h⟩
theorem turns_one {k : Nat} {b2 : Base} {d : Bd} (ag : Agree (baseE w0 v els k) b2 d) {c : Code} {hd s1 : St} (hnx : hd.h.next = s1.h.next) {x : X} {L : Lf} (hL : L.Holds (baseE w0 v els k).rho (baseE w0 v els k).sig) {T : Tabs} (hT : @TabsOk (baseE w0 v els k) T)
    {O : Oracle} (hs : @Sound (baseE w0 v els k) Tryz.prog O) {th : Th} (hth : Th.ok (baseE w0 v els k) b2 th)
    (hrun : tellsR d th x s1 (@exec (L.know []) (ctxE T O) 0 5 c hd) = true) : Turns Tryz.prog (baseE w0 v els k) b2 c hd x s1 := by
  refine turns_runs mixedN ag hnx (sp := .leaf) hL (lensE k) (fun _ => ctxE T O) (fun _ => th) (fun L' h' => ?_) (fun L' h' => ?_) (fun L' h' => ?_) (fun L' _ _ => hth) (n := 5) ?_
  · exact @tyOf_ok ((baseE w0 v els k).withK (L'.know []) (Lf.ok h' (lensE k))) Tryz.prog
  · exact @CtxOk.mk ((baseE w0 v els k).withK (L'.know []) (Lf.ok h' (lensE k))) _ (ctxE T O) (Sound.withK hs _) (TabsOk.withK hT _)
  · exact Loops.ok_all (fun c => @LoopOk.none ((baseE w0 v els k).withK (L'.know []) (Lf.ok h' (lensE k))) Tryz.prog c) c
  · show ((Sp.leaf.leaves L).all _) = true
    show (tellsR d th x s1 (@exec (L.know []) (ctxE T O) 0 5 c hd) && true) = true
    rw [hrun]
    rfl
end
end Go.Proofs.YthdcahkedlijpaaGreat.Am
namespace Go.Proofs.YthdcahkedlijpaaGreat.Am
open Go.RowKit
set_option maxRecDepth 100000
noncomputable def codeC : Code := loopAt Tryz.f87 0
noncomputable def anyC : List V := List.replicate Tryz.f87.ntmps V.any
noncomputable def hdC (i : Nat) : St := ⟨upd (upd (upd anyC 116 (V.s (.rv 0))) 117 (V.s (.xi .i64 0))) 118 (V.s (.xi .i64 i)), ⟨[], 1⟩⟩
noncomputable def okC : St := ⟨anyC, ⟨[], 1⟩⟩
noncomputable def badC : St := ⟨upd anyC 2 (V.s (.int .i64 8)), ⟨[], 1⟩⟩
noncomputable def codeV : Code := loopAt Tryz.f78 0
noncomputable def anyV : List V := List.replicate Tryz.f78.ntmps V.any
noncomputable def hdV (i : Nat) : St := ⟨upd (upd anyV 1 (V.s (.ptr 0 0))) 6 (V.s (.xi .i64 i)), ⟨[(0, ⟨[.top, .top, .top, .top, .top, .top, .top, .top, .top, .rv 0, .top, .top, .top], true⟩)], 1⟩⟩
noncomputable def okV : St := ⟨anyV, ⟨[], 1⟩⟩
noncomputable def badV : St := ⟨upd anyV 2 (V.s (.bool false)), ⟨[], 1⟩⟩
def thUp : Th := [(.xi .i64 1, .xi .i64 2)]
def thEnd : Th := [(.xi .i64 0, .xi .i64 1)]
def thIn (nl m : Nat) : Th := [(.xi .i64 0, .xi .i64 nl), (.xi .i64 1, .int .i64 0), (.rv 0, .rv m)]
theorem stepC_run : tellsR ⟨1, 0, 1⟩ thUp .normal (hdC 1) (@exec (L1.know []) (ctxE tbO (rowChk 96 0)) 0 5 codeC (hdC 1)) = true := by kernel_rfl
theorem lastC_run : tellsR ⟨0, 0, 0⟩ [] (.exit 1) okC (@exec (L2.know []) (ctxE tbL quietO) 0 5 codeC (hdC 0)) = true := by kernel_rfl
theorem badC_run : tellsR ⟨0, 0, 0⟩ [] .ret badC (@exec (L1.know []) (ctxE tbO (rowChk 96 8)) 0 5 codeC (hdC 1)) = true := by kernel_rfl
theorem stepV_run : tellsR ⟨1, 0, 1⟩ thUp .normal (hdV 1) (@exec (L1.know []) (ctxE tbO (rowChk 101 0)) 0 5 codeV (hdV 1)) = true := by kernel_rfl
theorem lastV_run : tellsR ⟨0, 0, 0⟩ [] (.exit 1) okV (@exec (L2.know []) (ctxE tbL quietO) 0 5 codeV (hdV 0)) = true := by kernel_rfl
theorem badV_run : tellsR ⟨0, 0, 0⟩ [] .ret badV (@exec (L1.know []) (ctxE tbO (rowChk 101 8)) 0 5 codeV (hdV 1)) = true := by kernel_rfl
theorem endC_fit : fitSt ⟨1, 0, 1⟩ thEnd (hdC 0) (hdC 1) = true := by kernel_rfl
theorem endV_fit : fitSt ⟨1, 0, 1⟩ thEnd (hdV 0) (hdV 1) = true := by kernel_rfl
theorem Turns.pre {P : Program} {b1 b2 : Base} {d : Bd} (ag : Agree b1 b1 d) {th : Th} (ht : Th.ok b1 b1 th) {c : Code} {hd hd' s1 : St} {x : X} (hf : fitSt d th hd' hd = true) (hnx : hd.h.next = hd'.h.next) (h : Turns P b1 b2 c hd' x s1) : Turns P b1 b2 c hd x s1 := by
  intro r B a w hr
  obtain ⟨k1, k2⟩ := fitSt_ok ag ht hf hr
  have hadv := k2 (fl := 0) (Parts.ok hr).n hnx (@Adv.refl b1 0 hd.h r B w (@Rel.i b1 _ _ _ _ _ hr)) (fun l _ h => absurd h (Nat.not_lt_zero l))
  exact wp_mono (h k1) fun e a' w' ⟨h1, r', h2, h3, h4⟩ => ⟨h1, r', h2, Adv.trans' (Parts.ok hr).dom (Parts.ok k1).dom hadv h3, h4⟩
section
variable {w0 : World} {v : Value} {els : List (List Value)}
theorem thUp_ok (k : Nat) : Th.ok (baseE w0 v els k) (baseE w0 v els (k + 1)) thUp := by
  intro p hp r u hu
  obtain rfl := List.mem_singleton.1 hp
  exact hu
theorem thNil (b1 b2 : Base) : Th.ok b1 b2 [] := fun p hp => by cases hp
theorem thEnd_ok {k : Nat} (h : k = els.length) : Th.ok (baseE w0 v els k) (baseE w0 v els k) thEnd := by
  intro p hp r u hu
  obtain rfl := List.mem_singleton.1 hp
  subst h
  exact hu
theorem thIn_ok {bo : Base} {nl m : Nat} (h1 : bo.rho nl = els.length) (h2 : (bo.lst m).v = v) : Th.ok bo (baseE w0 v els 0) (thIn nl m) := by
  intro p hp r u hu
  simp only [thIn, List.mem_cons, List.mem_nil_iff, or_false] at hp
  rcases hp with rfl | rfl | rfl
  · have hu : u = .int .i64 (bo.rho nl) := hu
    show u = .int .i64 (els.length : Int)
    rw [hu, h1]
  · exact hu
  · have hu : ∃ A n c, (bo.lst m).v = .slice A n c ∧ u = .slice A n c := hu
    rw [h2] at hu
    exact hu
variable {F : FuncId} (hF : Callable Tryz.prog F) (ho : Ops w0 v els) {cs : Nat → Int} (hs : ∀ i el, els[i]? = some el → Says F el (cs i)) {N : Nat} (h0 : ∀ i, i < N → cs i = 0)
include hF ho hs h0
theorem loop06 {bo : Base} (hnb : bo.nb = w0.heap.size) (hg : bo.g = fun b => w0.heap[b]?) {nl m : Nat} (hl : bo.rho nl = els.length) (hv : (bo.lst m).v = v) {c : Code} {hd : Nat → St} (hn1 : (hd 1).h.next = (hd 0).h.next)
    (step : tellsR ⟨1, 0, 1⟩ thUp .normal (hd 1) (@exec (L1.know []) (ctxE tbO (rowChk F 0)) 0 5 c (hd 1)) = true) (hfit : fitSt ⟨1, 0, 1⟩ thEnd (hd 0) (hd 1) = true) {x : X} (hx : x ≠ .normal) {s1 : St} (hn2 : (hd 1).h.next = s1.h.next)
    (last : (N = els.length ∧ tellsR ⟨0, 0, 0⟩ [] x s1 (@exec (L2.know []) (ctxE tbL quietO) 0 5 c (hd 0)) = true) ∨ (N < els.length ∧ cs N = 8 ∧ tellsR ⟨0, 0, 0⟩ [] x s1 (@exec (L1.know []) (ctxE tbO (rowChk F 8)) 0 5 c (hd 1)) = true)) (tag : Nat) :
    @LoopOk bo Tryz.prog (rowL tag ⟨0, 0, 0⟩ (thIn nl m) (hd 1) x s1) c := by
  have hN : N ≤ els.length := by rcases last with ⟨h, _⟩ | ⟨h, _⟩ <;> omega
  have hel : ∀ k, k < els.length → ∃ el, els[k]? = some el := fun k hk => ⟨_, List.getElem?_eq_getElem hk⟩
  refine @rowL_ok _ bo (fun k => baseE w0 v els k) c _ _ _ _ x hx N (agree0 _ _ hnb hg) (thIn_ok hl hv) (fun k hk => ?_) ?_ tag
  · obtain ⟨el, he⟩ := hel k (by omega)
    exact turns_one (agreeE k) rfl (holds1 (by omega)) (tabs_el ho he) (sound_rowChk he (ho.kd k el he) hF (h0 k hk ▸ hs k el he)) (thUp_ok k) step
  · rcases last with ⟨rfl, last⟩ | ⟨hlt, h8, last⟩
    · have hsn : @Sound (baseE w0 v els els.length) Tryz.prog quietO := fun _ _ _ _ _ _ h => by cases h
      intro r B a w hr
      exact Turns.pre ⟨rfl, rfl, fun _ _ => rfl, fun _ _ => rfl, fun _ _ => rfl⟩ (thEnd_ok rfl) hfit hn1 (turns_one (agree0 _ _ hnb.symm hg.symm) (hn1.symm.trans hn2) (holds2 _) (tabs_last ho _) hsn (thNil _ _) last) hr
    · obtain ⟨el, he⟩ := hel N hlt
      exact turns_one (agree0 _ _ hnb.symm hg.symm) hn2 (holds1 hlt) (tabs_el ho he) (sound_rowChk he (ho.kd N el he) hF (h8 ▸ hs N el he)) (thNil _ _) last
end
end Go.Proofs.YthdcahkedlijpaaGreat.Am
namespace Go.Proofs.YthdcahkedlijpaaGreat.Am
open Go.ChangeShapes Go.WideShapes Go.Deep
section
variable {H : Type} {enc : TypeId × Value → H} {P : Program} {w : World} {base : Nat} {spare : Nat → Bool} {held : Bool}
def oneT (P : Program) (t : TypeId) : Bool := match P.underlying t with | some .bool => true | some (.int _) => true | some .string => true | some (.slice _) => true | _ => false
def leafT (P : Program) : Nat → Nat → TypeId → List (Nat × TypeId)
  | 0, _, _ => []
  | n + 1, o, t => bif oneT P t then [(o, t)] else match P.underlying t with
    | some (.struct fs) => fs.toList.flatMap fun f => leafT P n (o + f.offset) f.type
    | _ => []
theorem trod_one {t : TypeId} {fuel : Nat} {cs : List Value} {x : DataW H × List MemPlace} (ht : oneT P t = true) (h : DataW.trod enc P w base spare held fuel t cs = some x) : ∃ v, cs = [v] := by
  unfold oneT at ht
  split at ht <;> rename_i hu
  · obtain ⟨b, rfl, _⟩ := DataW.trod_bool hu h; exact ⟨_, rfl⟩
  · obtain ⟨n, rfl, _⟩ := DataW.trod_int hu h; exact ⟨_, rfl⟩
  · obtain ⟨s, rfl, _⟩ := DataW.trod_string hu h; exact ⟨_, rfl⟩
  · rcases open_slice hu h with ⟨rfl, _⟩ | ⟨a, l, c, m, n, D, Pl, rfl, _⟩ <;> exact ⟨_, rfl⟩
  · cases ht
theorem leaf_trod : ∀ (n o : Nat) (t : TypeId) (fuel : Nat) (cs : List Value) (x : DataW H × List MemPlace), DataW.trod enc P w base spare held fuel t cs = some x →
    ∀ p ∈ leafT P n o t, o ≤ p.1 ∧ ∃ v y m, cs[p.1 - o]? = some v ∧ oneT P p.2 = true ∧ DataW.trod enc P w base spare held m p.2 [v] = some y
  | 0, _, _, _, _, _, _, p, hp => by simp [leafT] at hp
  | n + 1, o, t, fuel, cs, x, h, p, hp => by
    rw [leafT] at hp
    cases ho : oneT P t <;> rw [ho] at hp <;> simp only [cond_true, cond_false] at hp
    · split at hp
      · rename_i fs hu
        obtain ⟨f, hf, hp⟩ := List.mem_flatMap.1 hp
        obtain ⟨xs, m, _, _, _, hlen, hg⟩ := DataW.trod_struct hu h
        obtain ⟨i, hi⟩ := List.getElem?_of_mem hf
        have hi : fs[i]? = some f := by rw [← Array.getElem?_toList]; exact hi
        have h1 := hg i f hi
        have hil : i < xs.length := by have := (Array.getElem?_eq_some_iff.1 hi).1; omega
        rw [List.getElem?_eq_getElem hil] at h1
        obtain ⟨k1, v, y, m', k2, k3, k4⟩ := leaf_trod n (o + f.offset) f.type m _ _ h1 p hp
        refine ⟨by omega, v, y, m', ?_, k3, k4⟩
        rw [List.getElem?_take] at k2
        split at k2
        · rw [List.getElem?_drop] at k2
          rw [← k2]
          congr 1
          omega
        · cases k2
      · cases hp
    · rcases List.mem_singleton.1 hp with rfl
      obtain ⟨v, rfl⟩ := trod_one ho h
      exact ⟨Nat.le_refl _, v, x, fuel, by simp, ho, h⟩
theorem kd_trod {t : TypeId} {kd : Kd} (hk : kdOf P t = some kd) {m : Nat} {v : Value} {y : DataW H × List MemPlace} (h : DataW.trod enc P w base spare held m t [v] = some y) : kd.ok v := by
  unfold kdOf at hk
  split at hk <;> cases hk <;> rename_i hu
  · obtain ⟨b, e, _⟩ := DataW.trod_bool hu h
    cases e
    exact ⟨b, rfl⟩
  · obtain ⟨n, e, _, hw⟩ := DataW.trod_int hu h
    cases e
    refine ⟨n, rfl, ?_⟩
    simpa [Lit.wf, IntKind.has] using hw
  · obtain ⟨s, e, _, hs⟩ := DataW.trod_string hu h
    cases e
    exact ⟨s, rfl, by have : s.size ≤ 9223372036854775807 := hs; show (s.size : Int) ≤ 9223372036854775807; omega⟩
end
end Go.Proofs.YthdcahkedlijpaaGreat.Am
namespace Go.Proofs.YthdcahkedlijpaaGreat.Am
open Go.RowKit Go.ChangeShapes Go.WideShapes Go.Deep
set_option maxRecDepth 100000
def kPre : List Kd := [.i .u8, .i .u8, .i .i64, .i .i64, .b, .i .u8, .i .i64, .i .i64, .i .i64]
def kPost : List Kd := [.i .i64, .b, .i .u8]
structure JumpIs (w : World) (v : Value) (pre : List Value) (sv : Value) (post : List Value) (els : List (List Value)) : Prop where
  v : v = .agg (pre ++ sv :: post).toArray
  pre : All2 Kd.ok kPre pre
  post : All2 Kd.ok kPost post
  ops : Ops w sv els
end Go.Proofs.YthdcahkedlijpaaGreat.Am
namespace Go.Proofs.YthdcahkedlijpaaGreat.Am
open Go.RowKit
set_option maxRecDepth 100000
def cellsJ : List S := cellsT 0 kPre ++ .rv 0 :: cellsT 10 kPost
def tbJ : Tabs := ⟨[(0, 9)], [], []⟩
noncomputable def loopsGood : FuncId → Loops := rowsL [(87, rowL 17 ⟨0, 0, 0⟩ (thIn 9 0) (hdC 1) (.exit 1) okC), (78, rowL 16 ⟨0, 0, 0⟩ (thIn 9 0) (hdV 1) (.exit 1) okV)]
noncomputable def loopsBad : FuncId → Loops := rowsL [(87, rowL 17 ⟨0, 0, 0⟩ (thIn 9 0) (hdC 1) .ret badC), (78, rowL 16 ⟨0, 0, 0⟩ (thIn 9 0) (hdV 1) .ret badV)]
noncomputable def loopsNone : FuncId → Loops := fun _ _ _ _ => none
noncomputable def loopsJ (L : Lf) : FuncId → Loops := Option.rec loopsNone (fun p => bif decide (p = (1, 1)) then loopsGood else bif decide (p = (0, 0)) then loopsBad else loopsNone) (nth L.iv 13)
theorem okC_row {bo : Base} {x : X} {s1 : St} (h : @LoopOk bo Tryz.prog (rowL 17 ⟨0, 0, 0⟩ (thIn 9 0) (hdC 1) x s1) codeC) (F : Func) (c : Code) (hF : Tryz.prog.funcs[87]? = some F) (hc : F.body = some c) : Loops.ok (@LoopOk bo Tryz.prog (rowL 17 ⟨0, 0, 0⟩ (thIn 9 0) (hdC 1) x s1)) c := by
  obtain rfl : Tryz.f87 = F := Option.some.inj (Tryz.func87.symm.trans hF)
  have ht : (loopsIn ((Tryz.f87.body).getD .skip)).map Code.tag = [17] := by kernel_rfl
  rw [hc] at ht
  have ht : (loopsIn c).map Code.tag = [17] := ht
  exact Loops.ok_row hc (i := 0) (by rw [ht]; decide) (by have := congrArg List.length ht; simp at this; omega) (by kernel_rfl) h
theorem okV_row {bo : Base} {x : X} {s1 : St} (h : @LoopOk bo Tryz.prog (rowL 16 ⟨0, 0, 0⟩ (thIn 9 0) (hdV 1) x s1) codeV) (F : Func) (c : Code) (hF : Tryz.prog.funcs[78]? = some F) (hc : F.body = some c) : Loops.ok (@LoopOk bo Tryz.prog (rowL 16 ⟨0, 0, 0⟩ (thIn 9 0) (hdV 1) x s1)) c := by
  obtain rfl : Tryz.f78 = F := Option.some.inj (Tryz.func78.symm.trans hF)
  have ht : (loopsIn ((Tryz.f78.body).getD .skip)).map Code.tag = [16] := by kernel_rfl
  rw [hc] at ht
  have ht : (loopsIn c).map Code.tag = [16] := ht
  exact Loops.ok_row hc (i := 0) (by rw [ht]; decide) (by have := congrArg List.length ht; simp at this; omega) (by kernel_rfl) h
theorem first_bad (cs : Nat → Int) : ∀ n, (∀ i, i < n → cs i = 0) ∨ ∃ N, N < n ∧ (∀ i, i < N → cs i = 0) ∧ cs N ≠ 0
  | 0 => .inl fun _ h => absurd h (Nat.not_lt_zero _)
  | n + 1 => by
    rcases first_bad cs n with h | ⟨N, h1, h2⟩
    · by_cases hc : cs n = 0
      · exact .inl fun i hi => by
          rcases Nat.lt_or_ge i n with h' | h'
          · exact h i h'
          · obtain rfl : i = n := by omega
            exact hc
      · exact .inr ⟨n, by omega, h, hc⟩
    · exact .inr ⟨N, by omega, h2⟩
theorem calV : Callable Tryz.prog 96 := ⟨_, Tryz.func96, by kernel_rfl, by kernel_rfl⟩
theorem calR : Callable Tryz.prog 101 := ⟨_, Tryz.func101, by kernel_rfl, by kernel_rfl⟩
theorem loops_good {w : World} {sv : Value} {els : List (List Value)} (ho : Ops w sv els) {cs : Nat → Int} (hs : ∀ i el, els[i]? = some el → Says 96 el (cs i)) (hs' : ∀ i el, els[i]? = some el → Says 101 el (cs i))
    {bo : Base} (hnb : bo.nb = w.heap.size) (hg : bo.g = fun b => w.heap[b]?) (hl : bo.rho 9 = els.length) (hv : (bo.lst 0).v = sv) (h0 : ∀ i, i < els.length → cs i = 0) :
    ∀ f F c, Tryz.prog.funcs[f]? = some F → F.body = some c → Loops.ok (@LoopOk bo Tryz.prog (loopsGood f)) c := by
  refine rowsL_ok _ fun p hp => ?_
  simp only [List.mem_cons, List.mem_nil_iff, or_false] at hp
  rcases hp with rfl | rfl
  · exact okC_row (loop06 (x := .exit 1) (s1 := okC) calV ho hs h0 hnb hg hl hv rfl stepC_run endC_fit (fun h => by cases h) rfl (.inl ⟨rfl, lastC_run⟩) 17)
  · exact okV_row (loop06 (x := .exit 1) (s1 := okV) calR ho hs' h0 hnb hg hl hv rfl stepV_run endV_fit (fun h => by cases h) rfl (.inl ⟨rfl, lastV_run⟩) 16)
theorem loops_bad {w : World} {sv : Value} {els : List (List Value)} (ho : Ops w sv els) {cs : Nat → Int} (hs : ∀ i el, els[i]? = some el → Says 96 el (cs i)) (hs' : ∀ i el, els[i]? = some el → Says 101 el (cs i))
    {bo : Base} (hnb : bo.nb = w.heap.size) (hg : bo.g = fun b => w.heap[b]?) (hl : bo.rho 9 = els.length) (hv : (bo.lst 0).v = sv) {N : Nat} (hN : N < els.length) (h0 : ∀ i, i < N → cs i = 0) (h8 : cs N = 8) :
    ∀ f F c, Tryz.prog.funcs[f]? = some F → F.body = some c → Loops.ok (@LoopOk bo Tryz.prog (loopsBad f)) c := by
  refine rowsL_ok _ fun p hp => ?_
  simp only [List.mem_cons, List.mem_nil_iff, or_false] at hp
  rcases hp with rfl | rfl
  · exact okC_row (loop06 (x := .ret) (s1 := badC) calV ho hs h0 hnb hg hl hv rfl stepC_run endC_fit (fun h => by cases h) rfl (.inr ⟨hN, h8, badC_run⟩) 17)
  · exact okV_row (loop06 (x := .ret) (s1 := badV) calR ho hs' h0 hnb hg hl hv rfl stepV_run endV_fit (fun h => by cases h) rfl (.inr ⟨hN, h8, badV_run⟩) 16)
end Go.Proofs.YthdcahkedlijpaaGreat.Am
