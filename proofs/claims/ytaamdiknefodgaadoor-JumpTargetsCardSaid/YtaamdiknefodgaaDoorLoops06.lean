/- The loops over a jump's arguments that ask whether each is valid: jump.Check's, and the reference's in Valid. -/
import Derived.Test.YtaamdiknefodgaaDoorChk06
import Derived.Test.YtaamdiknefodgaaDoorLb
namespace Go.Proofs.YtaamdiknefodgaaDoor.Am
open Go.RowKit
set_option maxRecDepth 100000

/-- a list of operands, where it lies -/
structure Ops (w : World) (v : Value) (els : List (List Value)) : Prop where
  sl : ∃ A c, v = .slice A els.length c
  most : (els.length : Int) ≤ 9223372036854775807
  at_ : ∀ (i : Nat) (el : List Value), els[i]? = some el → ∃ b off c, v = .slice (some ⟨b, off, none⟩) els.length c ∧ ∀ f u, el[f]? = some u → w.cell? ⟨b, off + i * 5 + f, none⟩ = some u
  kd : ∀ (i : Nat) (el : List Value), els[i]? = some el → All2 Kd.ok opK el
theorem all2_cons' {α β : Type} {R : α → β → Prop} {k : α} {ks : List α} {l : List β} (h : All2 R (k :: ks) l) : ∃ a t, l = a :: t ∧ R k a ∧ All2 R ks t := by
  cases l with
  | nil => exact h.elim
  | cons a t => exact ⟨a, t, rfl, h.1, h.2⟩
theorem all2_nil' {α β : Type} {R : α → β → Prop} {l : List β} (h : All2 R [] l) : l = [] := by
  cases l with
  | nil => rfl
  | cons a t => exact h.elim
theorem opK_form {el : List Value} (h : All2 Kd.ok opK el) : ∃ a b c d e, el = [.int .u8 a, .int .i64 b, .int .i64 c, .bool d, .int .u8 e] := by
  obtain ⟨v0, l0, e0, ⟨a, ea, _⟩, h0⟩ := all2_cons' h
  obtain ⟨v1, l1, e1, ⟨b, eb, _⟩, h1⟩ := all2_cons' h0
  obtain ⟨v2, l2, e2, ⟨c, ec, _⟩, h2⟩ := all2_cons' h1
  obtain ⟨v3, l3, e3, ⟨d, ed⟩, h3⟩ := all2_cons' h2
  obtain ⟨v4, l4, e4, ⟨e, ee, _⟩, h4⟩ := all2_cons' h3
  have e5 := all2_nil' h4
  exact ⟨a, b, c, d, e, by rw [e0, e1, e2, e3, e4, e5, ea, eb, ec, ed, ee]⟩
/-! other things are known: the same memory -/
theorem Inv.conv {b1 b2 : Base} (hv : @VS b1 = @VS b2) (hn : b1.nb = b2.nb) (hg : b1.g = b2.g) {h : Heap} {r : Ren} {B : Nat} {w : World} (i : @Inv b1 h r B w) : @Inv b2 h r B w := by
  obtain ⟨n, bb, ⟨dom, own, ro, inj, nb, z⟩⟩ := i
  rw [hv] at own ro
  exact @Inv.mk b2 _ _ _ _ n bb (@HR.mk b2 _ _ _ _ dom own ro inj (by show b2.nb ≤ B; rw [← hn]; exact nb) (fun c hc => by
    have hc : c < b2.nb := hc
    show w.heap[c]? = b2.g c
    rw [← hg]
    exact z c (by show c < b1.nb; rw [hn]; exact hc)))
theorem Sound.withK {P : Program} {b : Base} {O : Oracle} (h : @Sound b P O) {K : Know} (ok : KnowOk K b.rho b.sig) : @Sound (b.withK K ok) P O := by
  intro f args hp fl v h' e
  obtain ⟨hc, hk⟩ := h f args hp fl v h' e
  refine ⟨hc, fun r B w vs hi ha => (hk r B w vs (Inv.conv (b1 := b.withK K ok) (b2 := b) rfl rfl rfl hi) ha).mono fun e w' ⟨u, e1, r', i, e2, ad⟩ => ⟨u, e1, r', Inv.conv (b1 := b) (b2 := b.withK K ok) rfl rfl rfl i, e2, ad⟩⟩
theorem TabsOk.withK {b : Base} {T : Tabs} (h : @TabsOk b T) {K : Know} (ok : KnowOk K b.rho b.sig) : @TabsOk (b.withK K ok) T := by
  obtain ⟨h1, h2, h3⟩ := h
  exact @TabsOk.mk (b.withK K ok) T h1 h2 h3
/-- numbers of a round: how many there are, where it stands, one more, the element's cells -/
noncomputable def numsE (els : List (List Value)) (k : Nat) : List Int := (els.length : Int) :: (k : Int) :: ((k + 1 : Nat) : Int) :: ((els[k]?).getD []).map codeI
@[reducible] noncomputable def baseE (w0 : World) (v : Value) (els : List (List Value)) (k : Nat) : Base :=
  { Know.nought with nb := w0.heap.size, g := fun b => w0.heap[b]?, rho := valI (numsE els k), sig := fun _ => [], ok := KnowOk.nought _ _, lst := fun _ => ⟨v, els⟩ }
def opC : List S := [.xi .u8 3, .xi .i64 4, .xi .i64 5, .xe [(6, 1)], .xi .u8 7]
def tbO : Tabs := ⟨[(0, 0)], [(0, .x 1, opC)], [(1, 1, 2)]⟩
def tbL : Tabs := ⟨[(0, 0)], [], []⟩
noncomputable def rowChk (F : FuncId) (n : Int) : Oracle := pureO F fun args => match args with | [.g cs] => bif sameL S.eqb opC cs then some (.a (.s (.int .i64 n))) else none | _ => none
noncomputable def ctxE (T : Tabs) (O : Oracle) : Ctx := ⟨tyOf Tryd.prog, O, T, fun _ _ _ => none⟩
noncomputable def quietO : Oracle := fun _ _ _ _ => none
def L1 : Lf := ⟨[], [], [(1, 0)], [], [], [], []⟩
def L2 : Lf := ⟨[], [], [], [], [], [], []⟩
theorem sameB {α : Type} {f : α → α → Bool} (hf : ∀ x y, f x y = true → x = y) : ∀ {l m : List α}, sameL f l m = true → l = m
  | [], [], _ => rfl
  | a :: l, b :: m, h => by
    simp only [sameL, Bool.and_eq_true] at h
    rw [hf a b h.1, sameB hf h.2]
  | [], _ :: _, h => by cases h
  | _ :: _, [], h => by cases h
section
variable {w0 : World} {v : Value} {els : List (List Value)}
theorem rho3 {k i : Nat} : (baseE w0 v els k).rho (i + 3) = valI (((els[k]?).getD []).map codeI) i := rfl
theorem sound_rowChk {k : Nat} {el : List Value} (he : els[k]? = some el) (hk : All2 Kd.ok opK el) {F : FuncId} (hF : Callable Tryd.prog F) {n : Int} (h : Says F el n) : @Sound (baseE w0 v els k) Tryd.prog (rowChk F n) := by
  letI : Base := baseE w0 v els k
  refine sound_pure hF fun args u hg r vs ha w _ => ?_
  split at hg
  · rename_i cs
    cases hc : sameL S.eqb opC cs <;> rw [hc] at hg <;> cases hg
    obtain rfl := sameB (fun _ _ => S.eqb_ok) hc
    match vs, ha with
    | [a], ⟨⟨us, h1, h2⟩, _⟩ =>
      subst h1
      have e : us = el := by
        obtain ⟨a, b, c, d, e, rfl⟩ := opK_form hk
        have hr : ∀ i x, ([Value.int .u8 a, .int .i64 b, .int .i64 c, .bool d, .int .u8 e].map codeI)[i]? = some x → (baseE w0 v els k).rho (i + 3) = x := fun i x hx => by
          rw [rho3, he]
          simp only [valI, Option.getD_some, nth_eq, hx]
        have r0 := hr 0 _ rfl
        have r1 := hr 1 _ rfl
        have r2 := hr 2 _ rfl
        have r3 := hr 3 _ rfl
        have r4 := hr 4 _ rfl
        match us, h2 with
        | [u0, u1, u2, u3, u4], ⟨g0, g1, g2, g3, g4, _⟩ =>
          have g0 : u0 = .int .u8 ((baseE w0 v els k).rho 3) := g0
          have g1 : u1 = .int .i64 ((baseE w0 v els k).rho 4) := g1
          have g2 : u2 = .int .i64 ((baseE w0 v els k).rho 5) := g2
          have g3 : u3 = .bool ([((6 : Nat), (1 : Int))].any fun p => decide ((baseE w0 v els k).rho p.1 = p.2)) := g3
          have g4 : u4 = .int .u8 ((baseE w0 v els k).rho 7) := g4
          rw [g0, g1, g2, g3, g4, r0, r1, r2, r4]
          simp only [List.any_cons, List.any_nil, Bool.or_false]
          rw [r3]
          cases d <;> rfl
      rw [e]
      exact (h w).mono fun e w' ⟨e1, e2⟩ => ⟨_, e1, rfl, e2⟩
  · cases hg
theorem tabs_el (ho : Ops w0 v els) {k : Nat} {el : List Value} (he : els[k]? = some el) : @TabsOk (baseE w0 v els k) tbO := by
  letI : Base := baseE w0 v els k
  have hk := ho.kd k el he
  have hlt : k < els.length := (List.getElem?_eq_some_iff.1 he).1
  refine ⟨fun l j h => ?_, fun l i cs h => ?_, fun i c j h => ?_⟩
  · have h : (bif Nat.beq 0 l then some 0 else none) = some j := h
    cases hb : Nat.beq 0 l <;> rw [hb] at h <;> cases h
    obtain ⟨A, c, e⟩ := ho.sl
    exact ⟨A, els.length, c, e, rfl⟩
  · have h : (bif Nat.beq 0 l && N.eqv (.x 1) i then some opC else none) = some cs := h
    cases hb : (Nat.beq 0 l && N.eqv (.x 1) i) <;> rw [hb] at h <;> cases h
    simp only [Bool.and_eq_true] at hb
    obtain rfl := N.eqv_ok hb.2
    obtain ⟨b, off, c, e, hc⟩ := ho.at_ k el he
    have hn : NV (.x 1) = (k : Int) := rfl
    refine ⟨b, off, els.length, c, el, e, by rw [hn]; omega, by rw [hn]; omega, ⟨by rw [hn]; exact he, fun f u hf w hw => ?_⟩, ?_⟩
    · have hcell := hc f u hf
      rw [hn]
      have hblk : w.heap[b]? = w0.heap[b]? := hw b (World.block_lt_of_cell? w0 ⟨b, off + k * 5 + f, none⟩ hcell)
      rw [← hcell]
      exact World.cell?_of_block hblk
    · obtain ⟨a, b, c, d, e, rfl⟩ := opK_form hk
      have hr : ∀ i x, ([Value.int .u8 a, .int .i64 b, .int .i64 c, .bool d, .int .u8 e].map codeI)[i]? = some x → (baseE w0 v els k).rho (i + 3) = x := fun i x hx => by
        rw [rho3, he]
        simp only [valI, Option.getD_some, nth_eq, hx]
      have r0 := hr 0 _ rfl
      have r1 := hr 1 _ rfl
      have r2 := hr 2 _ rfl
      have r3 := hr 3 _ rfl
      have r4 := hr 4 _ rfl
      refine ⟨fun r => ?_, fun r => ?_, fun r => ?_, fun r => ?_, fun r => ?_, trivial⟩
      · show _ = Value.int .u8 ((baseE w0 v els k).rho 3); rw [r0]; rfl
      · show _ = Value.int .i64 ((baseE w0 v els k).rho 4); rw [r1]; rfl
      · show _ = Value.int .i64 ((baseE w0 v els k).rho 5); rw [r2]; rfl
      · show _ = Value.bool ([((6 : Nat), (1 : Int))].any fun p => decide ((baseE w0 v els k).rho p.1 = p.2))
        simp only [List.any_cons, List.any_nil, Bool.or_false]
        rw [r3]
        cases d <;> rfl
      · show _ = Value.int .u8 ((baseE w0 v els k).rho 7); rw [r4]; rfl
  · have h : (bif Nat.beq 1 i && decide ((1 : Int) = c) then some 2 else none) = some j := h
    cases hb : (Nat.beq 1 i && decide ((1 : Int) = c)) <;> rw [hb] at h <;> cases h
    simp only [Bool.and_eq_true, decide_eq_true_eq] at hb
    obtain rfl := Nat.eq_of_beq_eq_true hb.1
    obtain rfl := hb.2
    have hm := ho.most
    refine ⟨?_, ?_, ?_⟩
    · show ((k + 1 : Nat) : Int) = (k : Int) + 1
      omega
    · show (-9223372036854775808 : Int) ≤ ((k + 1 : Nat) : Int)
      omega
    · show ((k + 1 : Nat) : Int) ≤ 9223372036854775807
      omega
theorem tabs_last (ho : Ops w0 v els) (k : Nat) : @TabsOk (baseE w0 v els k) tbL := by
  letI : Base := baseE w0 v els k
  refine ⟨fun l j h => ?_, fun l i cs h => (by cases h), fun i c j h => (by cases h)⟩
  have h : (bif Nat.beq 0 l then some 0 else none) = some j := h
  cases hb : Nat.beq 0 l <;> rw [hb] at h <;> cases h
  obtain ⟨A, c, e⟩ := ho.sl
  exact ⟨A, els.length, c, e, rfl⟩
theorem agreeE (k : Nat) : Agree (baseE w0 v els k) (baseE w0 v els (k + 1)) ⟨1, 0, 1⟩ := ⟨rfl, rfl, fun i hi => by
  have hi : i < 1 := hi
  obtain rfl : i = 0 := by omega
  rfl, fun _ _ => rfl, fun _ _ => rfl⟩
theorem agree0 (b1 b2 : Base) (h1 : b1.nb = b2.nb) (h2 : b1.g = b2.g) : Agree b1 b2 ⟨0, 0, 0⟩ := ⟨h1, h2, fun i h => absurd h (Nat.not_lt_zero i), fun i h => absurd h (Nat.not_lt_zero i), fun i h => absurd h (Nat.not_lt_zero i)⟩
theorem holds1 {k : Nat} (h : k < els.length) : L1.Holds (baseE w0 v els k).rho (baseE w0 v els k).sig :=
  ⟨fun i p h => (by cases h), fun i j h => (by cases h), fun i j hij => by
    have : (i, j) ∈ [((1 : Nat), (0 : Nat))] := hij
    simp only [List.mem_singleton, Prod.mk.injEq] at this
    obtain ⟨rfl, rfl⟩ := this
    show (k : Int) < (els.length : Int)
    omega, fun i j h => (by cases h), fun i l h => (by cases h), fun i l h => (by cases h), fun m h => (by cases h)⟩
theorem holds2 (b : Base) : L2.Holds b.rho b.sig :=
  ⟨fun i p h => (by cases h), fun i j h => (by cases h), fun i j h => (by cases h), fun i j h => (by cases h), fun i l h => (by cases h), fun i l h => (by cases h), fun m h => (by cases h)⟩
theorem lensE (k : Nat) : Lens [] (baseE w0 v els k).rho (baseE w0 v els k).sig := ⟨fun i _ => Nat.zero_le _, fun i h => by cases h⟩

/-- from the element's head, by one run of the machine -/
theorem turns_one {k : Nat} {b2 : Base} {d : Bd} (ag : Agree (baseE w0 v els k) b2 d) {c : Code} {hd s1 : St} (hnx : hd.h.next = s1.h.next) {x : X} {L : Lf} (hL : L.Holds (baseE w0 v els k).rho (baseE w0 v els k).sig) {T : Tabs} (hT : @TabsOk (baseE w0 v els k) T)
    {O : Oracle} (hs : @Sound (baseE w0 v els k) Tryd.prog O) {th : Th} (hth : Th.ok (baseE w0 v els k) b2 th)
    (hrun : tellsR d th x s1 (@exec (L.know []) (ctxE T O) 0 5 c hd) = true) : Turns Tryd.prog (baseE w0 v els k) b2 c hd x s1 := by
  refine turns_runs mixed ag hnx (sp := .leaf) hL (lensE k) (fun _ => ctxE T O) (fun _ => th) (fun L' h' => ?_) (fun L' h' => ?_) (fun L' h' => ?_) (fun L' _ _ => hth) (n := 5) ?_
  · exact @tyOf_ok ((baseE w0 v els k).withK (L'.know []) (Lf.ok h' (lensE k))) Tryd.prog
  · exact @CtxOk.mk ((baseE w0 v els k).withK (L'.know []) (Lf.ok h' (lensE k))) _ (ctxE T O) (Sound.withK hs _) (TabsOk.withK hT _)
  · exact Loops.ok_all (fun c => @LoopOk.none ((baseE w0 v els k).withK (L'.know []) (Lf.ok h' (lensE k))) Tryd.prog c) c
  · show ((Sp.leaf.leaves L).all _) = true
    show (tellsR d th x s1 (@exec (L.know []) (ctxE T O) 0 5 c hd) && true) = true
    rw [hrun]
    rfl
end
end Go.Proofs.YtaamdiknefodgaaDoor.Am
