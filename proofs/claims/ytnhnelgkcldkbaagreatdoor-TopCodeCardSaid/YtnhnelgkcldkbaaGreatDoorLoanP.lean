/- Lists among the arguments, and lists in their elements: where the elements lie, and what each of them is. (No program in sight.) The cells of an element that has lists among them. A function among the arguments: its locals, its blocks, their statements and the arguments of their jumps. (Type numbers are given when it is used.) Functions of lists, by the machine: numbers and lists behind a call, cases split by hints, and what comes out told by tests of numbers. (No program in sight.) A function among the arguments: its data, numbers and lists behind a call with it, and the tables of its elements. (No program in sight.) The points of a function and its loans, plain. (No program in sight.) -/
import Derived.Test.YtnhnelgkcldkbaaGreatDoorAmC
import Derived.Deep.Slices
import Derived.Test.YtnhnelgkcldkbaaGreatDoorJump1
namespace Go.Proofs.YtnhnelgkcldkbaaGreatDoor.Am
open Go.RowKit Go.ChangeShapes Go.WideShapes Go.Deep
set_option linter.unusedVariables false
set_option linter.unusedSectionVars false
/-- a slice of elements of this many cells -/
structure ListAt (w : World) (v : Value) (sz : Nat) (els : List (List Value)) : Prop where
  sl : ∃ A c, v = .slice A els.length c
  most : (els.length : Int) ≤ 9223372036854775807
  at_ : ∀ (i : Nat) (el : List Value), els[i]? = some el → ∃ b off c, v = .slice (some ⟨b, off, none⟩) els.length c ∧ ∀ f u, el[f]? = some u → w.cell? ⟨b, off + i * sz + f, none⟩ = some u
  len : ∀ (i : Nat) (el : List Value), els[i]? = some el → el.length = sz
  cap : els ≠ [] → ∀ A n c, v = .slice A n c → n ≤ c ∧ c ≤ maxLen
theorem addr_add {b o i : Nat} : (⟨b, o, none⟩ : Addr).add i = ⟨b, o + i, none⟩ := by unfold Addr.add; split <;> simp_all
/-- .. in memory that is the same below -/
theorem ListAt.frz {w w' : World} {v : Value} {sz : Nat} {els : List (List Value)} (h : ListAt w v sz els) (hw : ∀ k, k < w.heap.size → w'.heap[k]? = w.heap[k]?) : ListAt w' v sz els :=
  ⟨h.sl, h.most, fun i el he => by
    obtain ⟨b, off, c, e1, e2⟩ := h.at_ i el he
    refine ⟨b, off, c, e1, fun f u hf => ?_⟩
    have hcell := e2 f u hf
    rw [← hcell]
    exact World.cell?_of_block (hw b (World.block_lt_of_cell? w ⟨b, off + i * sz + f, none⟩ hcell)), h.len, h.cap⟩
/-- an element, as the machine's tabs want it: list k of the base is that list -/
theorem ListAt.el {b : Base} {w : World} {v : Value} {sz : Nat} {els : List (List Value)} (h : ListAt w v sz els) (hb : b.nb = w.heap.size) (hg : b.g = fun k => w.heap[k]?) {k : Nat} (hl : b.lst k = ⟨v, els⟩) {i : N} {n : Nat} (hn : @NV b i = (n : Int)) {el : List Value} (he : els[n]? = some el) {cs : List S} (hs : cs.length = sz) (hcs : All2 (fun x v => ∀ r, @VS b r x v) cs el) :
    ∃ bb off m c el, (b.lst k).v = .slice (some ⟨bb, off, none⟩) m c ∧ 0 ≤ @NV b i ∧ @NV b i < m ∧ @ElAt b k i bb (off + (@NV b i).toNat * cs.length) el ∧ All2 (fun x v => ∀ r, @VS b r x v) cs el := by
  obtain ⟨bb, off, c, e, hc⟩ := h.at_ n el he
  have hlt := (List.getElem?_eq_some_iff.1 he).1
  refine ⟨bb, off, els.length, c, el, by rw [hl]; exact e, by rw [hn]; omega, by rw [hn]; omega, ⟨by rw [hn, hl]; exact he, fun f u hf w1 hw => ?_⟩, hcs⟩
  have hcell := hc f u hf
  have hlb := World.block_lt_of_cell? w ⟨bb, off + n * sz + f, none⟩ hcell
  have hblk : w1.heap[bb]? = w.heap[bb]? := (hw bb (by rw [hb]; exact hlb)).trans (by rw [hg])
  rw [hn, hs, Int.toNat_natCast, ← hcell]
  exact World.cell?_of_block hblk
end Go.Proofs.YtnhnelgkcldkbaaGreatDoor.Am
namespace Go.Proofs.YtnhnelgkcldkbaaGreatDoor.Am
open Go.RowKit Go.ChangeShapes Go.WideShapes Go.Deep
set_option linter.unusedVariables false
set_option linter.unusedSectionVars false
end Go.Proofs.YtnhnelgkcldkbaaGreatDoor.Am
namespace Go.Proofs.YtnhnelgkcldkbaaGreatDoor.Am
open Go.RowKit Go.ChangeShapes Go.WideShapes Go.Deep
set_option linter.unusedVariables false
set_option linter.unusedSectionVars false
/-- a block: its statements, its jump's cells, and the jump's arguments -/
structure BlkIs (w : World) (kS : List Kd) (cells : List Value) (s : Value) (pre : List Value) (a : Value) (post : List Value) (stmts ops : List (List Value)) : Prop where
  eq : cells = s :: (pre ++ a :: post)
  sts : ListAt w s kS.length stmts
  skd : ∀ st ∈ stmts, All2 Kd.ok kS st
  prek : All2 Kd.ok kPre pre
  opl : ListAt w a 5 ops
  okd : ∀ o ∈ ops, All2 Kd.ok opK o
  postk : All2 Kd.ok kPost post
/-- a function: parameters, whether it is unsafe, locals, blocks -/
structure FuncIs (w : World) (kS : List Kd) (v : Value) (p : Int) (u : Bool) (lv bv : Value) (ls bs : List (List Value)) : Prop where
  eq : v = .agg #[.int .i64 p, .bool u, lv, bv]
  pk : Kd.ok (.i .i64) (.int .i64 p)
  locals : ListAt w lv 2 ls
  lkd : ∀ t ∈ ls, All2 Kd.ok [.i .u8, .i .u8] t
  blocks : ListAt w bv 14 bs
  blk : ∀ b ∈ bs, ∃ s pre a post stmts ops, BlkIs w kS b s pre a post stmts ops
theorem all2_app {α β : Type} {R : α → β → Prop} : ∀ {xs ys : List α} {us : List β}, All2 R (xs ++ ys) us → ∃ u1 u2, us = u1 ++ u2 ∧ All2 R xs u1 ∧ All2 R ys u2
  | [], ys, us, h => ⟨[], us, rfl, trivial, h⟩
  | x :: xs, ys, [], h => h.elim
  | x :: xs, ys, u :: us, h => by
    obtain ⟨u1, u2, e, h1, h2⟩ := all2_app (xs := xs) h.2
    exact ⟨u :: u1, u2, by rw [e]; rfl, ⟨h.1, h1⟩, h2⟩
section
variable {P : Program} {H : Type} {enc : TypeId × Value → H} {w : World} {spare : Nat → Bool} {held : Bool} {kS : List Kd} {tF tLs tT tBs tB tSs tS tOs tO : TypeId}
end
end Go.Proofs.YtnhnelgkcldkbaaGreatDoor.Am
namespace Go.Proofs.YtnhnelgkcldkbaaGreatDoor.Am
open Go.RowKit
set_option linter.unusedVariables false
set_option linter.unusedSectionVars false

/-! numbers and lists -/
def xsAt (xs : List Int) (i : Nat) : Int := xs.getD i 0
structure Env where
  w : World
  xs : List Int
  ls : List RowV
@[reducible] def Env.b (e : Env) : Base := { Know.nought with nb := e.w.heap.size, g := fun k => e.w.heap[k]?, rho := xsAt e.xs, sig := fun _ => [], ok := KnowOk.nought _ _, lst := fun k => e.ls.getD k ⟨.pointer none, []⟩ }
/-- facts beside intervals: sums with a constant; tables -/
structure Fx where
  ad : List (Nat × Int × Nat)
  xt : XTab
@[reducible] def Lf.knowX (L : Lf) (f : Fx) : Know := ⟨L.iv, L.ne, L.lt, [], [], [], L.cf, [], [], [], [], f.ad, f.xt⟩
def Lf.of (iv : List (Int × Int)) : Lf := ⟨iv, [], [], [], [], [], []⟩
/-! cases, split by hints: where a test fails, the next hint parts the case -/
noncomputable section
/-- a tree of cuts: at each of them the test is tried first, unless it is forced -/
inductive HT where
  | leaf
  | cut (force : Bool) (i : Nat) (c : Int) (a b : HT)
structure Hint where
  force : Bool
  i : Nat
  c : Int
def HT.of : List Hint → HT
  | [] => .leaf
  | p :: r => .cut p.force p.i p.c (HT.of r) (HT.of r)
/-- forced; tried first; the same on both sides -/
abbrev HT.on (i : Nat) (c : Int) (a b : HT) : HT := .cut true i c a b
abbrev HT.by (i : Nat) (c : Int) (a b : HT) : HT := .cut false i c a b
abbrev HT.both (i : Nat) (c : Int) (t : HT) : HT := .cut false i c t t
def below (L : Lf) (i : Nat) (c : Int) : Bool := Option.rec true (fun p => decide (p.2 < c)) (nth L.iv i)
end

/-! tests of numbers -/
def E.num (rho : Nat → Int) : E → Bool
  | .lt i c => decide (rho i < c)
  | .zero l => l.all fun p => decide (rho p.1 = p.2)
  | .and a b => a.num rho && b.num rho
  | .or a b => a.num rho || b.num rho
  | .not a => !a.num rho
noncomputable section
section
variable [Know]
end
/-! what a run needs -/
theorem Turns.withK {P : Program} {b1 b2 : Base} {c : Code} {hd s1 : St} {x : X} (h : Turns P b1 b2 c hd x s1) {K : Know} (ok : KnowOk K b2.rho b2.sig) : Turns P b1 (b2.withK K ok) c hd x s1 := by
  intro r B a w hr
  exact wp_mono (h hr) fun e a' w' ⟨g1, r', g2, g3, g4⟩ => ⟨g1, r', Rel.withK b2 ok g2, g3, g4⟩
theorem Agree.withK {b1 b2 : Base} {d : Bd} (h : Agree b1 b2 d) {K : Know} (ok : KnowOk K b1.rho b1.sig) : Agree (b1.withK K ok) b2 d := ⟨h.nb, h.g, h.n, h.s, h.l⟩
/-! the same value, truth values that are not written out among them -/
end
end Go.Proofs.YtnhnelgkcldkbaaGreatDoor.Am
namespace Go.Proofs.YtnhnelgkcldkbaaGreatDoor.Am
open Go.RowKit Go.Deep
set_option linter.unusedVariables false
set_option linter.unusedSectionVars false
set_option maxRecDepth 100000

/-! data -/
abbrev kS26 : List Kd := .i .u8 :: ([.i .i64, .b, .i .u8] ++ ((.i .u8 :: .i .u8 :: .i .u8 :: ([.i .u8, .i .i64, .i .i64, .b, .i .u8] ++ ([.i .u8, .i .i64, .i .i64, .b, .i .u8] ++ [.i .i64, .b, .i .u8]))) ++ ([.i .u8, .i .i64, .i .i64, .b, .i .u8] ++ [.i .i64])))
structure BlkD where
  s : Value
  pre : List Value
  a : Value
  post : List Value
  st : List (List Value)
  ops : List (List Value)
def BlkD.cells (b : BlkD) : List Value := b.s :: (b.pre ++ b.a :: b.post)
structure FnD where
  p : Int
  u : Bool
  lv : Value
  bv : Value
  ls : List (List Value)
  bs : List BlkD
  /-- one more list, of which nothing is said -/
  xl : RowV
structure BlkOk (w : World) (b : BlkD) : Prop where
  sts : ListAt w b.s 26 b.st
  skd : ∀ st ∈ b.st, All2 Kd.ok kS26 st
  prek : All2 Kd.ok kPre b.pre
  opl : ListAt w b.a 5 b.ops
  okd : ∀ o ∈ b.ops, All2 Kd.ok opK o
  postk : All2 Kd.ok kPost b.post
structure FnOk' (w : World) (v : Value) (D : FnD) : Prop where
  eq : v = .agg #[.int .i64 D.p, .bool D.u, D.lv, D.bv]
  pk : Kd.ok (.i .i64) (.int .i64 D.p)
  locals : ListAt w D.lv 2 D.ls
  lkd : ∀ t ∈ D.ls, All2 Kd.ok [.i .u8, .i .u8] t
  blocks : ListAt w D.bv 14 (D.bs.map BlkD.cells)
  blk : ∀ b ∈ D.bs, BlkOk w b
theorem blks_of {w : World} : ∀ {bs : List (List Value)}, (∀ b ∈ bs, ∃ s pre a post stmts ops, BlkIs w kS26 b s pre a post stmts ops) → ∃ l : List BlkD, bs = l.map BlkD.cells ∧ ∀ b ∈ l, BlkOk w b
  | [], _ => ⟨[], rfl, fun _ h => by cases h⟩
  | b :: bs, h => by
    obtain ⟨s, pre, a, post, stmts, ops, k⟩ := h b (by simp)
    obtain ⟨l, e, hl⟩ := blks_of (bs := bs) fun x hx => h x (List.mem_cons_of_mem _ hx)
    refine ⟨⟨s, pre, a, post, stmts, ops⟩ :: l, by rw [e, List.map_cons, BlkD.cells, k.eq], fun x hx => ?_⟩
    rcases List.mem_cons.1 hx with rfl | hx
    · exact ⟨k.sts, k.skd, k.prek, k.opl, k.okd, k.postk⟩
    · exact hl x hx
theorem FnOk'.of {w : World} {v : Value} {p : Int} {u : Bool} {lv bv : Value} {ls bs : List (List Value)} (h : FuncIs w kS26 v p u lv bv ls bs) : ∃ D, FnOk' w v D := by
  obtain ⟨l, e, hl⟩ := blks_of h.blk
  exact ⟨⟨p, u, lv, bv, ls, l, ⟨.slice none 0 0, []⟩⟩, h.eq, h.pk, h.locals, h.lkd, e ▸ h.blocks, hl⟩
theorem FnOk'.frz {w w' : World} {v : Value} {D : FnD} (h : FnOk' w v D) (hw : ∀ k, k < w.heap.size → w'.heap[k]? = w.heap[k]?) : FnOk' w' v D :=
  ⟨h.eq, h.pk, h.locals.frz hw, h.lkd, h.blocks.frz hw, fun b hb => ⟨(h.blk b hb).sts.frz hw, (h.blk b hb).skd, (h.blk b hb).prek, (h.blk b hb).opl.frz hw, (h.blk b hb).okd, (h.blk b hb).postk⟩⟩

/-! numbers: 0 .. 3 the function; 4 .. 20 block i; 21 .. 49 its statement k; 50 .. 57 its jump's argument m; 58 .. 62 the type of local t; 63 .. 76 comparisons; from 77 on more -/
def b0 : BlkD := ⟨.slice none 0 0, [], .slice none 0 0, [], [], []⟩
def FnD.blk (D : FnD) (i : Nat) : BlkD := D.bs.getD i b0
section
variable {w : World} {D : FnD}
/-! cells -/
/-! tests of an element: its numbers, wherever they stand -/
def E.ren (f : Nat → Nat) : E → E
  | .lt i c => .lt (f i) c
  | .zero l => .zero (l.map fun p => (f p.1, p.2))
  | .and a b => .and (a.ren f) (b.ren f)
  | .or a b => .or (a.ren f) (b.ren f)
  | .not a => .not (a.ren f)
def E.bd (n : Nat) : E → Bool
  | .lt i c => Nat.blt i n
  | .zero l => l.all fun p => Nat.blt p.1 n
  | .and a b => a.bd n && b.bd n
  | .or a b => a.bd n && b.bd n
  | .not a => a.bd n
/-! tables -/
def Tabs.app (a b : Tabs) : Tabs := ⟨a.len ++ b.len, a.el ++ b.el, a.add ++ b.add⟩
/-! a function's tables: what it has; a block; a statement; an argument; a local's type -/
variable {v : Value} (h : FnOk' w v D)
include h
end
end Go.Proofs.YtnhnelgkcldkbaaGreatDoor.Am
namespace Go.Proofs.YtnhnelgkcldkbaaGreatDoor.loan
open Go.RowKit Go.Proofs.YtnhnelgkcldkbaaGreatDoor Go.Proofs.YtnhnelgkcldkbaaGreatDoor.Am
set_option linter.unusedVariables false
/-! points: blocks are numbered from 0, each has its statements and its jump -/
section
variable {bs : List BlkD} {i j k n N : Nat}
end
/-! loans -/
def whole (el : List Value) : Bool := decide (cellI el 2 = 0) && decide (cellI el 3 = 0)
section
variable {bs : List BlkD} {i j k n N : Nat} {el x : List Value}
end
end Go.Proofs.YtnhnelgkcldkbaaGreatDoor.loan
