/- A function among the arguments: its data, numbers and lists behind a call with it, and the tables of its elements. (No program in sight.) -/
import Derived.Test.YthdcahkedlijpaaGreatFn0
import Derived.Test.YthdcahkedlijpaaGreatFuncIs
namespace Go.Proofs.YthdcahkedlijpaaGreat.Am
open Go.RowKit Go.Deep
set_option linter.unusedVariables false
set_option linter.unusedSectionVars false
set_option maxRecDepth 100000
abbrev kS26 : List Kd := .i .u8 :: ([.i .i64, .b, .i .u8] ++ ((.i .u8 :: .i .u8 :: .i .u8 :: ([.i .u8, .i .i64, .i .i64, .b, .i .u8] ++ ([.i .u8, .i .i64, .i .i64, .b, .i .u8] ++ [.i .i64, .b, .i .u8]))) ++ ([.i .u8, .i .i64, .i .i64, .b, .i .u8] ++ [.i .i64])))
structure BlkD where
  s : Value
  pre : List Value
  a : Value
  post : List Value
  st : List (List Value)
  ops : List (List Value)
def BlkD.cells (b : BlkD) : List Value := b.s :: (b.pre ++ b.a :: b.post)
structure FnD where
  p : Int
  u : Bool
  lv : Value
  bv : Value
  ls : List (List Value)
  bs : List BlkD
  xl : RowV
structure BlkOk (w : World) (b : BlkD) : Prop where
  sts : ListAt w b.s 26 b.st
  skd : ∀ st ∈ b.st, All2 Kd.ok kS26 st
  prek : All2 Kd.ok kPre b.pre
  opl : ListAt w b.a 5 b.ops
  okd : ∀ o ∈ b.ops, All2 Kd.ok opK o
  postk : All2 Kd.ok kPost b.post
structure FnOk' (w : World) (v : Value) (D : FnD) : Prop where
  eq : v = .agg #[.int .i64 D.p, .bool D.u, D.lv, D.bv]
  pk : Kd.ok (.i .i64) (.int .i64 D.p)
  locals : ListAt w D.lv 2 D.ls
  lkd : ∀ t ∈ D.ls, All2 Kd.ok [.i .u8, .i .u8] t
  blocks : ListAt w D.bv 14 (D.bs.map BlkD.cells)
  blk : ∀ b ∈ D.bs, BlkOk w b
theorem blks_of {w : World} : ∀ {bs : List (List Value)}, (∀ b ∈ bs, ∃ s pre a post stmts ops, BlkIs w kS26 b s pre a post stmts ops) → ∃ l : List BlkD, bs = l.map BlkD.cells ∧ ∀ b ∈ l, BlkOk w b
  | [], _ => ⟨[], rfl, fun _ h => by cases h⟩
  | b :: bs, h => by
    obtain ⟨s, pre, a, post, stmts, ops, k⟩ := h b (by simp)
    obtain ⟨l, e, hl⟩ := blks_of (bs := bs) fun x hx => h x (List.mem_cons_of_mem _ hx)
    refine ⟨⟨s, pre, a, post, stmts, ops⟩ :: l, by rw [e, List.map_cons, BlkD.cells, k.eq], fun x hx => ?_⟩
    rcases List.mem_cons.1 hx with rfl | hx
    · exact ⟨k.sts, k.skd, k.prek, k.opl, k.okd, k.postk⟩
    · exact hl x hx
theorem FnOk'.of {w : World} {v : Value} {p : Int} {u : Bool} {lv bv : Value} {ls bs : List (List Value)} (h : FuncIs w kS26 v p u lv bv ls bs) : ∃ D, FnOk' w v D := by
  obtain ⟨l, e, hl⟩ := blks_of h.blk
  exact ⟨⟨p, u, lv, bv, ls, l, ⟨.slice none 0 0, []⟩⟩, h.eq, h.pk, h.locals, h.lkd, e ▸ h.blocks, hl⟩
theorem FnOk'.frz {w w' : World} {v : Value} {D : FnD} (h : FnOk' w v D) (hw : ∀ k, k < w.heap.size → w'.heap[k]? = w.heap[k]?) : FnOk' w' v D :=
  ⟨h.eq, h.pk, h.locals.frz hw, h.lkd, h.blocks.frz hw, fun b hb => ⟨(h.blk b hb).sts.frz hw, (h.blk b hb).skd, (h.blk b hb).prek, (h.blk b hb).opl.frz hw, (h.blk b hb).okd, (h.blk b hb).postk⟩⟩
def b0 : BlkD := ⟨.slice none 0 0, [], .slice none 0 0, [], [], []⟩
def FnD.blk (D : FnD) (i : Nat) : BlkD := D.bs.getD i b0
def FnD.stm (D : FnD) (i k : Nat) : List Value := (D.blk i).st.getD k []
def FnD.opd (D : FnD) (i m : Nat) : List Value := (D.blk i).ops.getD m []
def FnD.typ (D : FnD) (t : Nat) : List Value := D.ls.getD t []
structure At where
  i : Nat
  k : Nat
  m : Nat
  t : Nat
def cods (n : Nat) (l : List Value) : List Int := (List.range n).map (cellI l)
def ltI' (a b : Int) : Int := b2i (decide (a < b))
def eqI' (a b : Int) : Int := b2i (decide (a = b))
def xsHd (D : FnD) : List Int := [D.p, b2i D.u, D.ls.length, D.bs.length]
def xsBlk (b : BlkD) (i n : Nat) : List Int := [(i : Int), (i : Int) + 1, ltI' i n, b.st.length] ++ (cods 9 b.pre ++ ((b.ops.length : Int) :: cods 3 b.post))
def xsEl (z : Nat) (l : List Value) (k n : Nat) : List Int := (k : Int) :: ((k : Int) + 1) :: ltI' k n :: cods z l
def xsCmp (p nL nB : Int) (st : List Value) (b : BlkD) (op : List Value) : List Int :=
  [ltI' (cellI st 25) nL, ltI' (cellI st 1) nL, ltI' (cellI st 9) nL, ltI' (cellI st 14) nL, ltI' (cellI st 17) nL, ltI' (cellI st 22) nL,
   ltI' (cellI b.pre 3) nL, ltI' (cellI b.post 0) nL, ltI' (cellI op 2) nL, ltI' (cellI b.pre 7) nB, ltI' (cellI b.pre 8) nB, eqI' (cellI b.pre 7) (cellI b.pre 8), eqI' (cellI st 17) (cellI st 1), ltI' p nL]
def xsB (D : FnD) (q : At) : List Int := xsBlk (D.blk q.i) q.i D.bs.length
def xsS (D : FnD) (q : At) : List Int := xsEl 26 (D.stm q.i q.k) q.k (D.blk q.i).st.length
def xsO (D : FnD) (q : At) : List Int := xsEl 5 (D.opd q.i q.m) q.m (D.blk q.i).ops.length
def xsT (D : FnD) (q : At) : List Int := xsEl 2 (D.typ q.t) q.t D.ls.length
def xsC (D : FnD) (q : At) : List Int := xsCmp D.p D.ls.length D.bs.length (D.stm q.i q.k) (D.blk q.i) (D.opd q.i q.m)
def fnXs (D : FnD) (q : At) (more : List Int) : List Int := xsHd D ++ (xsB D q ++ (xsS D q ++ (xsO D q ++ (xsT D q ++ (xsC D q ++ more)))))
def fnLs (D : FnD) (q : At) : List RowV := [⟨D.lv, D.ls⟩, ⟨D.bv, D.bs.map BlkD.cells⟩, D.xl, ⟨(D.blk q.i).s, (D.blk q.i).st⟩, ⟨(D.blk q.i).a, (D.blk q.i).ops⟩]
def fnE (w : World) (D : FnD) (q : At) (more : List Int) : Env := ⟨w, fnXs D q more, fnLs D q⟩
abbrev fnB (w : World) (D : FnD) (q : At) (more : List Int) : Base := (fnE w D q more).b
def ivN : Int × Int := (0, 9223372036854775807)
def ivB : Int × Int := (0, 1)
def ivE (ks : List Kd) : List (Int × Int) := ivN :: ivN :: ivB :: ks.map Kd.iv
def fnIv : List (Int × Int) := [Kd.iv (.i .i64), ivB, ivN, ivN] ++ (([ivN, ivN, ivB, ivN] ++ (kPre.map Kd.iv ++ (ivN :: kPost.map Kd.iv))) ++ (ivE kS26 ++ (ivE opK ++ (ivE [.i .u8, .i .u8] ++ List.replicate 14 ivB))))
def fnFx : Fx := ⟨[], ⟨[(4, 3, 6), (21, 7, 23), (50, 17, 52), (58, 2, 60), (49, 2, 63), (25, 2, 64), (33, 2, 65), (38, 2, 66), (41, 2, 67), (46, 2, 68), (11, 2, 69), (18, 2, 70), (55, 2, 71), (15, 3, 72), (16, 3, 73), (0, 2, 76)], [], [], [], [(15, 16, 74), (41, 25, 75)]⟩⟩
theorem xsAt_lt {a b c : List Int} {i : Nat} (h : i < a.length) : xsAt (a ++ b) i = xsAt (a ++ c) i := by
  unfold xsAt
  rw [List.getD_eq_getElem?_getD, List.getD_eq_getElem?_getD, List.getElem?_append_left h, List.getElem?_append_left h]
theorem xsAt_ge {a b : List Int} {n j : Nat} (h : a.length = n) : xsAt (a ++ b) (n + j) = xsAt b j := by
  unfold xsAt
  rw [List.getD_eq_getElem?_getD, List.getD_eq_getElem?_getD, List.getElem?_append_right (by omega), show n + j - a.length = j by omega]
section
variable {w : World} {D : FnD}
theorem fn_more {D : FnD} {q : At} {more : List Int} (j : Nat) : xsAt (fnXs D q more) (77 + j) = xsAt more j := by
  have e : fnXs D q more = (xsHd D ++ (xsB D q ++ (xsS D q ++ (xsO D q ++ (xsT D q ++ xsC D q))))) ++ more := by simp [fnXs]
  rw [e]
  exact xsAt_ge rfl
theorem one_iff (q : Prop) [Decidable q] : b2i (decide q) = 1 ↔ q := by
  by_cases h : q
  · rw [decide_eq_true h]; exact ⟨fun _ => h, fun _ => rfl⟩
  · rw [decide_eq_false h]; exact ⟨fun k => absurd k (by decide), fun k => absurd k h⟩
theorem fnFx_ok (D : FnD) (q : At) (more : List Int) : FxOk fnFx (xsAt (fnXs D q more)) := by
  refine ⟨fun _ _ _ h => (by cases h), fun i j d h => ?_, fun _ _ _ h => (by cases h), fun _ _ _ h => (by cases h), fun _ _ _ _ h => (by cases h), fun i j d h => ?_⟩
  · simp only [fnFx, List.mem_cons, List.not_mem_nil, or_false, Prod.mk.injEq] at h
    rcases h with ⟨rfl, rfl, rfl⟩ | ⟨rfl, rfl, rfl⟩ | ⟨rfl, rfl, rfl⟩ | ⟨rfl, rfl, rfl⟩ | ⟨rfl, rfl, rfl⟩ | ⟨rfl, rfl, rfl⟩ | ⟨rfl, rfl, rfl⟩ | ⟨rfl, rfl, rfl⟩ | ⟨rfl, rfl, rfl⟩ | ⟨rfl, rfl, rfl⟩ | ⟨rfl, rfl, rfl⟩ | ⟨rfl, rfl, rfl⟩ | ⟨rfl, rfl, rfl⟩ | ⟨rfl, rfl, rfl⟩ | ⟨rfl, rfl, rfl⟩ | ⟨rfl, rfl, rfl⟩ <;> exact one_iff _
  · simp only [fnFx, List.mem_cons, List.not_mem_nil, or_false, Prod.mk.injEq] at h
    rcases h with ⟨rfl, rfl, rfl⟩ | ⟨rfl, rfl, rfl⟩ <;> exact one_iff _
def InI (p : Int × Int) (m : Int) : Prop := p.1 ≤ m ∧ m ≤ p.2
theorem all2_cat {α β : Type} {R : α → β → Prop} : ∀ {a : List α} {b : List β} {c : List α} {d : List β}, All2 R a b → All2 R c d → All2 R (a ++ c) (b ++ d)
  | [], [], _, _, _, h => h
  | _ :: _, _ :: _, _, _, h, k => ⟨h.1, all2_cat h.2 k⟩
  | [], _ :: _, _, _, h, _ => h.elim
  | _ :: _, [], _, _, h, _ => h.elim
theorem in_b (b : Bool) : InI ivB (b2i b) := by cases b <;> exact ⟨by decide, by decide⟩
theorem in_cods {ks : List Kd} {l : List Value} (h : All2 Kd.ok ks l ∨ l = []) (hk : (ks.all fun k => decide (k.iv.1 ≤ 0) && decide (0 ≤ k.iv.2)) = true) {n : Nat} (hn : ks.length = n) : All2 InI (ks.map Kd.iv) (cods n l) := by
  subst hn
  refine all2_by_nth (by simp [cods]) fun i p m hp hm => ?_
  rw [List.getElem?_map] at hp
  obtain ⟨k, hk1, rfl⟩ := Option.map_eq_some_iff.1 hp
  have hi := (List.getElem?_eq_some_iff.1 hk1).1
  unfold cods at hm
  rw [List.getElem?_map, List.getElem?_range hi] at hm
  cases hm
  rcases h with h | rfl
  · have hl := h.len
    obtain ⟨v, hv⟩ : ∃ v, l[i]? = some v := ⟨_, List.getElem?_eq_getElem (by omega)⟩
    obtain ⟨v', hv', ok⟩ := All2.nth h (n := i) (x := k) (by rw [nth_eq]; exact hk1)
    have e : cellI l i = codeI v' := by unfold cellI; rw [hv']
    rw [e]
    exact Kd.iv_ok ok
  · have := List.all_eq_true.1 hk k (List.mem_of_getElem? hk1)
    simp only [Bool.and_eq_true, decide_eq_true_eq] at this
    exact this
theorem get_or {α : Type} {l : List α} {i : Nat} {d : α} : l.getD i d ∈ l ∨ l.getD i d = d := by
  rw [List.getD_eq_getElem?_getD]
  cases h : l[i]? with
  | none => exact .inr rfl
  | some x => exact .inl (List.mem_of_getElem? h)
theorem len_in {w : World} {v : Value} {sz : Nat} {els : List (List Value)} (h : ListAt w v sz els) : InI ivN (els.length : Int) := ⟨by show (0 : Int) ≤ _; omega, h.most⟩
structure Fits (D : FnD) (q : At) : Prop where
  i : (q.i : Int) < 9223372036854775807
  k : (q.k : Int) < 9223372036854775807
  m : (q.m : Int) < 9223372036854775807
  t : (q.t : Int) < 9223372036854775807
theorem in_el {ks : List Kd} {l : List Value} (h : All2 Kd.ok ks l ∨ l = []) (hk : (ks.all fun k => decide (k.iv.1 ≤ 0) && decide (0 ≤ k.iv.2)) = true) {z k n : Nat} (hz : ks.length = z) (hkn : (k : Int) < 9223372036854775807) : All2 InI (ivE ks) (xsEl z l k n) :=
  ⟨⟨by show (0 : Int) ≤ _; omega, by show _ ≤ (9223372036854775807 : Int); omega⟩, ⟨by show (0 : Int) ≤ _; omega, by show _ ≤ (9223372036854775807 : Int); omega⟩, in_b _, in_cods h hk hz⟩
theorem blk_ok {v : Value} (h : FnOk' w v D) (i : Nat) : BlkOk w (D.blk i) ∨ D.blk i = b0 := by
  rcases get_or (l := D.bs) (i := i) (d := b0) with k | k
  · exact .inl (h.blk _ k)
  · exact .inr k
theorem stm_ok {v : Value} (h : FnOk' w v D) (i k : Nat) : All2 Kd.ok kS26 (D.stm i k) ∨ D.stm i k = [] := by
  rcases get_or (l := (D.blk i).st) (i := k) (d := []) with hm | hm
  · rcases blk_ok h i with e | e
    · exact .inl (e.skd _ hm)
    · rw [e] at hm; cases hm
  · exact .inr hm
theorem opd_ok {v : Value} (h : FnOk' w v D) (i m : Nat) : All2 Kd.ok opK (D.opd i m) ∨ D.opd i m = [] := by
  rcases get_or (l := (D.blk i).ops) (i := m) (d := []) with hm | hm
  · rcases blk_ok h i with e | e
    · exact .inl (e.okd _ hm)
    · rw [e] at hm; cases hm
  · exact .inr hm
theorem typ_ok {v : Value} (h : FnOk' w v D) (t : Nat) : All2 Kd.ok [.i .u8, .i .u8] (D.typ t) ∨ D.typ t = [] := by
  rcases get_or (l := D.ls) (i := t) (d := []) with hm | hm
  · exact .inl (h.lkd _ hm)
  · exact .inr hm
theorem fnIv_in {v : Value} (h : FnOk' w v D) {q : At} (hq : Fits D q) : All2 InI fnIv (xsHd D ++ (xsB D q ++ (xsS D q ++ (xsO D q ++ (xsT D q ++ xsC D q))))) := by
  have nS : InI ivN ((D.blk q.i).st.length : Int) := by
    rcases blk_ok h q.i with e | e
    · exact len_in e.sts
    · rw [e]; exact ⟨by decide, by decide⟩
  have nA : InI ivN ((D.blk q.i).ops.length : Int) := by
    rcases blk_ok h q.i with e | e
    · exact len_in e.opl
    · rw [e]; exact ⟨by decide, by decide⟩
  have pre : All2 Kd.ok kPre (D.blk q.i).pre ∨ (D.blk q.i).pre = [] := (blk_ok h q.i).imp (fun e => e.prek) fun e => by rw [e]; rfl
  have post : All2 Kd.ok kPost (D.blk q.i).post ∨ (D.blk q.i).post = [] := (blk_ok h q.i).imp (fun e => e.postk) fun e => by rw [e]; rfl
  refine all2_cat ?_ (all2_cat ?_ (all2_cat ?_ (all2_cat ?_ (all2_cat ?_ ?_))))
  · obtain ⟨n, e, h1, h2⟩ := h.pk
    cases e
    exact ⟨⟨h1, h2⟩, in_b _, len_in h.locals, by have := len_in h.blocks; rwa [List.length_map] at this, trivial⟩
  · refine all2_cat (a := [ivN, ivN, ivB, ivN]) ⟨⟨by show (0 : Int) ≤ _; omega, by have := hq.i; show _ ≤ (9223372036854775807 : Int); omega⟩, ⟨by show (0 : Int) ≤ _; omega, by have := hq.i; show _ ≤ (9223372036854775807 : Int); omega⟩, in_b _, nS, trivial⟩ ?_
    exact all2_cat (in_cods pre (by decide) rfl) ⟨nA, in_cods post (by decide) rfl⟩
  · exact in_el (stm_ok h _ _) (by decide) rfl hq.k
  · exact in_el (opd_ok h _ _) (by decide) rfl hq.m
  · exact in_el (typ_ok h _) (by decide) rfl hq.t
  · exact ⟨in_b _, in_b _, in_b _, in_b _, in_b _, in_b _, in_b _, in_b _, in_b _, in_b _, in_b _, in_b _, in_b _, in_b _, trivial⟩
theorem fn_start {v : Value} (h : FnOk' w v D) {q : At} (hq : Fits D q) {iv : List (Int × Int)} {m1 m2 : List Int} (hm : All2 InI iv m1) (sig : Nat → List UInt8) : (Lf.of (fnIv ++ iv)).Holds (xsAt (fnXs D q (m1 ++ m2))) sig := by
  have hall := all2_cat (fnIv_in h hq) hm
  refine Lf.of_ok fun i p hp => ?_
  obtain ⟨x, hx, hi⟩ := All2.nth hall (n := i) (x := p) (by rw [nth_eq]; exact hp)
  have e : fnXs D q (m1 ++ m2) = ((xsHd D ++ (xsB D q ++ (xsS D q ++ (xsO D q ++ (xsT D q ++ xsC D q))))) ++ m1) ++ m2 := by simp [fnXs]
  have : xsAt (fnXs D q (m1 ++ m2)) i = x := by
    rw [e]
    unfold xsAt
    rw [List.getD_eq_getElem?_getD, List.getElem?_append_left (List.getElem?_eq_some_iff.1 hx).1, hx]
    rfl
  rw [this]
  exact hi
noncomputable def Lf.pin (L : Lf) (i : Nat) (c : Int) : Lf := (L.hi i c).lo i c
theorem Lf.Holds.pin {L : Lf} {rho : Nat → Int} {sig : Nat → List UInt8} (h : L.Holds rho sig) {i : Nat} {c : Int} (e : rho i = c) : (L.pin i c).Holds rho sig := (h.hi (i := i) (c := c) (by omega)).lo (i := i) (c := c) (by omega)
theorem agree_fn (q q' : At) (more more' : List Int) : Agree (fnB w D q more) (fnB w D q' more') ⟨4, 0, 3⟩ :=
  ⟨rfl, rfl, fun i h => xsAt_lt (a := xsHd D) h, fun _ _ => rfl, fun l h => by
    have : l = 0 ∨ l = 1 ∨ l = 2 := by have h : l < 3 := h; omega
    rcases this with rfl | rfl | rfl <;> rfl⟩
theorem agree_blk (q q' : At) (h : q.i = q'.i) (more more' : List Int) : Agree (fnB w D q more) (fnB w D q' more') ⟨21, 0, 5⟩ :=
  ⟨rfl, rfl, fun i hi => by
    show xsAt (fnXs D q more) i = xsAt (fnXs D q' more') i
    have e : ∀ (q : At) (more : List Int), fnXs D q more = (xsHd D ++ xsB D q) ++ (xsS D q ++ (xsO D q ++ (xsT D q ++ (xsC D q ++ more)))) := fun q more => by simp [fnXs]
    have e2 : xsB D q = xsB D q' := by unfold xsB; rw [h]
    rw [e, e, ← e2]
    exact xsAt_lt hi, fun _ _ => rfl, fun l hl => by
    show (fnLs D q).getD l _ = (fnLs D q').getD l _
    unfold fnLs
    rw [h]⟩
def fnCells : List S := [.xi .i64 0, .xe [(1, 1)], .rv 0, .rv 1]
def blkCells : List S := .rv 3 :: (cellsT 8 kPre ++ .rv 4 :: cellsT 18 kPost)
def jmpCells : List S := cellsT 8 kPre ++ .rv 4 :: cellsT 18 kPost
def stmCells : List S := cellsT 24 kS26
def opdCells : List S := cellsT 53 opK
def typCells : List S := cellsT 61 [.i .u8, .i .u8]
theorem kd_cell [Base] {r : Ren} {k : Kd} (hk : k ≠ .s) {v : Value} (h : k.ok v) {i : Nat} (e : Base.rho i = codeI v) : VS r (cellT i k) v := by
  cases k with
  | s => exact absurd rfl hk
  | b =>
    obtain ⟨b, rfl⟩ := h
    show Value.bool b = .bool ((decide (Base.rho i = 1)) || false)
    rw [e, Bool.or_false]
    cases b <;> rfl
  | i k =>
    obtain ⟨n, rfl, _⟩ := h
    show Value.int k n = .int k (Base.rho i)
    rw [e]
    rfl
theorem kd_cells [Base] {r : Ren} : ∀ {ks : List Kd} {vs : List Value} {o : Nat}, (ks.all fun k => match k with | .s => false | _ => true) = true → All2 Kd.ok ks vs → (∀ j v, vs[j]? = some v → Base.rho (o + j) = codeI v) → All2 (VS r) (cellsT o ks) vs
  | [], [], _, _, _, _ => trivial
  | k :: ks, v :: vs, o, hs, h, hr => by
    simp only [List.all_cons, Bool.and_eq_true] at hs
    refine ⟨kd_cell (fun e => by rw [e] at hs; cases hs.1) h.1 (hr 0 v rfl), kd_cells hs.2 h.2 fun j u hu => ?_⟩
    rw [show o + 1 + j = o + (j + 1) by omega]
    exact hr (j + 1) u hu
  | [], _ :: _, _, _, h, _ => h.elim
  | _ :: _, [], _, _, h, _ => h.elim
theorem cods_at {n j : Nat} {l : List Value} {v : Value} (h : j < n) (hv : l[j]? = some v) (rest : List Int) : xsAt (cods n l ++ rest) j = codeI v := by
  unfold xsAt cods
  rw [List.getD_eq_getElem?_getD, List.getElem?_append_left (by simpa using h), List.getElem?_map, List.getElem?_range h]
  show cellI l j = _
  unfold cellI
  rw [hv]
theorem rho_pre (q : At) (more : List Int) {j : Nat} {v : Value} (h : (D.blk q.i).pre[j]? = some v) (hj : j < 9) : xsAt (fnXs D q more) (8 + j) = codeI v := by
  have e : fnXs D q more = (xsHd D ++ [(q.i : Int), (q.i : Int) + 1, ltI' q.i D.bs.length, (D.blk q.i).st.length]) ++ (cods 9 (D.blk q.i).pre ++ ((((D.blk q.i).ops.length : Int) :: cods 3 (D.blk q.i).post) ++ (xsS D q ++ (xsO D q ++ (xsT D q ++ (xsC D q ++ more)))))) := by simp [fnXs, xsB, xsBlk]
  rw [e]
  refine (xsAt_ge (n := 8) rfl).trans ?_
  exact cods_at hj h _
theorem rho_post (q : At) (more : List Int) {j : Nat} {v : Value} (h : (D.blk q.i).post[j]? = some v) (hj : j < 3) : xsAt (fnXs D q more) (18 + j) = codeI v := by
  have e : fnXs D q more = (xsHd D ++ ([(q.i : Int), (q.i : Int) + 1, ltI' q.i D.bs.length, (D.blk q.i).st.length] ++ (cods 9 (D.blk q.i).pre ++ [((D.blk q.i).ops.length : Int)]))) ++ (cods 3 (D.blk q.i).post ++ (xsS D q ++ (xsO D q ++ (xsT D q ++ (xsC D q ++ more))))) := by simp [fnXs, xsB, xsBlk]
  rw [e]
  refine (xsAt_ge (n := 18) rfl).trans ?_
  exact cods_at hj h _
theorem rho_stm (q : At) (more : List Int) {j : Nat} {v : Value} (h : (D.stm q.i q.k)[j]? = some v) (hj : j < 26) : xsAt (fnXs D q more) (24 + j) = codeI v := by
  have e : fnXs D q more = (xsHd D ++ (xsB D q ++ [(q.k : Int), (q.k : Int) + 1, ltI' q.k (D.blk q.i).st.length])) ++ (cods 26 (D.stm q.i q.k) ++ (xsO D q ++ (xsT D q ++ (xsC D q ++ more)))) := by simp [fnXs, xsS, xsEl]
  rw [e]
  refine (xsAt_ge (n := 24) rfl).trans ?_
  exact cods_at hj h _
theorem rho_opd (q : At) (more : List Int) {j : Nat} {v : Value} (h : (D.opd q.i q.m)[j]? = some v) (hj : j < 5) : xsAt (fnXs D q more) (53 + j) = codeI v := by
  have e : fnXs D q more = (xsHd D ++ (xsB D q ++ (xsS D q ++ [(q.m : Int), (q.m : Int) + 1, ltI' q.m (D.blk q.i).ops.length]))) ++ (cods 5 (D.opd q.i q.m) ++ (xsT D q ++ (xsC D q ++ more))) := by simp [fnXs, xsO, xsEl]
  rw [e]
  refine (xsAt_ge (n := 53) rfl).trans ?_
  exact cods_at hj h _
theorem rho_typ (q : At) (more : List Int) {j : Nat} {v : Value} (h : (D.typ q.t)[j]? = some v) (hj : j < 2) : xsAt (fnXs D q more) (61 + j) = codeI v := by
  have e : fnXs D q more = (xsHd D ++ (xsB D q ++ (xsS D q ++ (xsO D q ++ [(q.t : Int), (q.t : Int) + 1, ltI' q.t D.ls.length])))) ++ (cods 2 (D.typ q.t) ++ (xsC D q ++ more)) := by simp [fnXs, xsT, xsEl]
  rw [e]
  refine (xsAt_ge (n := 61) rfl).trans ?_
  exact cods_at hj h _
def E.ren (f : Nat → Nat) : E → E
  | .lt i c => .lt (f i) c
  | .zero l => .zero (l.map fun p => (f p.1, p.2))
  | .and a b => .and (a.ren f) (b.ren f)
  | .or a b => .or (a.ren f) (b.ren f)
  | .not a => .not (a.ren f)
def E.bd (n : Nat) : E → Bool
  | .lt i c => Nat.blt i n
  | .zero l => l.all fun p => Nat.blt p.1 n
  | .and a b => a.bd n && b.bd n
  | .or a b => a.bd n && b.bd n
  | .not a => a.bd n
theorem E.num_ren {f : Nat → Nat} {rho rho' : Nat → Int} {n : Nat} : ∀ {e : E}, e.bd n = true → (∀ i, i < n → rho (f i) = rho' i) → (e.ren f).num rho = e.num rho'
  | .lt i c, h, k => by
    have h : Nat.blt i n = true := h
    show decide (rho (f i) < c) = decide (rho' i < c)
    rw [k i (by rwa [Nat.blt_eq] at h)]
  | .zero l, h, k => by
    have h : (l.all fun p => Nat.blt p.1 n) = true := h
    show ((l.map fun p => (f p.1, p.2)).all fun p => decide (rho p.1 = p.2)) = l.all fun p => decide (rho' p.1 = p.2)
    rw [List.all_map]
    refine all_congr' fun p hp => ?_
    have := List.all_eq_true.1 h p hp
    show decide (rho (f p.1) = p.2) = _
    rw [k p.1 (by rwa [Nat.blt_eq] at this)]
  | .and a b, h, k => by
    have h : (a.bd n && b.bd n) = true := h
    rw [Bool.and_eq_true] at h
    show ((a.ren f).num rho && (b.ren f).num rho) = (a.num rho' && b.num rho')
    rw [E.num_ren h.1 k, E.num_ren h.2 k]
  | .or a b, h, k => by
    have h : (a.bd n && b.bd n) = true := h
    rw [Bool.and_eq_true] at h
    show ((a.ren f).num rho || (b.ren f).num rho) = (a.num rho' || b.num rho')
    rw [E.num_ren h.1 k, E.num_ren h.2 k]
  | .not a, h, k => by
    show (!(a.ren f).num rho) = !(a.num rho')
    rw [E.num_ren (e := a) h k]
theorem E.val_num (vs : List Value) : ∀ e : E, e.val vs = e.num (cellI vs)
  | .lt i c => rfl
  | .zero l => rfl
  | .and a b => by show (a.val vs && b.val vs) = (a.num _ && b.num _); rw [E.val_num vs a, E.val_num vs b]
  | .or a b => by show (a.val vs || b.val vs) = (a.num _ || b.num _); rw [E.val_num vs a, E.val_num vs b]
  | .not a => by show (!a.val vs) = !(a.num _); rw [E.val_num vs a]
theorem cods_any {n j : Nat} {l : List Value} (h : j < n) (rest : List Int) : xsAt (cods n l ++ rest) j = cellI l j := by
  unfold xsAt cods
  rw [List.getD_eq_getElem?_getD, List.getElem?_append_left (by simpa using h), List.getElem?_map, List.getElem?_range h]
  rfl
theorem stm_num (q : At) (more : List Int) {e : E} (h : e.bd 26 = true) : (e.ren (24 + ·)).num (xsAt (fnXs D q more)) = e.num (cellI (D.stm q.i q.k)) := by
  refine E.num_ren h fun j hj => ?_
  have e : fnXs D q more = (xsHd D ++ (xsB D q ++ [(q.k : Int), (q.k : Int) + 1, ltI' q.k (D.blk q.i).st.length])) ++ (cods 26 (D.stm q.i q.k) ++ (xsO D q ++ (xsT D q ++ (xsC D q ++ more)))) := by simp [fnXs, xsS, xsEl]
  rw [e]
  exact (xsAt_ge (n := 24) rfl).trans (cods_any hj _)
theorem opd_num (q : At) (more : List Int) {e : E} (h : e.bd 5 = true) : (e.ren (53 + ·)).num (xsAt (fnXs D q more)) = e.num (cellI (D.opd q.i q.m)) := by
  refine E.num_ren h fun j hj => ?_
  have e : fnXs D q more = (xsHd D ++ (xsB D q ++ (xsS D q ++ [(q.m : Int), (q.m : Int) + 1, ltI' q.m (D.blk q.i).ops.length]))) ++ (cods 5 (D.opd q.i q.m) ++ (xsT D q ++ (xsC D q ++ more))) := by simp [fnXs, xsO, xsEl]
  rw [e]
  exact (xsAt_ge (n := 53) rfl).trans (cods_any hj _)
theorem typ_num (q : At) (more : List Int) {e : E} (h : e.bd 2 = true) : (e.ren (61 + ·)).num (xsAt (fnXs D q more)) = e.num (cellI (D.typ q.t)) := by
  refine E.num_ren h fun j hj => ?_
  have e : fnXs D q more = (xsHd D ++ (xsB D q ++ (xsS D q ++ (xsO D q ++ [(q.t : Int), (q.t : Int) + 1, ltI' q.t D.ls.length])))) ++ (cods 2 (D.typ q.t) ++ (xsC D q ++ more)) := by simp [fnXs, xsT, xsEl]
  rw [e]
  exact (xsAt_ge (n := 61) rfl).trans (cods_any hj _)
def Tabs.app (a b : Tabs) : Tabs := ⟨a.len ++ b.len, a.el ++ b.el, a.add ++ b.add⟩
theorem lenOf_app (a b : List (Nat × Nat)) (k : Nat) : Tabs.lenOf ⟨a ++ b, [], []⟩ k = (Tabs.lenOf ⟨a, [], []⟩ k).or (Tabs.lenOf ⟨b, [], []⟩ k) := by
  induction a with
  | nil => rfl
  | cons p a ih =>
    show (bif Nat.beq p.1 k then some p.2 else Tabs.lenOf ⟨a ++ b, [], []⟩ k) = (bif Nat.beq p.1 k then some p.2 else Tabs.lenOf ⟨a, [], []⟩ k).or _
    cases Nat.beq p.1 k
    · exact ih
    · rfl
theorem elOf_app (a b : List (Nat × N × List S)) (k : Nat) (i : N) : Tabs.elOf ⟨[], a ++ b, []⟩ k i = (Tabs.elOf ⟨[], a, []⟩ k i).or (Tabs.elOf ⟨[], b, []⟩ k i) := by
  induction a with
  | nil => rfl
  | cons p a ih =>
    show (bif Nat.beq p.1 k && p.2.1.eqv i then some p.2.2 else Tabs.elOf ⟨[], a ++ b, []⟩ k i) = (bif Nat.beq p.1 k && p.2.1.eqv i then some p.2.2 else Tabs.elOf ⟨[], a, []⟩ k i).or _
    cases (Nat.beq p.1 k && p.2.1.eqv i)
    · exact ih
    · rfl
theorem addOf_app (a b : List (Nat × Int × Nat)) (i : Nat) (c : Int) : Tabs.addOf ⟨[], [], a ++ b⟩ i c = (Tabs.addOf ⟨[], [], a⟩ i c).or (Tabs.addOf ⟨[], [], b⟩ i c) := by
  induction a with
  | nil => rfl
  | cons p a ih =>
    show (bif Nat.beq p.1 i && decide (p.2.1 = c) then some p.2.2 else Tabs.addOf ⟨[], [], a ++ b⟩ i c) = (bif Nat.beq p.1 i && decide (p.2.1 = c) then some p.2.2 else Tabs.addOf ⟨[], [], a⟩ i c).or _
    cases (Nat.beq p.1 i && decide (p.2.1 = c))
    · exact ih
    · rfl
theorem or_some {α : Type} {x y : Option α} {z : α} (h : x.or y = some z) : x = some z ∨ y = some z := by cases x <;> simp_all
theorem tabs_app [Base] {a b : Tabs} (ha : TabsOk a) (hb : TabsOk b) : TabsOk (a.app b) := by
  refine ⟨fun k j h => ?_, fun k i cs h => ?_, fun i c j h => ?_⟩
  · rcases or_some ((lenOf_app a.len b.len k).symm.trans h) with h | h
    · exact ha.len k j h
    · exact hb.len k j h
  · rcases or_some ((elOf_app a.el b.el k i).symm.trans h) with h | h
    · exact ha.el k i cs h
    · exact hb.el k i cs h
  · rcases or_some ((addOf_app a.add b.add i c).symm.trans h) with h | h
    · exact ha.add i c j h
    · exact hb.add i c j h
theorem tab_len {b : Base} {k j n : Nat} {A : Option Addr} {c : Nat} (h : (b.lst k).v = .slice A n c) (hr : b.rho j = n) : @TabsOk b ⟨[(k, j)], [], []⟩ := by
  refine @TabsOk.mk b _ (fun l i hh => ?_) (fun _ _ _ h => (by cases h)) (fun _ _ _ h => (by cases h))
  have hh : (bif Nat.beq k l then some j else none) = some i := hh
  cases hb : Nat.beq k l <;> rw [hb] at hh <;> cases hh
  rw [← Nat.eq_of_beq_eq_true hb]
  exact ⟨A, n, c, h, hr⟩
theorem tab_add {b : Base} {i j : Nat} (h : b.rho j = b.rho i + 1) (h1 : -9223372036854775808 ≤ b.rho j) (h2 : b.rho j ≤ 9223372036854775807) : @TabsOk b ⟨[], [], [(i, 1, j)]⟩ := by
  refine @TabsOk.mk b _ (fun _ _ h => (by cases h)) (fun _ _ _ h => (by cases h)) (fun l c m hh => ?_)
  have hh : (bif Nat.beq i l && decide (1 = c) then some j else none) = some m := hh
  cases hb : (Nat.beq i l && decide (1 = c)) <;> rw [hb] at hh <;> cases hh
  simp only [Bool.and_eq_true, decide_eq_true_eq] at hb
  rw [← Nat.eq_of_beq_eq_true hb.1, ← hb.2]
  exact ⟨h, h1, h2⟩
theorem tab_el {e : Env} {v : Value} {sz k i n : Nat} {els : List (List Value)} {el : List Value} {cs : List S} (h : ListAt e.w v sz els) (hl : e.b.lst k = ⟨v, els⟩) (hr : e.b.rho i = n) (he : els[n]? = some el) (hs : cs.length = sz) (hc : All2 (fun x v => ∀ r, @VS e.b r x v) cs el) :
    @TabsOk e.b ⟨[], [(k, .x i, cs)], []⟩ := by
  refine @TabsOk.mk e.b _ (fun _ _ h => (by cases h)) (fun l m ds hh => ?_) (fun _ _ _ h => (by cases h))
  have hh : (bif Nat.beq k l && (N.x i).eqv m then some cs else none) = some ds := hh
  cases hb : (Nat.beq k l && (N.x i).eqv m) <;> rw [hb] at hh <;> cases hh
  simp only [Bool.and_eq_true] at hb
  rw [← Nat.eq_of_beq_eq_true hb.1, ← N.eqv_ok hb.2]
  exact h.el (b := e.b) (i := .x i) rfl rfl hl (n := n) hr he hs hc
def tabF : Tabs := ⟨[(0, 2), (1, 3)], [], []⟩
def tabB : Tabs := ⟨[(3, 7), (4, 17)], [(1, .x 4, blkCells)], [(4, 1, 5)]⟩
def tabS : Tabs := ⟨[], [(3, .x 21, stmCells)], [(21, 1, 22)]⟩
def tabA : Tabs := ⟨[], [(4, .x 50, opdCells)], [(50, 1, 51)]⟩
def tabT : Tabs := ⟨[], [(0, .x 58, typCells)], [(58, 1, 59)]⟩
variable {v : Value} (h : FnOk' w v D)
include h
theorem tabF_ok (q : At) (more : List Int) : @TabsOk (fnB w D q more) tabF := by
  obtain ⟨A, c, e⟩ := h.locals.sl
  obtain ⟨A', c', e'⟩ := h.blocks.sl
  rw [List.length_map] at e'
  exact @tabs_app (fnB w D q more) ⟨[(0, 2)], [], []⟩ ⟨[(1, 3)], [], []⟩ (tab_len (n := D.ls.length) e rfl) (tab_len (n := D.bs.length) e' rfl)
theorem el_cells {ks : List Kd} {vs : List Value} {o : Nat} {b : Base} (hs : (ks.all fun k => match k with | .s => false | _ => true) = true) (hk : All2 Kd.ok ks vs) (hr : ∀ j v, vs[j]? = some v → b.rho (o + j) = codeI v) : All2 (fun x v => ∀ r, @VS b r x v) (cellsT o ks) vs := by
  have h1 := fun r => @kd_cells b r ks vs o hs hk hr
  refine all2_by_nth (h1 r0).len fun i x v hx hv r => ?_
  obtain ⟨v', hv', ok⟩ := All2.nth (h1 r) (n := i) (x := x) (by rw [nth_eq]; exact hx)
  rw [hv] at hv'
  cases hv'
  exact ok
theorem fn_val (q : At) (more : List Int) (r : Ren) : @VA (fnB w D q more) r (.g fnCells) v := by
  obtain ⟨A, c, e⟩ := h.locals.sl
  obtain ⟨A', c', e'⟩ := h.blocks.sl
  refine ⟨[.int .i64 D.p, .bool D.u, D.lv, D.bv], by rw [h.eq], rfl, ?_, ⟨_, _, _, e, e⟩, ⟨_, _, _, e', e'⟩, trivial⟩
  show Value.bool D.u = .bool (decide (b2i D.u = 1) || false)
  cases D.u <;> rfl
theorem blk_is {i : Nat} (hi : i < D.bs.length) : BlkOk w (D.blk i) ∧ (D.bs.map BlkD.cells)[i]? = some (D.blk i).cells := by
  have e : D.bs[i]? = some (D.blk i) := by
    unfold FnD.blk
    rw [List.getD_eq_getElem?_getD, List.getElem?_eq_getElem hi]
    rfl
  refine ⟨h.blk _ (List.mem_of_getElem? e), ?_⟩
  rw [List.getElem?_map, e]
  rfl
theorem jmp_cells {i : Nat} (hi : i < D.bs.length) (q : At) (hq : q.i = i) (more : List Int) : All2 (fun x v => ∀ r, @VS (fnB w D q more) r x v) jmpCells ((D.blk i).pre ++ (D.blk i).a :: (D.blk i).post) := by
  subst hq
  obtain ⟨b, _⟩ := blk_is h hi
  obtain ⟨A, c, e⟩ := b.opl.sl
  have h1 : All2 (fun x v => ∀ r, @VS (fnB w D q more) r x v) (cellsT 8 kPre) (D.blk q.i).pre := el_cells h rfl b.prek fun j v hv => rho_pre q more hv (by have := (List.getElem?_eq_some_iff.1 hv).1; have := b.prek.len; have : kPre.length = 9 := rfl; omega)
  have h2 : All2 (fun x v => ∀ r, @VS (fnB w D q more) r x v) (cellsT 18 kPost) (D.blk q.i).post := el_cells h rfl b.postk fun j v hv => rho_post q more hv (by have := (List.getElem?_eq_some_iff.1 hv).1; have := b.postk.len; have : kPost.length = 3 := rfl; omega)
  exact all2_cat h1 ⟨fun r => ⟨A, _, c, e, e⟩, h2⟩
theorem blk_cells {i : Nat} (hi : i < D.bs.length) (q : At) (hq : q.i = i) (more : List Int) : All2 (fun x v => ∀ r, @VS (fnB w D q more) r x v) blkCells (D.blk i).cells := by
  have h3 := jmp_cells h hi q hq more
  subst hq
  obtain ⟨b, _⟩ := blk_is h hi
  obtain ⟨A, c, e⟩ := b.sts.sl
  exact ⟨fun r => ⟨A, _, c, e, e⟩, h3⟩
theorem tabB_ok {q : At} (hi : q.i < D.bs.length) (more : List Int) : @TabsOk (fnB w D q more) tabB := by
  obtain ⟨b, hb⟩ := blk_is h hi
  obtain ⟨A, c, e⟩ := b.sts.sl
  obtain ⟨A', c', e'⟩ := b.opl.sl
  have hlen : (D.bs.length : Int) ≤ 9223372036854775807 := by have := h.blocks.most; rwa [List.length_map] at this
  have t1 : @TabsOk (fnB w D q more) ⟨[(3, 7)], [], []⟩ := tab_len (n := (D.blk q.i).st.length) e rfl
  have t2 : @TabsOk (fnB w D q more) ⟨[(4, 17)], [], []⟩ := tab_len (n := (D.blk q.i).ops.length) e' rfl
  have t3 : @TabsOk (fnB w D q more) ⟨[], [(1, .x 4, blkCells)], []⟩ := tab_el (e := fnE w D q more) h.blocks rfl (n := q.i) rfl hb rfl (blk_cells h hi q rfl more)
  have t4 : @TabsOk (fnB w D q more) ⟨[], [], [(4, 1, 5)]⟩ := tab_add rfl (show (-9223372036854775808 : Int) ≤ (q.i : Int) + 1 by omega) (show (q.i : Int) + 1 ≤ 9223372036854775807 by omega)
  exact @tabs_app (fnB w D q more) ⟨[(3, 7), (4, 17)], [(1, .x 4, blkCells)], []⟩ _ (@tabs_app (fnB w D q more) ⟨[(3, 7), (4, 17)], [], []⟩ _ (@tabs_app (fnB w D q more) _ _ t1 t2) t3) t4
theorem stm_is {i k : Nat} (hi : i < D.bs.length) (hk : k < (D.blk i).st.length) : All2 Kd.ok kS26 (D.stm i k) ∧ (D.blk i).st[k]? = some (D.stm i k) := by
  have e : (D.blk i).st[k]? = some (D.stm i k) := by
    unfold FnD.stm
    rw [List.getD_eq_getElem?_getD, List.getElem?_eq_getElem hk]
    rfl
  exact ⟨(blk_is h hi).1.skd _ (List.mem_of_getElem? e), e⟩
theorem opd_is {i m : Nat} (hi : i < D.bs.length) (hm : m < (D.blk i).ops.length) : All2 Kd.ok opK (D.opd i m) ∧ (D.blk i).ops[m]? = some (D.opd i m) := by
  have e : (D.blk i).ops[m]? = some (D.opd i m) := by
    unfold FnD.opd
    rw [List.getD_eq_getElem?_getD, List.getElem?_eq_getElem hm]
    rfl
  exact ⟨(blk_is h hi).1.okd _ (List.mem_of_getElem? e), e⟩
theorem typ_is {t : Nat} (ht : t < D.ls.length) : All2 Kd.ok [.i .u8, .i .u8] (D.typ t) ∧ D.ls[t]? = some (D.typ t) := by
  have e : D.ls[t]? = some (D.typ t) := by
    unfold FnD.typ
    rw [List.getD_eq_getElem?_getD, List.getElem?_eq_getElem ht]
    rfl
  exact ⟨h.lkd _ (List.mem_of_getElem? e), e⟩
theorem stm_cells {q : At} (hi : q.i < D.bs.length) (hk : q.k < (D.blk q.i).st.length) (more : List Int) : All2 (fun x v => ∀ r, @VS (fnB w D q more) r x v) stmCells (D.stm q.i q.k) := by
  obtain ⟨ok, _⟩ := stm_is h hi hk
  exact el_cells h rfl ok fun j v hv => rho_stm q more hv (by have := (List.getElem?_eq_some_iff.1 hv).1; have := ok.len; have : kS26.length = 26 := rfl; omega)
theorem opd_cells {q : At} (hi : q.i < D.bs.length) (hm : q.m < (D.blk q.i).ops.length) (more : List Int) : All2 (fun x v => ∀ r, @VS (fnB w D q more) r x v) opdCells (D.opd q.i q.m) := by
  obtain ⟨ok, _⟩ := opd_is h hi hm
  exact el_cells h rfl ok fun j v hv => rho_opd q more hv (by have := (List.getElem?_eq_some_iff.1 hv).1; have := ok.len; have : opK.length = 5 := rfl; omega)
theorem typ_cells {q : At} (ht : q.t < D.ls.length) (more : List Int) : All2 (fun x v => ∀ r, @VS (fnB w D q more) r x v) typCells (D.typ q.t) := by
  obtain ⟨ok, _⟩ := typ_is h ht
  exact el_cells h rfl ok fun j v hv => rho_typ q more hv (by have := (List.getElem?_eq_some_iff.1 hv).1; have h2 := ok.len; simp only [List.length_cons, List.length_nil] at h2; omega)
theorem tabS_ok {q : At} (hi : q.i < D.bs.length) (hk : q.k < (D.blk q.i).st.length) (more : List Int) : @TabsOk (fnB w D q more) tabS := by
  have b := (blk_is h hi).1
  have hl := b.sts.most
  exact @tabs_app (fnB w D q more) ⟨[], [(3, .x 21, stmCells)], []⟩ _ (tab_el (e := fnE w D q more) b.sts rfl (n := q.k) rfl (stm_is h hi hk).2 rfl (stm_cells h hi hk more))
    (tab_add (i := 21) (j := 22) rfl (show (-9223372036854775808 : Int) ≤ (q.k : Int) + 1 by omega) (show (q.k : Int) + 1 ≤ 9223372036854775807 by omega))
theorem tabA_ok {q : At} (hi : q.i < D.bs.length) (hm : q.m < (D.blk q.i).ops.length) (more : List Int) : @TabsOk (fnB w D q more) tabA := by
  have b := (blk_is h hi).1
  have hl := b.opl.most
  exact @tabs_app (fnB w D q more) ⟨[], [(4, .x 50, opdCells)], []⟩ _ (tab_el (e := fnE w D q more) b.opl rfl (n := q.m) rfl (opd_is h hi hm).2 rfl (opd_cells h hi hm more))
    (tab_add (i := 50) (j := 51) rfl (show (-9223372036854775808 : Int) ≤ (q.m : Int) + 1 by omega) (show (q.m : Int) + 1 ≤ 9223372036854775807 by omega))
theorem tabT_ok {q : At} (ht : q.t < D.ls.length) (more : List Int) : @TabsOk (fnB w D q more) tabT := by
  have hl := h.locals.most
  exact @tabs_app (fnB w D q more) ⟨[], [(0, .x 58, typCells)], []⟩ _ (tab_el (e := fnE w D q more) h.locals rfl (n := q.t) rfl (typ_is h ht).2 rfl (typ_cells h ht more))
    (tab_add (i := 58) (j := 59) rfl (show (-9223372036854775808 : Int) ≤ (q.t : Int) + 1 by omega) (show (q.t : Int) + 1 ≤ 9223372036854775807 by omega))
end
end Go.Proofs.YthdcahkedlijpaaGreat.Am
