/- A function all of whose lists are the call's own: it may be changed at one place. -/
import Derived.Test.YtglmonlofejcgaaDoorTwin1
namespace Go.Proofs.YtglmonlofejcgaaDoor.twin
abbrev tTy : Go.TypeId := 63
abbrev tBl : Go.TypeId := 52
abbrev tSt : Go.TypeId := 59
abbrev tOp : Go.TypeId := 47
end Go.Proofs.YtglmonlofejcgaaDoor.twin
namespace Go.Proofs.YtglmonlofejcgaaDoor.own
open Go.RowKit Go.Proofs.YtglmonlofejcgaaDoor Go.Proofs.YtglmonlofejcgaaDoor.Am Go.Proofs.YtglmonlofejcgaaDoor.twin
set_option linter.unusedVariables false
set_option linter.unusedSectionVars false
def putL (l : List Value) (o : Nat) (vs : List Value) : List Value := l.take o ++ (vs ++ l.drop (o + vs.length))
theorem putL_len {l : List Value} {o : Nat} {vs : List Value} (h : o + vs.length ≤ l.length) : (putL l o vs).length = l.length := by
 unfold putL
 simp
 omega
theorem flat_put {sz o : Nat} {vs : List Value} (ho : o + vs.length ≤ sz) : ∀ {els : List (List Value)} {i : Nat} {el : List Value}, (∀ x ∈ els, x.length = sz) → els[i]? = some el → (els.set i (putL el o vs)).flatten = putL els.flatten (i * sz + o) vs
 | [], i, el, _, h => by simp at h
 | x :: els, 0, el, hl, h => by
  have hx := hl x (List.mem_cons_self ..)
  simp only [List.getElem?_cons_zero, Option.some.injEq] at h
  subst h
  rw [List.set_cons_zero, List.flatten_cons, List.flatten_cons, Nat.zero_mul, Nat.zero_add]
  unfold putL
  rw [List.take_append_of_le_length (by omega), List.drop_append_of_le_length (by omega)]
  simp [List.append_assoc]
 | x :: els, i + 1, el, hl, h => by
  have hx := hl x (List.mem_cons_self ..)
  rw [List.set_cons_succ, List.flatten_cons, List.flatten_cons, flat_put ho (fun y hy => hl y (List.mem_cons_of_mem _ hy)) (by simpa using h)]
  unfold putL
  have e : (i + 1) * sz + o = x.length + (i * sz + o) := by rw [Nat.succ_mul]; omega
  rw [e, List.take_length_add_append, Nat.add_assoc x.length, List.drop_length_add_append]
  simp [List.append_assoc]
theorem owns_put {w : World} {base g c : Nat} {e : TypeId} {sz n : Nat} {xs : List Value} (h : w.ownsRow base e sz (.slice (some ⟨g, 0, none⟩) n c) n xs) {o : Nat} {vs : List Value} (ho : o + vs.length ≤ n * sz) :
  (w.setCells g o vs).ownsRow base e sz (.slice (some ⟨g, 0, none⟩) n c) n (putL xs o vs) ∧ (∀ k, k ≠ g → (w.setCells g o vs).heap[k]? = w.heap[k]?) ∧ Below base w (w.setCells g o vs) := by
 letI : Base := (⟨w, [], []⟩ : Env).b
 obtain ⟨h1, h2⟩ := h
 rcases h2 with ⟨h2, _⟩ | ⟨g', cap, cur, e', hb, hg, hn, hm, hs, ht⟩
 ·cases h2
 ·cases e'
  have hsz : n * sz ≤ cur.size := by rw [hs]; exact Nat.mul_le_mul_right _ hn
  obtain ⟨D, g1, g2, g3, g4, g5, g6, g7⟩ := setCells_at vs o cur w hg (by omega)
  have hDl : D.toList.length = cur.toList.length := by
   rw [g2]
   simp
   omega
  refine ⟨⟨?_, .inr ⟨g, c, D, rfl, hb, g1, hn, hm, by simpa [hs] using hDl, ?_⟩⟩, g3, ⟨g4, g5, g6, by omega, fun k hk => g3 k (by omega)⟩⟩
  ·rw [putL_len (by omega)]
   exact h1
  ·rw [g2]
   unfold putL
   rw [← ht]
   have l1 : cur.toList.length = cur.size := by simp
   rw [List.take_append, List.take_take, List.take_append, List.take_take, Nat.min_eq_right (by omega : o ≤ n * sz), Nat.min_eq_left (by omega : o ≤ n * sz), List.take_of_length_le (l := vs) (by simp; omega)]
   congr 2
   rw [List.drop_take]
   congr 1
   simp
   omega
structure OwnFn (base : Nat) (w : World) (D : FnD) : Prop where
 ol : w.ownsRow base tTy 2 D.lv D.ls.length D.ls.flatten
 ob : w.ownsRow base tBl 14 D.bv D.bs.length (D.bs.map BlkD.cells).flatten
 os : ∀ b ∈ D.bs, w.ownsRow base tSt 26 b.s b.st.length b.st.flatten ∧ w.ownsRow base tOp 5 b.a b.ops.length b.ops.flatten
 nd : (blkOf D.lv ++ (blkOf D.bv ++ D.bs.flatMap own2)).Nodup
structure Kinds (D : FnD) : Prop where
 pk : Kd.ok (.i .i64) (.int .i64 D.p)
 lk : ∀ t ∈ D.ls, All2 Kd.ok [.i .u8, .i .u8] t
 bk : ∀ b ∈ D.bs, All2 Kd.ok kPre b.pre ∧ All2 Kd.ok kPost b.post ∧ (∀ st ∈ b.st, All2 Kd.ok kS26 st) ∧ (∀ o ∈ b.ops, All2 Kd.ok opK o)
theorem Kinds.of {w : World} {v : Value} {D : FnD} (h : FnOk' w v D) : Kinds D := ⟨h.pk, h.lkd, fun b hb => ⟨(h.blk b hb).prek, (h.blk b hb).postk, (h.blk b hb).skd, (h.blk b hb).okd⟩⟩
theorem Kinds.core {D D' : FnD} (h : Kinds D) (e : D'.core = D.core) : Kinds D' := by
 have e1 : D'.p = D.p := (congrArg FnD.p e : D'.core.p = D.core.p)
 have e2 : D'.ls = D.ls := (congrArg FnD.ls e : D'.core.ls = D.core.ls)
 have e3 : D'.bs.map BlkD.core = D.bs.map BlkD.core := (congrArg FnD.bs e : D'.core.bs = D.core.bs)
 refine ⟨e1 ▸ h.pk, e2 ▸ h.lk, fun b hb => ?_⟩
 have hm : b.core ∈ D.bs.map BlkD.core := e3 ▸ List.mem_map.2 ⟨b, hb, rfl⟩
 obtain ⟨b', hb', e'⟩ := List.mem_map.1 hm
 have := h.bk b' hb'
 have p1 : b'.pre = b.pre := (congrArg BlkD.pre e' : b'.core.pre = b.core.pre)
 have p2 : b'.post = b.post := (congrArg BlkD.post e' : b'.core.post = b.core.post)
 have p3 : b'.st = b.st := (congrArg BlkD.st e' : b'.core.st = b.core.st)
 have p4 : b'.ops = b.ops := (congrArg BlkD.ops e' : b'.core.ops = b.core.ops)
 rw [p1, p2, p3, p4] at this
 exact this
def valF (D : FnD) : Value := .agg #[.int .i64 D.p, .bool D.u, D.lv, D.bv]
theorem cells_len {b : BlkD} (h1 : All2 Kd.ok kPre b.pre) (h2 : All2 Kd.ok kPost b.post) : b.cells.length = 14 := by
 have l1 := h1.len
 have l2 := h2.len
 have e1 : kPre.length = 9 := rfl
 have e2 : kPost.length = 3 := rfl
 unfold BlkD.cells
 simp
 omega
theorem OwnFn.lens {D : FnD} (k : Kinds D) : (∀ x ∈ D.ls, x.length = 2) ∧ (∀ x ∈ D.bs.map BlkD.cells, x.length = 14) ∧ (∀ b ∈ D.bs, (∀ x ∈ b.st, x.length = 26) ∧ ∀ x ∈ b.ops, x.length = 5) :=
 ⟨fun x hx => (k.lk x hx).len.symm, fun x hx => by
  obtain ⟨b, hb, rfl⟩ := List.mem_map.1 hx
  exact cells_len (k.bk b hb).1 (k.bk b hb).2.1, fun b hb => ⟨fun x hx => ((k.bk b hb).2.2.1 x hx).len.symm, fun x hx => ((k.bk b hb).2.2.2 x hx).len.symm⟩⟩
theorem OwnFn.ok {base : Nat} {w : World} {D : FnD} (h : OwnFn base w D) (k : Kinds D) : FnOk' w (valF D) D := by
 obtain ⟨l1, l2, l3⟩ := OwnFn.lens k
 exact ⟨rfl, k.pk, ListAt.of_own h.ol l1, k.lk, ListAt.of_own (by rw [List.length_map]; exact h.ob) l2, fun b hb => ⟨ListAt.of_own (h.os b hb).1 (l3 b hb).1, (k.bk b hb).2.2.1, (k.bk b hb).1, ListAt.of_own (h.os b hb).2 (l3 b hb).2, (k.bk b hb).2.2.2, (k.bk b hb).2.1⟩⟩
theorem OwnFn.keep {base : Nat} {w w' : World} {D : FnD} (h : OwnFn base w D) (hk : ∀ k, k ∈ blkOf D.lv ++ (blkOf D.bv ++ D.bs.flatMap own2) → w'.heap[k]? = w.heap[k]?) : OwnFn base w' D :=
 ⟨owns_keep h.ol fun k hm => hk k (by simp [hm]), owns_keep h.ob fun k hm => hk k (by simp [hm]), fun b hb => ⟨owns_keep (h.os b hb).1 fun k hm => hk k (by
  simp only [List.mem_append, List.mem_flatMap]
  exact .inr (.inr ⟨b, hb, List.mem_append.2 (.inl hm)⟩)), owns_keep (h.os b hb).2 fun k hm => hk k (by
  simp only [List.mem_append, List.mem_flatMap]
  exact .inr (.inr ⟨b, hb, List.mem_append.2 (.inr hm)⟩))⟩, h.nd⟩
theorem OwnFn.in_ {base : Nat} {w : World} {D : FnD} (h : OwnFn base w D) {k : Nat} (hk : k ∈ blkOf D.lv ++ (blkOf D.bv ++ D.bs.flatMap own2)) : base ≤ k ∧ k < w.heap.size := by
 simp only [List.mem_append, List.mem_flatMap] at hk
 rcases hk with hk | hk | ⟨b, hb, hk⟩
 ·exact owns_in h.ol k hk
 ·exact owns_in h.ob k hk
 ·rcases List.mem_append.1 hk with hk | hk
  ·exact owns_in (h.os b hb).1 k hk
  ·exact owns_in (h.os b hb).2 k hk
theorem OwnFn.below {base : Nat} {w w' : World} {D : FnD} (h : OwnFn base w D) (hb : Below w.heap.size w w') : OwnFn base w' D := h.keep fun k hk => hb.block k (h.in_ hk).2
theorem OwnFn.put {base : Nat} {w : World} {D' : FnD} {gb c n o : Nat} {xs vs : List Value} (ol : w.ownsRow base tTy 2 D'.lv D'.ls.length D'.ls.flatten) (ob : w.ownsRow base tBl 14 (.slice (some ⟨gb, 0, none⟩) n c) n xs)
  (os : ∀ b ∈ D'.bs, w.ownsRow base tSt 26 b.s b.st.length b.st.flatten ∧ w.ownsRow base tOp 5 b.a b.ops.length b.ops.flatten) (nd : (blkOf D'.lv ++ (blkOf D'.bv ++ D'.bs.flatMap own2)).Nodup) (hbv : D'.bv = .slice (some ⟨gb, 0, none⟩) n c) (hn : D'.bs.length = n)
  (ho : o + vs.length ≤ n * 14) (hx : (D'.bs.map BlkD.cells).flatten = putL xs o vs) : OwnFn base (w.setCells gb o vs) D' ∧ Below base w (w.setCells gb o vs) := by
 obtain ⟨h1, h2, h3⟩ := owns_put ob ho
 have hgb : blkOf D'.bv = [gb] := by rw [hbv]; rfl
 rw [hgb] at nd
 have n1 : gb ∉ blkOf D'.lv := fun hm => (List.nodup_append.1 nd).2.2 gb hm gb (by simp) rfl
 have n2 : gb ∉ D'.bs.flatMap own2 := (List.nodup_cons.1 (List.nodup_append.1 nd).2.1).1
 refine ⟨⟨owns_keep ol fun k hk => h2 k fun e => n1 (e ▸ hk), ?_, fun b hb => ⟨owns_keep (os b hb).1 fun k hk => h2 k fun e => n2 (List.mem_flatMap.2 ⟨b, hb, List.mem_append.2 (.inl (e ▸ hk))⟩), owns_keep (os b hb).2 fun k hk => h2 k fun e => n2 (List.mem_flatMap.2 ⟨b, hb, List.mem_append.2 (.inr (e ▸ hk))⟩)⟩, by rw [hgb]; exact nd⟩, h3⟩
 rw [hbv, hn, hx]
 exact h1
theorem flatMap_set {α : Type} {f : α → List Nat} : ∀ {L : List α} {j : Nat} {b b' : α}, L[j]? = some b → ∃ F1 F2, L.flatMap f = F1 ++ (f b ++ F2) ∧ (L.set j b').flatMap f = F1 ++ (f b' ++ F2)
 | [], j, b, b', h => by simp at h
 | x :: L, 0, b, b', h => by
  simp only [List.getElem?_cons_zero, Option.some.injEq] at h
  subst h
  exact ⟨[], L.flatMap f, by simp, by simp⟩
 | x :: L, j + 1, b, b', h => by
  obtain ⟨F1, F2, e1, e2⟩ := flatMap_set (f := f) (b' := b') (show L[j]? = some b by simpa using h)
  exact ⟨f x ++ F1, F2, by simp [e1, List.append_assoc], by simp [e2, List.append_assoc]⟩
theorem nodup_set {α : Type} {f : α → List Nat} {A : List Nat} {L : List α} {j n : Nat} {b b' : α} (h : (A ++ L.flatMap f).Nodup) (hj : L[j]? = some b) (hlt : ∀ k ∈ A ++ L.flatMap f, k < n) (h1 : (f b').Nodup) (h2 : ∀ k ∈ f b', k ∈ f b ∨ n ≤ k) : (A ++ (L.set j b').flatMap f).Nodup := by
 obtain ⟨F1, F2, e1, e2⟩ := flatMap_set (f := f) (b' := b') hj
 rw [e1] at h hlt
 rw [e2]
 have p : ∀ X : List Nat, (A ++ (F1 ++ (X ++ F2))).Perm (X ++ (A ++ (F1 ++ F2))) := fun X => by
  have := List.perm_append_comm_assoc (A ++ F1) X F2
  simpa [List.append_assoc] using this
 have h' := (p _).nodup_iff.1 h
 rw [(p _).nodup_iff]
 obtain ⟨_, q2, q3⟩ := List.nodup_append.1 h'
 refine List.nodup_append.2 ⟨h1, q2, fun x hx y hy e => ?_⟩
 rcases h2 x hx with hx | hx
 ·exact q3 x hx y hy e
 ·have : y < n := hlt y (by
   simp only [List.mem_append] at hy ⊢
   rcases hy with hy | hy | hy
   ·exact .inl hy
   ·exact .inr (.inl hy)
   ·exact .inr (.inr (.inr hy)))
  omega
theorem nd_ne {α : Type} {f : α → List Nat} : ∀ {L : List α} {i j : Nat} {x y : α}, (L.flatMap f).Nodup → L[i]? = some x → L[j]? = some y → i ≠ j → ∀ k ∈ f x, k ∉ f y
 | [], i, j, x, y, _, h, _, _, _, _ => by simp at h
 | a :: L, 0, 0, x, y, _, _, _, hn, _, _ => absurd rfl hn
 | a :: L, 0, j + 1, x, y, hd, hi, hj, _, k, hk => fun hm => by
  simp only [List.getElem?_cons_zero, Option.some.injEq] at hi
  subst hi
  rw [List.flatMap_cons] at hd
  exact (List.nodup_append.1 hd).2.2 k hk k (List.mem_flatMap.2 ⟨y, List.mem_of_getElem? (by simpa using hj), hm⟩) rfl
 | a :: L, i + 1, 0, x, y, hd, hi, hj, _, k, hk => fun hm => by
  simp only [List.getElem?_cons_zero, Option.some.injEq] at hj
  subst hj
  rw [List.flatMap_cons] at hd
  exact (List.nodup_append.1 hd).2.2 k hm k (List.mem_flatMap.2 ⟨x, List.mem_of_getElem? (by simpa using hi), hk⟩) rfl
 | a :: L, i + 1, j + 1, x, y, hd, hi, hj, hn, k, hk => by
  rw [List.flatMap_cons] at hd
  exact nd_ne (List.nodup_append.1 hd).2.1 (by simpa using hi) (by simpa using hj) (fun e => hn (by rw [e])) k hk
theorem mem_set_at {α : Type} {L : List α} {j : Nat} {b' x : α} (h : x ∈ L.set j b') : (∃ i, i ≠ j ∧ L[i]? = some x) ∨ x = b' := by
 obtain ⟨i, hi⟩ := List.getElem?_of_mem h
 rw [List.getElem?_set] at hi
 by_cases hij : j = i
 ·rw [if_pos hij] at hi
  split at hi
  ·cases hi; exact .inr rfl
  ·cases hi
 ·rw [if_neg hij] at hi
  exact .inl ⟨i, fun e => hij e.symm, hi⟩
theorem OwnFn.push {base : Nat} {w w6 : World} {D : FnD} {j gb c g7 c7 : Nat} {bj : BlkD} {x : List Value} (h : OwnFn base w D) (k : Kinds D) (hj : D.bs[j]? = some bj) (hbv : D.bv = .slice (some ⟨gb, 0, none⟩) D.bs.length c)
  (k6 : Kept bj.s.ownBlock w w6) (o6 : w6.ownsRow base tSt 26 (.slice (some ⟨g7, 0, none⟩) (bj.st.length + 1) c7) (bj.st.length + 1) (bj.st.flatten ++ x)) (at6 : bj.s.ownBlock = some g7 ∨ w.heap.size ≤ g7) :
  OwnFn base (w6.setCells gb (j * 14) [.slice (some ⟨g7, 0, none⟩) (bj.st.length + 1) c7]) { D with bs := D.bs.set j { bj with s := .slice (some ⟨g7, 0, none⟩) (bj.st.length + 1) c7, st := bj.st ++ [x] } } ∧ Below base w6 (w6.setCells gb (j * 14) [.slice (some ⟨g7, 0, none⟩) (bj.st.length + 1) c7]) ∧ ∀ q, q ≠ gb → (w6.setCells gb (j * 14) [.slice (some ⟨g7, 0, none⟩) (bj.st.length + 1) c7]).heap[q]? = w6.heap[q]? := by
 have hjl := (List.getElem?_eq_some_iff.1 hj).1
 have hmj := List.mem_of_getElem? hj
 have hob := h.ob
 have hnd := h.nd
 have hgb : blkOf D.bv = [gb] := by rw [hbv]; rfl
 obtain ⟨nd1, nd2, nd3⟩ := List.nodup_append.1 hnd
 obtain ⟨nd4, nd5, nd6⟩ := List.nodup_append.1 nd2
 have inF : ∀ b ∈ D.bs, ∀ q ∈ own2 b, q ∈ D.bs.flatMap own2 := fun b hb q hq => List.mem_flatMap.2 ⟨b, hb, hq⟩
 have kp : ∀ {e size v n xs}, w.ownsRow base e size v n xs → (∀ q ∈ blkOf v, q ∉ blkOf bj.s) → w6.ownsRow base e size v n xs := fun ho hq => k6.owns ho fun q e he => hq q (mem_blkOf.2 e) (mem_blkOf.2 he.symm)
 have gs : ∀ q ∈ blkOf bj.s, q ∈ D.bs.flatMap own2 := fun q hq => inF bj hmj q (List.mem_append.2 (.inl hq))
 have n1 : gb ∉ blkOf bj.s := fun hm => nd6 gb (by rw [hgb]; simp) gb (gs gb hm) rfl
 rw [hbv] at hob
 have hob6 : w6.ownsRow base tBl 14 (.slice (some ⟨gb, 0, none⟩) D.bs.length c) D.bs.length (D.bs.map BlkD.cells).flatten := kp hob fun q hq => by
  obtain rfl : gb = q := by simpa [blkOf, Value.ownBlock, eq_comm] using hq
  exact n1
 have hc14 := cells_len (k.bk bj hmj).1 (k.bk bj hmj).2.1
 obtain ⟨r1, r2⟩ := OwnFn.put (D' := { D with bs := D.bs.set j { bj with s := .slice (some ⟨g7, 0, none⟩) (bj.st.length + 1) c7, st := bj.st ++ [x] } }) (vs := [.slice (some ⟨g7, 0, none⟩) (bj.st.length + 1) c7]) (o := j * 14)
  (kp h.ol fun q hq hm => nd3 q hq q (List.mem_append.2 (.inr (gs q hm))) rfl) hob6 (fun b hb => by
   rcases mem_set_at hb with ⟨i, hi, hbi⟩ | rfl
   ·have hbm := List.mem_of_getElem? hbi
    have hne := nd_ne nd5 hbi hj hi
    exact ⟨kp (h.os b hbm).1 fun q hq hm => hne q (List.mem_append.2 (.inl hq)) (List.mem_append.2 (.inl hm)), kp (h.os b hbm).2 fun q hq hm => hne q (List.mem_append.2 (.inr hq)) (List.mem_append.2 (.inl hm))⟩
   ·refine ⟨?_, kp (h.os bj hmj).2 fun q hq hm => ?_⟩
    ·simpa using o6
    ·obtain ⟨F1, F2, e1, _⟩ := flatMap_set (f := own2) (b' := bj) hj
     rw [e1] at nd5
     exact (List.nodup_append.1 (List.nodup_append.1 (List.nodup_append.1 nd5).2.1).1).2.2 q hm q hq rfl) (by
   rw [← List.append_assoc] at hnd ⊢
   refine nodup_set hnd hj (n := w.heap.size) (fun q hq => (h.in_ (by simpa [List.append_assoc] using hq)).2) ?_ fun q hq => ?_
   ·obtain ⟨F1, F2, e1, _⟩ := flatMap_set (f := own2) (b' := bj) hj
    rw [e1] at nd5
    have ndj : (own2 bj).Nodup := (List.nodup_append.1 (List.nodup_append.1 nd5).2.1).1
    show ([g7] ++ blkOf bj.a).Nodup
    rcases at6 with h7 | h7
    ·have : blkOf bj.s = [g7] := blkOf_some h7
     rw [← this]
     exact ndj
    ·refine List.nodup_append.2 ⟨by simp, (List.nodup_append.1 ndj).2.1, fun a ha b hb e => ?_⟩
     have := (owns_in (h.os bj hmj).2 b hb).2
     simp only [List.mem_singleton] at ha
     omega
   ·rcases List.mem_append.1 hq with hq | hq
    ·obtain rfl : g7 = q := by simpa [blkOf, Value.ownBlock, eq_comm] using hq
     rcases at6 with h7 | h7
     ·exact .inl (List.mem_append.2 (.inl (mem_blkOf.2 h7)))
     ·exact .inr h7
    ·exact .inl (List.mem_append.2 (.inr hq))) hbv (by simp) (by
   have : (j + 1) * 14 ≤ D.bs.length * 14 := Nat.mul_le_mul_right _ hjl
   simp
   omega) (by
   have := flat_put (o := 0) (vs := [.slice (some ⟨g7, 0, none⟩) (bj.st.length + 1) c7]) (sz := 14) (by simp) (i := j) (el := bj.cells) (OwnFn.lens k).2.1 (by rw [List.getElem?_map, hj]; rfl)
   rw [Nat.add_zero] at this
   refine Eq.trans ?_ this
   show ((D.bs.set j _).map BlkD.cells).flatten = _
   rw [List.map_set]
   rfl)
 exact ⟨r1, r2, (owns_put hob6 (by
   have : (j + 1) * 14 ≤ D.bs.length * 14 := Nat.mul_le_mul_right _ hjl
   simp
   omega)).2.1⟩
theorem Kept.trans {r : Option Nat} {a b c : World} (h : Kept none a b) (k : Kept r b c) : Kept r a c := fun i x hi hx => k i x hi (h i x (by simp) hx)
theorem OwnFn.other {base : Nat} {w w' : World} {D : FnD} (h : OwnFn base w D) {T : Nat} (hk : ∀ q, q ≠ T → w'.heap[q]? = w.heap[q]?) (hT : T ∉ blkOf D.lv ++ (blkOf D.bv ++ D.bs.flatMap own2)) : OwnFn base w' D := h.keep fun q hq => hk q fun e => hT (e ▸ hq)
end Go.Proofs.YtglmonlofejcgaaDoor.own
