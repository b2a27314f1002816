/- A row that is written anew, or goes into a new block: its old name goes. slices.Insert at one-cell elements, out of a library's contracts. (No program in sight.) -/
import Derived.Test.YtaamdiknefodgaaDoorAmInc
namespace Go.Proofs.YtaamdiknefodgaaDoor.Am
open Go.RowKit
set_option linter.unusedSectionVars false
set_option linter.unusedVariables false
variable [Base]
section
variable {h : Heap} {r : Ren} {B fl : Nat} {w w1 : World}
set_option maxHeartbeats 1000000 in
/-- the block goes on under a new name, with other cells -/
theorem Inv.rename (hi : Inv h r B w) {l : Nat} {b : Blk} (hb' : h.get l = some b) (ho : b.own = true) (hfl : fl ≤ l) {D : Array Value} {T : TypeId} {fz : Nat × Nat} {cs : List S}
    (d1 : w1.heap[r.blk l]? = some (.cells D T fz)) (dsz : D.size = r.cap l) (dfz : ∀ i, i ≤ D.size → (fz.1 ≤ i && i < fz.2) = false) (d3 : ∀ k, k ≠ r.blk l → w1.heap[k]? = w.heap[k]?)
    (d4 : w1.os = w.os) (d5 : w1.tape = w.tape) (d6 : w1.output = w.output) (d7 : w1.heap.size = w.heap.size) (hcs : ∀ i x, nth cs i = some x → ∃ u, D[i]? = some u ∧ VS r x u) :
    Inv ⟨(h.next, ⟨cs, true⟩) :: Hp.del h.m l, h.next + 1⟩ (r.new h.next (r.blk l) (r.cap l)) B w1 ∧ Adv fl h r w ⟨(h.next, ⟨cs, true⟩) :: Hp.del h.m l, h.next + 1⟩ (r.new h.next (r.blk l) (r.cap l)) w1 := by
  obtain ⟨q1, q2, C, T', fz', q3, q4, q5, q6⟩ := hi.hr.own l b hb' ho
  have hle := r.le_new h.next (r.blk l) (r.cap l) (Inv.not h hi)
  have hdl := hi.n l (hi.hr.dom l b hb')
  have hnb : (r.new h.next (r.blk l) (r.cap l)).blk h.next = r.blk l := by simp [Ren.new]
  refine ⟨⟨fun l hl => by
      show l < h.next + 1
      rcases hl with hl | hl
      · have := hi.n l hl; omega
      · omega, by rw [d7]; exact hi.b, ?_⟩, ?_⟩
  · refine ⟨fun m c hm => ?_, fun m c hm hc => ?_, fun m c hm hc => ?_, fun m c m' c' e1 o1 e2 o2 e => ?_, hi.hr.nb, fun k hk => (d3 k (by have := hi.hr.nb; omega)).trans (hi.hr.z k hk)⟩
    · rw [Heap.del_alloc_get] at hm
      split at hm
      · rename_i e; exact .inr e
      · split at hm
        · cases hm
        · exact .inl (hi.hr.dom m c hm)
    · rw [Heap.del_alloc_get] at hm
      split at hm
      · rename_i e; subst e; cases hm
        rw [hnb]
        refine ⟨q1, by simp [Ren.new], D, T, fz, d1, by simp [Ren.new, dsz], dfz, fun i x hx => ?_⟩
        obtain ⟨u, hu1, hu2⟩ := hcs i x hx
        exact ⟨u, hu1, VS.mono hle hu2⟩
      · rename_i e
        split at hm
        · cases hm
        · rename_i e'
          obtain ⟨p1, p2, C', T', fz', p3, p4, p5, p6⟩ := hi.hr.own m c hm hc
          have hml := hi.hr.dom m c hm
          rw [hle.blk m hml, hle.off m hml, hle.cap m hml]
          exact ⟨p1, p2, C', T', fz', by rw [d3 _ (fun e'' => e' (hi.hr.inj m c l b hm hc hb' ho e''))]; exact p3, p4, p5, fun i x hx => by obtain ⟨u, hu1, hu2⟩ := p6 i x hx; exact ⟨u, hu1, VS.mono hle hu2⟩⟩
    · rw [Heap.del_alloc_get] at hm
      split at hm
      · cases hm; cases hc
      · split at hm
        · cases hm
        · obtain ⟨p1, p2⟩ := hi.hr.ro m c hm hc
          have hml := hi.hr.dom m c hm
          rw [hle.blk m hml]
          refine ⟨p1, fun i x hx => ?_⟩
          obtain ⟨u, hu, hv⟩ := p2 i x hx
          rw [hle.at hml]
          have e : w1.cell? (r.at m i) = w.cell? (r.at m i) := World.cell?_of_block (d3 _ (by show r.blk m ≠ _; omega))
          exact ⟨u, by rw [e]; exact hu, VS.mono hle hv⟩
    · have key : ∀ m c, Heap.get ⟨(h.next, ⟨cs, true⟩) :: Hp.del h.m l, h.next + 1⟩ m = some c → c.own = true → (m = h.next ∧ (r.new h.next (r.blk l) (r.cap l)).blk m = r.blk l) ∨ (m ≠ h.next ∧ m ≠ l ∧ h.get m = some c ∧ (r.new h.next (r.blk l) (r.cap l)).blk m = r.blk m) := fun m c hm hc => by
        rw [Heap.del_alloc_get] at hm
        split at hm
        · rename_i e; exact .inl ⟨e, by rw [e, hnb]⟩
        · rename_i e
          split at hm
          · cases hm
          · rename_i e'
            exact .inr ⟨e, e', hm, hle.blk m (hi.hr.dom m c hm)⟩
      rcases key m c e1 o1 with ⟨a1, a2⟩ | ⟨a1, a2, a3, a4⟩ <;> rcases key m' c' e2 o2 with ⟨b1, b2⟩ | ⟨b1, b2, b3, b4⟩
      · omega
      · rw [a2, b4] at e
        exact absurd (hi.hr.inj m' c' l b b3 o2 hb' ho e.symm) b2
      · rw [a4, b2] at e
        exact absurd (hi.hr.inj m c l b a3 o1 hb' ho e) a2
      · rw [a4, b4] at e
        exact hi.hr.inj m c m' c' a3 o1 b3 o2 e
  · refine ⟨hle, Nat.le_succ _, fun l hl => by
        rcases hl with hl | hl
        · exact .inl hl
        · exact .inr (Nat.le_of_eq hl.symm), d4, d5, d6, by omega, fun m _ hno => d3 m (fun e => hno l b hb' ho hfl e.symm), fun m hm hmf => ?_, fun m c hm hc => ?_, fun m c hm hc => ?_⟩
    · rw [Heap.del_alloc_get, if_neg (by omega), if_neg (by omega)]
    · rw [Heap.del_alloc_get, if_neg (by omega)] at hc
      split at hc
      · cases hc
      · exact ⟨c, hc, rfl⟩
    · rw [Heap.del_alloc_get] at hc
      split at hc
      · rename_i e; subst e; cases hc
        exact ⟨rfl, .inr ⟨l, b, hb', ho, hfl, hnb⟩⟩
      · split at hc
        · cases hc
        · have := hi.n m (hi.hr.dom m c hc); omega
/-- the row goes into a new block -/
theorem Inv.moved (hi : Inv h r B w) {l : Nat} {b : Blk} (hb' : h.get l = some b) (hfl : fl ≤ l) {cs : List S} {r' : Ren} (p1 : Inv (h.alloc cs) r' B w1) (p3 : Adv fl h r w (h.alloc cs) r' w1) :
    Inv ⟨(h.next, ⟨cs, true⟩) :: Hp.del h.m l, h.next + 1⟩ r' B w1 ∧ Adv fl h r w ⟨(h.next, ⟨cs, true⟩) :: Hp.del h.m l, h.next + 1⟩ r' w1 := by
  constructor
  · refine ⟨p1.n, p1.b, p1.hr.sub fun m c hm => ?_⟩
    rw [Heap.del_alloc_get] at hm
    rw [Heap.get_alloc]
    split at hm
    · rename_i e; rw [if_pos e]; exact hm
    · rename_i e
      split at hm
      · cases hm
      · rw [if_neg e]; exact hm
  · have hdl := hi.n l (hi.hr.dom l b hb')
    refine ⟨p3.le, p3.nn, p3.okn, p3.os, p3.tape, p3.output, p3.size, p3.frame, fun m hm hmf => ?_, fun m c hm hc => ?_, fun m c hm hc => ?_⟩
    · rw [Heap.del_alloc_get, if_neg (by omega), if_neg (by omega)]
    · rw [Heap.del_alloc_get, if_neg (by omega)] at hc
      split at hc
      · cases hc
      · exact ⟨c, hc, rfl⟩
    · rw [Heap.del_alloc_get] at hc
      split at hc
      · rename_i e
        exact p3.fresh m c hm (by rw [Heap.get_alloc, if_pos e]; exact hc)
      · split at hc
        · cases hc
        · have := hi.n m (hi.hr.dom m c hc); omega
end
/-- what slices.Insert of m > 0 one-cell elements at i < n does: in place, or in a new row -/
structure InsOk (P : Program) (F : FuncId) (e : TypeId) (z : Value) : Prop where
  call : Callable P F
  z1 : z.cells.size = 1
  shift : ∀ (b n c i vb voff m vc : Nat) (cs vs : List Value) (w : World), i < n → 0 < m → n + m ≤ c → c ≤ 9223372036854775807 → vb ≠ b → cs.length = n → vs.length = m →
    (∀ j v, cs[j]? = some v → w.cell? ⟨b, 0 + j, none⟩ = some v) → (∀ j, j < n + m → (w.cell? ⟨b, 0 + j, none⟩).isSome = true) → (∀ j, j < n + m → w.frozen? ⟨b, 0 + j, none⟩ = false) →
    (∀ j v, vs[j]? = some v → w.cell? ⟨vb, voff + j, none⟩ = some v) → (∀ v ∈ cs, v.oneCell' = true) → (∀ v ∈ vs, v.oneCell' = true) →
    ∀ (tA tB : TypeId) (kA kB : Nat), w.shape? vb = some (tA, kA) → w.shape? b = some (tB, kB) → kB ≠ 0 → w.frozen? ⟨vb, voff, none⟩ = false → w.frozen? ⟨vb, kA, none⟩ = false →
    Calls P F #[.slice (some ⟨b, 0, none⟩) n c, .int .i64 i, .slice (some ⟨vb, voff, none⟩) m vc] w fun en w' =>
      en = .returned (.slice (some ⟨b, 0, none⟩) (n + m) c) ∧ w' = (w.drew.setCells b (0 + (i + m)) (cs.drop i)).setCells b (0 + i) vs
  grow : ∀ (b n c i vb voff m vc : Nat) (cs vs : List Value) (w : World), i < n → 0 < m → n ≤ c → c < n + m → (n + m) * 8 ≤ 140737488355328 → cs.length = n → vs.length = m →
    (∀ j v, cs[j]? = some v → w.cell? ⟨b, 0 + j, none⟩ = some v) → (∀ j v, vs[j]? = some v → w.cell? ⟨vb, voff + j, none⟩ = some v) → (∀ v ∈ cs, v.oneCell' = true) → (∀ v ∈ vs, v.oneCell' = true) →
    Calls P F #[.slice (some ⟨b, 0, none⟩) n c, .int .i64 i, .slice (some ⟨vb, voff, none⟩) m vc] w fun en w' =>
      en = .returned (.slice (some ⟨w.heap.size, 0, none⟩) (n + m) (grownCap w (n + m) c e)) ∧
      w' = (((w.alloc (.cells ((cs.take i).toArray ++ Builtin.zeroCells z.cells (n + m - i) ++ Builtin.zeroCells z.cells (grownCap w (n + m) c e - (n + m))) e)).drew.setCells w.heap.size i vs).drew).setCells w.heap.size (i + m) (cs.drop i)
noncomputable def insG (args : List A) (h : Heap) (fl : Nat) : R := match args with
  | [.s (.sl l o n z none), .s (.int .i64 i), .s (.sl k p m q _)] =>
    bif z == 1 && q == 1 && o == 0 && Nat.ble fl l && decide (0 ≤ i) && Nat.blt i.toNat n && Nat.blt 0 m && !(k == l) && Nat.ble n 1000 && Nat.ble m 1000 then
      ob (h.get l) fun b => ob (h.get k) fun b' => bif b.own && b'.own && Nat.ble n b.cells.length then
        ob (h.read k p m) fun vs => some (.a (.s (.sl h.next 0 (n + m) 1 none)), ⟨(h.next, ⟨(b.cells.take n).take i.toNat ++ (vs ++ (b.cells.take n).drop i.toNat), true⟩) :: Hp.del h.m l, h.next + 1⟩) else none else none
  | _ => none
noncomputable def insO (F : FuncId) : Oracle := fun f args h fl => bif f == F then insG args h fl else none
theorem all2_append {α β : Type} {R : α → β → Prop} {xs xs' : List α} {ys ys' : List β} (h : All2 R xs ys) (k : All2 R xs' ys') : All2 R (xs ++ xs') (ys ++ ys') := h.app k
theorem shape_of {w : World} {b : Nat} {C : Array Value} {T : TypeId} {fz : Nat × Nat} (h : w.heap[b]? = some (.cells C T fz)) : w.shape? b = some (T, C.size) := by simp [World.shape?, h]
theorem frozen_of {w : World} {b i : Nat} {C : Array Value} {T : TypeId} {fz : Nat × Nat} (h : w.heap[b]? = some (.cells C T fz)) (k : (fz.1 ≤ i && i < fz.2) = false) : w.frozen? ⟨b, i, none⟩ = false := by
  simp only [World.frozen?, h]
  exact k
theorem cell_of {w : World} {b i : Nat} {C : Array Value} {T : TypeId} {fz : Nat × Nat} (h : w.heap[b]? = some (.cells C T fz)) : w.cell? ⟨b, i, none⟩ = C[i]? := by simp [World.cell?, h]
set_option maxHeartbeats 1000000 in
theorem sound_ins {P : Program} {F : FuncId} {e : TypeId} {zv : Value} (K : InsOk P F e zv) : Sound P (insO F) := by
  intro f args h fl v h' eq
  unfold insO at eq
  cases hf : (f == F) <;> rw [hf] at eq <;> simp only [cond_true, cond_false] at eq
  · cases eq
  obtain rfl : f = F := by simpa using hf
  refine ⟨K.call, fun r B w vs hi ha => ?_⟩
  unfold insG at eq
  split at eq
  · rename_i l o n z i k p m q c
    cases hc : (z == 1 && q == 1 && o == 0 && Nat.ble fl l && decide (0 ≤ i) && Nat.blt i.toNat n && Nat.blt 0 m && !(k == l) && Nat.ble n 1000 && Nat.ble m 1000) <;> rw [hc] at eq <;> simp only [cond_true, cond_false] at eq
    · cases eq
    simp only [Bool.and_eq_true, beq_iff_eq, Bool.not_eq_true', beq_eq_false_iff_ne, decide_eq_true_eq] at hc
    obtain ⟨⟨⟨⟨⟨⟨⟨⟨⟨rfl, rfl⟩, rfl⟩, hfl⟩, hi0⟩, hin⟩, hm⟩, hkl⟩, hn1⟩, hm1⟩ := hc
    have hfl := Nat.le_of_ble_eq_true hfl
    have hin : i.toNat < n := by rwa [Nat.blt_eq] at hin
    have hm : 0 < m := by rwa [Nat.blt_eq] at hm
    have hn1 := Nat.le_of_ble_eq_true hn1
    have hm1 := Nat.le_of_ble_eq_true hm1
    obtain ⟨b, hb, eq⟩ := ob_some eq
    obtain ⟨b', hb', eq⟩ := ob_some eq
    cases hc : (b.own && b'.own && Nat.ble n b.cells.length) <;> rw [hc] at eq <;> simp only [cond_true, cond_false] at eq
    · cases eq
    simp only [Bool.and_eq_true] at hc
    obtain ⟨⟨ho, ho'⟩, hlen0⟩ := hc
    have hlen : (b.cells.take n).length = n := by rw [List.length_take]; have := Nat.le_of_ble_eq_true hlen0; omega
    obtain ⟨vs', hvs, eq⟩ := ob_some eq
    cases eq
    match vs, ha with
    | [u1, u2, u3], ⟨a1, a2, a3, _⟩ =>
      have a1' : VS r (.sl l 0 n 1 none) u1 := a1
      obtain ⟨cc, rfl, hl, _, hncc, hcc⟩ := sl_val a1'
      have hcc : cc = r.cap l := by rcases hcc with h | ⟨_, h⟩; · cases h
                                    · simpa using h
      have hccm : cc ≤ maxLen := by have := a1'.2.1.2; rw [hcc]; simpa using this
      obtain rfl : u2 = .int .i64 i := a2
      obtain ⟨vc, rfl, hk, _, hmvc, _⟩ := sl_val (show VS r (.sl k p m 1 c) u3 from a3)
      obtain ⟨us, g1, g2, g3⟩ := read_ok hi hvs
      obtain ⟨q1, q2, C, T, fz, q3, q4, q5, q6⟩ := hi.hr.own l b hb ho
      obtain ⟨p1, p2, C', T', fz', p3, p4, p5, p6⟩ := hi.hr.own k b' hb' ho'
      have hcs : All2 (VS r) (b.cells.take n) (C.toList.take n) := by
        refine all2_by_nth (by rw [hlen, List.length_take, Array.length_toList]; omega) fun j x y hx hy => ?_
        obtain ⟨u, hu1, hu2⟩ := q6 j x (by rw [nth_eq]; rw [List.getElem?_take] at hx; split at hx <;> first | exact hx | cases hx)
        rw [List.getElem?_take] at hy
        split at hy
        · rw [Array.getElem?_toList, hu1] at hy
          cases hy
          exact hu2
        · cases hy
      have hcl : (C.toList.take n).length = n := by have := hcs.len; omega
      have hat : ∀ j, r.at l j = ⟨r.blk l, j, none⟩ := fun j => by simp [Ren.at, q2]
      have hat' : ∀ j, r.at k j = ⟨r.blk k, j, none⟩ := fun j => by simp [Ren.at, p2]
      have hcells : ∀ j v, (C.toList.take n)[j]? = some v → w.cell? ⟨r.blk l, 0 + j, none⟩ = some v := fun j v hj => by
        rw [cell_of q3, Nat.zero_add]
        rw [List.getElem?_take] at hj
        split at hj
        · rw [← Array.getElem?_toList]; exact hj
        · cases hj
      have hvcells : ∀ j v, us[j]? = some v → w.cell? ⟨r.blk k, p + j, none⟩ = some v := fun j v hj => by
        rw [← hat']; exact g3 j v hj
      have h1c : ∀ v ∈ C.toList.take n, v.oneCell' = true := all_one hcs
      have h1v : ∀ v ∈ us, v.oneCell' = true := all_one g1
      have hi2 : ((i.toNat : Nat) : Int) = i := by omega
      have hsz : C'.size = r.cap k := p4
      have hp : p < C'.size := by
        have hu : us[0]? = some (us[0]'(by omega)) := List.getElem?_eq_getElem _
        have := hvcells 0 _ hu
        rw [cell_of p3] at this
        have := (Array.getElem?_eq_some_iff.1 this).1
        omega
      have ht : (C.toList.take n).take i.toNat = C.toList.take i.toNat := by rw [List.take_take]; congr 1; omega
      have hall : All2 (VS r) ((b.cells.take n).take i.toNat ++ (vs' ++ (b.cells.take n).drop i.toNat)) ((C.toList.take n).take i.toNat ++ (us ++ (C.toList.take n).drop i.toNat)) := (hcs.take _).app (g1.app (hcs.drop _))
      by_cases hroom : n + m ≤ cc
      · have hcall := K.shift (r.blk l) n cc i.toNat (r.blk k) p m vc (C.toList.take n) us w hin hm hroom (by simp only [maxLen] at hccm; omega) (fun e => hkl (hi.hr.inj k b' l b hb' ho' hb ho e)) hcl g2 hcells
          (fun j hj => by rw [cell_of q3, Nat.zero_add]; simp; omega) (fun j hj => frozen_of q3 (q5 _ (by omega))) hvcells h1c h1v T' T C'.size C.size (shape_of p3) (shape_of q3) (by omega) (frozen_of p3 (p5 _ (by omega))) (frozen_of p3 (p5 _ (by omega)))
        rw [hi2] at hcall
        rw [hat 0, hat' p]
        refine hcall.mono fun en w' ⟨e1, e2⟩ => ⟨_, e1, ?_⟩
        subst e2
        have q3' : w.drew.heap[r.blk l]? = some (.cells C T fz) := q3
        have hd1 : ((C.toList.take n).drop i.toNat).length = n - i.toNat := by rw [List.length_drop, hcl]
        obtain ⟨D1, s1, s2, s3, s4, s5, s6, s7⟩ := setCells_at ((C.toList.take n).drop i.toNat) (0 + (i.toNat + m)) C w.drew q3' (by rw [hd1]; omega)
        have hD1 : D1.size = C.size := by
          have := congrArg List.length s2
          simp only [Array.length_toList, List.length_append, List.length_take, List.length_drop] at this
          omega
        obtain ⟨D2, t1, t2, t3, t4, t5, t6, t7⟩ := setCells_at us (0 + i.toNat) D1 _ s1 (by omega)
        have hD2 : D2.size = C.size := by
          have := congrArg List.length t2
          simp only [Array.length_toList, List.length_append, List.length_take, List.length_drop] at this
          omega
        obtain ⟨n1, n2⟩ := hi.rename (fl := fl) (cs := (b.cells.take n).take i.toNat ++ (vs' ++ (b.cells.take n).drop i.toNat)) hb ho hfl t1 (by omega) (fun j hj => q5 j (by omega)) (fun k hk => (t3 k hk).trans (s3 k hk)) (t4.trans s4) (t5.trans s5) (t6.trans s6) (t7.trans s7) (fun j x hx => by
          obtain ⟨u, hu1, hu2⟩ := All2.nth hall hx
          refine ⟨u, ?_, hu2⟩
          have hj := (List.getElem?_eq_some_iff.1 hu1).1
          simp only [List.length_append, List.length_take, List.length_drop, Array.length_toList] at hj
          rw [← Array.getElem?_toList, t2, Nat.zero_add]
          rw [← hu1, ht, s2]
          simp only [Nat.zero_add]
          rw [List.take_append_of_le_length (by simp; omega), List.take_take, Nat.min_eq_left (by omega)]
          rw [List.drop_append, List.drop_eq_nil_of_le (by simp; omega), List.nil_append]
          have e3 : i.toNat + us.length - (List.take (i.toNat + m) C.toList).length = 0 := by simp; omega
          rw [e3, List.drop_zero]
          rw [← List.append_assoc, ← List.append_assoc, ← List.append_assoc]
          rw [List.getElem?_append_left (by simp only [List.length_append, List.length_take, List.length_drop, Array.length_toList]; omega)])
        refine ⟨_, n1, ?_, n2⟩
        have hcapn : (r.new h.next (r.blk l) (r.cap l)).cap h.next = r.cap l := by simp [Ren.new]
        have hatn : (r.new h.next (r.blk l) (r.cap l)).at h.next 0 = ⟨r.blk l, 0, none⟩ := by simp [Ren.at, Ren.new]
        refine ⟨.inr rfl, ⟨by omega, by rw [hcapn]; simpa [← hcc] using hccm⟩, ?_, ?_⟩
        · rw [hcapn]; simpa [← hcc] using hroom
        · rw [hcapn, hatn]; simp [← hcc]
      · have hcall := K.grow (r.blk l) n cc i.toNat (r.blk k) p m vc (C.toList.take n) us w hin hm hncc (by omega) (by omega) hcl g2 hcells hvcells h1c h1v
        rw [hi2] at hcall
        rw [hat 0, hat' p]
        refine hcall.mono fun en w' ⟨e1, e2⟩ => ⟨_, e1, ?_⟩
        subst e2
        have hge := grownCap_ge w (n + m) cc e
        have hgm := grownCap_le_maxLen w (n + m) cc e (by simp only [maxLen]; omega)
        generalize grownCap w (n + m) cc e = G at *
        let Z : Array Value := (((C.toList.take n).take i.toNat).toArray ++ Builtin.zeroCells zv.cells (n + m - i.toNat) ++ Builtin.zeroCells zv.cells (G - (n + m)))
        have hZ : Z.size = G := by
          simp only [Z, Array.size_append, List.size_toArray, zeroCells_size, K.z1, List.length_take, Array.length_toList]
          omega
        have a0 : ((w.alloc (.cells Z e)).drew).heap[w.heap.size]? = some (.cells Z e (0, 0)) := heap_alloc_new w _
        obtain ⟨D1, s1, s2, s3, s4, s5, s6, s7⟩ := setCells_at us i.toNat Z _ a0 (by omega)
        have hD1 : D1.size = Z.size := by
          have := congrArg List.length s2
          simp only [Array.length_toList, List.length_append, List.length_take, List.length_drop] at this
          omega
        have hd1 : ((C.toList.take n).drop i.toNat).length = n - i.toNat := by rw [List.length_drop, hcl]
        obtain ⟨D2, t1, t2, t3, t4, t5, t6, t7⟩ := setCells_at ((C.toList.take n).drop i.toNat) (i.toNat + m) D1 (((w.alloc (.cells Z e)).drew.setCells w.heap.size i.toNat us).drew) s1 (by omega)
        have hD2 : D2.size = Z.size := by
          have := congrArg List.length t2
          simp only [Array.length_toList, List.length_append, List.length_take, List.length_drop] at this
          omega
        have hold : ∀ k, k < w.heap.size → (((w.alloc (.cells Z e)).drew.setCells w.heap.size i.toNat us).drew.setCells w.heap.size (i.toNat + m) ((C.toList.take n).drop i.toNat)).heap[k]? = w.heap[k]? := fun k hk =>
          (t3 k (by omega)).trans ((s3 k (by omega)).trans (heap_alloc_old w _ hk))
        obtain ⟨n1, n2⟩ := hi.newAt (fl := fl) (w1 := ((w.alloc (.cells Z e)).drew.setCells w.heap.size i.toNat us).drew.setCells w.heap.size (i.toNat + m) ((C.toList.take n).drop i.toNat)) (cs := (b.cells.take n).take i.toNat ++ (vs' ++ (b.cells.take n).drop i.toNat)) (g := w.heap.size) (Nat.le_refl _) (t4.trans s4) (t5.trans s5) (t6.trans s6) hold t1 (fun j _ => by simp) (fun j x hx => by
          obtain ⟨u, hu1, hu2⟩ := All2.nth hall hx
          refine ⟨u, ?_, hu2⟩
          have hj := (List.getElem?_eq_some_iff.1 hu1).1
          have htl : ((C.toList.take n).take i.toNat).length = i.toNat := by rw [List.length_take, hcl]; omega
          simp only [List.length_append, htl, hd1] at hj
          rw [← Array.getElem?_toList, t2]
          have e2 : D1.toList.take (i.toNat + m) = (C.toList.take n).take i.toNat ++ us := by
            rw [s2, ← List.append_assoc]
            have e4 : Z.toList.take i.toNat = (C.toList.take n).take i.toNat := by
              simp only [Z, Array.toList_append, List.append_assoc]
              rw [List.take_append_of_le_length (by simp only [htl]; omega), List.take_of_length_le (by simp only [htl]; omega)]
            rw [e4, List.take_append_of_le_length (by rw [List.length_append, htl]; omega), List.take_of_length_le (by rw [List.length_append, htl]; omega)]
          rw [e2, ← hu1, ← List.append_assoc, ← List.append_assoc]
          rw [List.getElem?_append_left (by simp only [List.length_append, htl, hd1]; omega)])
        obtain ⟨n3, n4⟩ := hi.moved hb hfl n1 n2
        refine ⟨_, n3, ?_, n4⟩
        rw [hD2, hZ]
        have := sl_new' r h.next w.heap.size (n + m) 1 G (by omega) hge hgm
        rwa [Nat.mul_one] at this
  · cases eq
end Go.Proofs.YtaamdiknefodgaaDoor.Am
