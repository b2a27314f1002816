/- A jump whose list lies in memory that is known, element by element; copies of the list. -/
import Derived.Test.YtaamdiknefodgaaDoorTargJ
namespace Go.Proofs.YtaamdiknefodgaaDoor.Am
open Go.RowKit Go.ChangeShapes Go.WideShapes Go.Deep
set_option maxRecDepth 100000
set_option maxHeartbeats 1000000
set_option linter.unusedVariables false
set_option linter.unusedSectionVars false
def kindsE (n : Nat) : List Kd := (List.replicate n opK).flatten
/-- the list's cells -/
def elsA (n : Nat) : List S := cellsT 13 (kindsE n)
/-- the arguments' slice: none, an empty one, one of n -/
def slA (z n : Nat) : S := bif Nat.beq z 0 then .nils else bif Nat.beq z 1 then .sle else .sl 0 0 n 5 none
def cellsX (x : S) : List S := cellsT 0 kPre ++ x :: cellsT 10 kPost
def heapA (z n : Nat) : Hp := bif Nat.blt z 2 then [] else [(0, ⟨elsA n, false⟩)]
/-- the copy's slice; its block is the last one -/
def slB (z n : Nat) : S := bif Nat.blt z 2 then .sl 3 0 0 5 (some 0) else .sl 4 0 n 5 none
noncomputable def holdsX (h : Heap) (l : Nat) (cs : List S) : Bool := Option.rec false (fun b => sameL S.eqb cs b.cells) (Hp.get h.m l)
noncomputable def cell9 (h : Heap) (l : Nat) (x : S) : Bool := Option.rec false (fun b => Option.rec false (fun y => S.eqb x y) (nth b.cells 9)) (Hp.get h.m l)
/-- the jump in block p, its copy in block q; the lists' cells -/
noncomputable def copyOk (z n p q : Nat) (h : Heap) : Bool := cell9 h p (slA z n) && cell9 h q (slB z n) && (Nat.blt z 2 || (holdsX h 0 (elsA n) && holdsX h 4 (elsA n)))
def codesE (els : List (List Value)) : List Int := els.flatten.map codeI
/-- no list, an empty one, one of n -/
def IsZ (z : Nat) (sv : Value) (els : List (List Value)) : Prop := (z = 0 ∧ els = [] ∧ sv = .slice none 0 0) ∨ (z = 1 ∧ els = [] ∧ ∃ a c, sv = .slice (some a) 0 c) ∨ (z = 2 ∧ 0 < els.length)
theorem jump_nil {H : Type} {enc : TypeId × Value → H} {w : World} {spare : Nat → Bool} {held : Bool} {v : Value} {fuel : Nat} {x : DataW H × List MemPlace} (h : DataW.trod enc Tryd.prog w 0 spare held fuel 30 v.cells.toList = some x)
    {pre : List Value} {sv : Value} {post : List Value} {els : List (List Value)} (hj : JumpIs w v pre sv post els) : ∃ z, IsZ z sv els := by
  have hat := leaf_trod 5 0 _ _ _ _ h
  have hleaf : leafT Tryd.prog 5 0 30 = [(0, 5), (1, 5), (2, 2), (3, 3), (4, 4), (5, 5), (6, 3), (7, 3), (8, 3), (9, 27), (10, 3), (11, 4), (12, 5)] := by kernel_rfl
  rw [hleaf] at hat
  obtain ⟨_, v', y, m, k1, _, k2⟩ := hat (9, 27) (by simp)
  have hc : v.cells.toList = pre ++ sv :: post := by rw [hj.v]; rfl
  rw [hc, List.getElem?_append_right (by rw [len_pre hj]; exact Nat.le_refl _), len_pre hj] at k1
  have k1 : some sv = some v' := k1
  cases k1
  by_cases he : els = []
  · rcases open_slice (e := 25) Tryd.underlying27 k2 with ⟨e, _⟩ | ⟨a, len, cap, mm, n, D, Pl, e, _⟩
    · cases e
      exact ⟨0, .inl ⟨rfl, he, rfl⟩⟩
    · cases e
      obtain ⟨A, c, e⟩ := hj.ops.sl
      have : len = 0 := by
        rw [he] at e
        injection e
      subst this
      exact ⟨1, .inr (.inl ⟨rfl, he, a, cap, rfl⟩)⟩
  · exact ⟨2, .inr (.inr ⟨rfl, List.length_pos_iff.2 he⟩)⟩
theorem kinds_flat : ∀ {l : List (List Value)}, (∀ x ∈ l, All2 Kd.ok opK x) → All2 Kd.ok (kindsE l.length) l.flatten
  | [], _ => trivial
  | x :: l, h => by
    show All2 Kd.ok ((opK :: List.replicate l.length opK).flatten) ((x :: l).flatten)
    rw [List.flatten_cons, List.flatten_cons]
    exact All2.app (h x (List.mem_cons_self ..)) (kinds_flat fun y hy => h y (List.mem_cons_of_mem _ hy))
theorem desc_T' (b : Base) : ∀ {ks : List Kd} {us : List Value} {o : Nat}, (ks.all fun k => match k with | .s => false | _ => true) = true → All2 Kd.ok ks us → (∀ i, i < us.length → b.rho (o + i) = cellI us i) → All2 (fun x v => ∀ r, @VS b r x v) (cellsT o ks) us
  | [], [], _, _, _, _ => trivial
  | k :: ks, u :: us, o, hs, hk, hr => by
    simp only [List.all_cons, Bool.and_eq_true] at hs
    have h0 : b.rho o = codeI u := hr 0 (by simp)
    refine ⟨fun r => ?_, desc_T' b (o := o + 1) hs.2 hk.2 fun i hi => ?_⟩
    · cases k with
      | s => exact absurd hs.1 (by decide)
      | b =>
        obtain ⟨p, rfl⟩ := hk.1
        show _ = Value.bool ([((o : Nat), (1 : Int))].any fun p => decide (b.rho p.1 = p.2))
        simp only [List.any_cons, List.any_nil, Bool.or_false]
        rw [h0]
        cases p <;> rfl
      | i kd =>
        obtain ⟨n, rfl, _⟩ := hk.1
        exact congrArg (Value.int kd) h0.symm
    · have := hr (i + 1) (by simpa using hi)
      rw [show o + 1 + i = o + (i + 1) by omega, this]
      rfl
  | [], _ :: _, _, _, h, _ => h.elim
  | _ :: _, [], _, _, h, _ => h.elim
theorem kindsE_s (n : Nat) : ((kindsE n).all fun k => match k with | .s => false | _ => true) = true := by
  unfold kindsE
  induction n with
  | zero => rfl
  | succ n ih => rw [List.replicate_succ, List.flatten_cons, List.all_append, ih]; rfl
theorem flat_get : ∀ {l : List (List Value)}, (∀ x ∈ l, x.length = 5) → ∀ {k : Nat} {u : Value}, l.flatten[k]? = some u → ∃ el, l[k / 5]? = some el ∧ el[k % 5]? = some u
  | [], _, k, u, h => by simp at h
  | x :: l, hl, k, u, h => by
    have hx := hl x (List.mem_cons_self ..)
    rw [List.flatten_cons] at h
    by_cases hk : k < 5
    · rw [List.getElem?_append_left (by omega)] at h
      exact ⟨x, by rw [Nat.div_eq_of_lt hk]; rfl, by rw [Nat.mod_eq_of_lt hk]; exact h⟩
    · rw [List.getElem?_append_right (by omega), hx] at h
      obtain ⟨el, h1, h2⟩ := flat_get (fun y hy => hl y (List.mem_cons_of_mem _ hy)) h
      refine ⟨el, ?_, ?_⟩
      · rw [show k / 5 = (k - 5) / 5 + 1 by omega]
        exact h1
      · rw [show k % 5 = (k - 5) % 5 by omega]
        exact h2
theorem flat_at' : ∀ {l : List (List Value)}, (∀ x ∈ l, x.length = 5) → ∀ {i f : Nat} {el : List Value}, l[i]? = some el → f < 5 → l.flatten[5 * i + f]? = el[f]?
  | [], _, i, f, el, h, _ => by simp at h
  | x :: l, hl, 0, f, el, h, hf => by
    simp only [List.getElem?_cons_zero, Option.some.injEq] at h
    subst h
    rw [List.flatten_cons, List.getElem?_append_left (by rw [hl x (List.mem_cons_self ..)]; omega)]
    congr 1
    omega
  | x :: l, hl, i + 1, f, el, h, hf => by
    simp only [List.getElem?_cons_succ] at h
    have hx := hl x (List.mem_cons_self ..)
    rw [List.flatten_cons, List.getElem?_append_right (by omega), hx, show 5 * (i + 1) + f - 5 = 5 * i + f by omega]
    exact flat_at' (fun y hy => hl y (List.mem_cons_of_mem _ hy)) h hf
theorem el_len' {w : World} {v : Value} {pre : List Value} {sv : Value} {post : List Value} {els : List (List Value)} (hj : JumpIs w v pre sv post els) {i : Nat} {el : List Value} (h : els[i]? = some el) : el.length = 5 := by have := (hj.ops.kd i el h).len; simp [opK] at this; omega
section
variable {w : World} {v : Value} {pre : List Value} {sv : Value} {post : List Value} {els : List (List Value)} (hj : JumpIs w v pre sv post els)
include hj
theorem kd_all : ∀ x ∈ els, All2 Kd.ok opK x := fun x hx => by
  obtain ⟨k, hk⟩ := List.getElem?_of_mem hx
  exact hj.ops.kd k x hk
theorem len_all : ∀ x ∈ els, x.length = 5 := fun x hx => by have := (kd_all hj x hx).len; simp [opK] at this; omega
theorem elsA_ok : All2 (fun x v => ∀ r, @VS (baseJ hj (codesE els)) r x v) (elsA els.length) els.flatten := by
  refine desc_T' (baseJ hj (codesE els)) (kindsE_s _) (kinds_flat (kd_all hj)) fun i hi => rhoJ hj _ ?_
  unfold codesE cellI
  rw [List.getElem?_map, List.getElem?_eq_getElem hi]
  rfl
theorem cell_flat {b off c : Nat} (hs : sv = .slice (some ⟨b, off, none⟩) els.length c) {k : Nat} {u : Value} (h : els.flatten[k]? = some u) : w.cell? ⟨b, off + k, none⟩ = some u := by
  obtain ⟨el, h1, h2⟩ := flat_get (len_all hj) h
  obtain ⟨b', off', c', e1, e2⟩ := hj.ops.at_ _ el h1
  rw [hs] at e1
  injection e1 with e1
  injection e1 with e1
  injection e1 with e3 e4
  subst e3; subst e4
  have := e2 (k % 5) u h2
  rw [show off + k / 5 * 5 + k % 5 = off + k by omega] at this
  exact this
/-- the first state: the list in a block of its own that nobody writes -/
theorem start_rel {z : Nat} (hz : IsZ z sv els) (m : Nat) : ∃ R1, @Rel (baseJ hj (codesE els)) ⟨[V.a (.g (cellsX (slA z els.length)))] ++ List.replicate m Am.undef, ⟨heapA z els.length, 1⟩⟩ R1 w.heap.size { tmps := #[v] ++ Array.replicate m Go.undef, defers := [] } w := by
  letI : Base := baseJ hj (codesE els)
  have hlenP := len_pre hj
  have hv : ∀ R1, VS R1 (slA z els.length) sv → VA R1 (.g (cellsX (slA z els.length))) v := fun R1 hsv => by
    refine ⟨pre ++ sv :: post, hj.v, ?_⟩
    refine All2.app ?_ ⟨hsv, ?_⟩
    · exact cellsT_ok (pre := []) (us := pre) (post := Value.int .i64 els.length :: post ++ (codesE els).map (Value.int .i64)) rfl rfl (by simp [behind, flatJ]) hj.pre
    · have := cellsT_ok (r := R1) (cs := behind (flatJ pre els post) [] (codesE els)) (pre := pre ++ [Value.int .i64 els.length]) (us := post) (post := (codesE els).map (Value.int .i64)) rfl rfl (by simp [behind, flatJ]) hj.post
      rw [List.length_append, hlenP] at this
      exact this
  have hfr : ∀ R1, VS R1 (slA z els.length) sv → All2 (VV R1) ([V.a (.g (cellsX (slA z els.length)))] ++ List.replicate m Am.undef) (#[v] ++ Array.replicate m Go.undef).toList := fun R1 hsv => by
    rw [Array.toList_append, Array.toList_replicate]
    exact All2.app ⟨hv R1 hsv, trivial⟩ (replicate_all2 VS.undef m)
  have emp : ∀ {z : Nat} (hz : Nat.blt z 2 = true), VS ⟨fun _ => False, fun _ => 0, fun _ => 0, fun _ => 0⟩ (slA z els.length) sv → heapA z els.length = [] → ∃ R1, Inv ⟨heapA z els.length, 1⟩ R1 w.heap.size w ∧ VS R1 (slA z els.length) sv := fun {z} hz h1 h2 => by
    rw [h2]
    exact ⟨⟨fun _ => False, fun _ => 0, fun _ => 0, fun _ => 0⟩, ⟨fun l h => False.elim h, Nat.le_refl _, ⟨fun l b h => (by cases h), fun l b h => (by cases h), fun l b h => (by cases h), fun l b l' b' h => (by cases h), Nat.le_refl _, fun _ _ => rfl⟩⟩, h1⟩
  have key : ∃ R1, Inv ⟨heapA z els.length, 1⟩ R1 w.heap.size w ∧ VS R1 (slA z els.length) sv := by
    rcases hz with ⟨rfl, he, e⟩ | ⟨rfl, he, a, c, e⟩ | ⟨rfl, he⟩
    · exact emp rfl e rfl
    · exact emp rfl ⟨a, c, e⟩ rfl
    · have hne : els ≠ [] := List.length_pos_iff.1 he
      have h0 : els[0]? = some (els[0]'he) := List.getElem?_eq_getElem _
      obtain ⟨b, off, c, e, hcell⟩ := hj.ops.at_ 0 _ h0
      obtain ⟨hc1, hc2⟩ := hj.ops.cap hne _ _ _ e
      have hblk : b < w.heap.size := by
        have h5 := el_len' hj h0
        have := hcell 0 (els[0][0]'(by omega)) (List.getElem?_eq_getElem _)
        exact World.block_lt_of_cell? w ⟨b, off + 0 * 5 + 0, none⟩ this
      refine ⟨⟨fun l => l = 0, fun _ => b, fun _ => off, fun _ => 5 * c⟩, ⟨fun l h => by have h : l = 0 := h; subst h; exact Nat.lt_succ_self 0, Nat.le_refl _, ⟨fun l k h => ?_, fun l k h ho => ?_, fun l k h ho => ?_, fun l k l' k' h1 o1 h2 o2 _ => ?_, Nat.le_refl _, fun _ _ => rfl⟩⟩, ?_⟩
      · have h : (bif 0 == l then some (⟨elsA els.length, false⟩ : Blk) else none) = some k := h
        cases hb : ((0 : Nat) == l) <;> rw [hb] at h <;> cases h
        exact (by simpa using hb : 0 = l).symm
      · have h : (bif 0 == l then some (⟨elsA els.length, false⟩ : Blk) else none) = some k := h
        cases hb : ((0 : Nat) == l) <;> rw [hb] at h <;> cases h
        cases ho
      · have h : (bif 0 == l then some (⟨elsA els.length, false⟩ : Blk) else none) = some k := h
        cases hb : ((0 : Nat) == l) <;> rw [hb] at h <;> cases h
        refine ⟨hblk, fun i x hx => ?_⟩
        obtain ⟨u, hu, hxu⟩ := All2.nth (elsA_ok hj) hx
        exact ⟨u, cell_flat hj e hu, hxu _⟩
      · have h1 : (bif 0 == l then some (⟨elsA els.length, false⟩ : Blk) else none) = some k := h1
        cases hb : ((0 : Nat) == l) <;> rw [hb] at h1 <;> cases h1
        cases o1
      · show VS _ (.sl 0 0 els.length 5 none) sv
        have hq : (5 * c - 0) / 5 = c := by omega
        exact ⟨rfl, ⟨by decide, by show (5 * c - 0) / 5 ≤ maxLen; rw [hq]; exact hc2⟩, by show els.length ≤ (5 * c - 0) / 5; rw [hq]; exact hc1, by rw [e]; show _ = Value.slice (some ⟨b, off + 0, none⟩) els.length ((5 * c - 0) / 5); rw [hq]; rfl⟩
  obtain ⟨R1, hi, hsv⟩ := key
  exact ⟨R1, hfr R1 hsv, hi⟩
/-- a slice whose block's cells are the list's -/
theorem ops_sl {b : Base} {h : Heap} {r : Ren} {B : Nat} {w1 : World} (hi : @Inv b h r B w1) {l : Nat} {blk : Blk} (hb : h.get l = some blk) {cs : List S} (hcs : blk.cells = cs) (hd : All2 (fun x v => ∀ r, @VS b r x v) cs els.flatten) (h1 : cs.all S.one = true) {u : Value} (hu : @VS b r (.sl l 0 els.length 5 none) u) : Ops w1 u els := by
  obtain ⟨hok, ⟨_, hmx⟩, hn, rfl⟩ := hu
  subst hcs
  refine ⟨⟨_, _, rfl⟩, ?_, fun i el he => ⟨r.blk l, r.off l + 0, _, rfl, fun f u hf => ?_⟩, hj.ops.kd, fun _ A n c e => by cases e; exact ⟨hn, hmx⟩⟩
  · have : maxLen ≤ 9223372036854775807 := by decide
    omega
  · have hf5 : f < 5 := by have := el_len' hj he; have := (List.getElem?_eq_some_iff.1 hf).1; omega
    have hk := flat_at' (len_all hj) he hf5
    rw [hf] at hk
    have hlt := (List.getElem?_eq_some_iff.1 hk).1
    have hl := hd.len
    have hx : nth blk.cells (5 * i + f) = some (blk.cells[5 * i + f]'(by omega)) := by rw [nth_eq]; exact List.getElem?_eq_getElem _
    obtain ⟨u', hu', hv'⟩ := @HR.cell b _ _ _ _ hi.hr _ _ hb _ _ hx
    obtain ⟨u2, hu2, hv2⟩ := All2.nth hd hx
    rw [hk] at hu2
    cases hu2
    have hone := List.all_eq_true.1 h1 _ (List.getElem_mem (by omega : 5 * i + f < blk.cells.length))
    have : u' = u := @VS.one_same b _ _ _ hone _ _ hv' (hv2 r)
    subst this
    have e : r.at l (5 * i + f) = ⟨r.blk l, r.off l + 0 + i * 5 + f, none⟩ := by
      show (⟨r.blk l, r.off l + (5 * i + f), none⟩ : Addr) = _
      congr 1
      omega
    rw [← e]
    exact hu'
theorem ops_nil {w1 : World} (he : els = []) {u : Value} (hu : ∃ A c, u = .slice A 0 c) : Ops w1 u els := by
  obtain ⟨A, c, rfl⟩ := hu
  subst he
  exact ⟨⟨A, c, rfl⟩, by decide, fun i el h => by simp at h, fun i el h => by simp at h, fun h => absurd rfl h⟩
theorem holds_get {h : Heap} {l : Nat} {cs : List S} (k : holdsX h l cs = true) : ∃ b, h.get l = some b ∧ b.cells = cs := by
  unfold holdsX at k
  cases hb : Hp.get h.m l with
  | none => rw [hb] at k; cases k
  | some b =>
    rw [hb] at k
    exact ⟨b, hb, (sameB (fun _ _ => S.eqb_ok) k).symm⟩
theorem cell9_get {h : Heap} {l : Nat} {x : S} (k : cell9 h l x = true) : ∃ b, h.get l = some b ∧ nth b.cells 9 = some x := by
  unfold cell9 at k
  cases hb : Hp.get h.m l with
  | none => rw [hb] at k; cases k
  | some b =>
    rw [hb] at k
    cases hy : nth b.cells 9 with
    | none => simp only [hy] at k; cases k
    | some y =>
      simp only [hy] at k
      exact ⟨b, hb, by rw [hy, S.eqb_ok k]⟩
theorem elsA_one (n : Nat) : (elsA n).all S.one = true := by
  unfold elsA kindsE
  have key : ∀ (n o : Nat), (cellsT o (List.replicate n opK).flatten).all S.one = true := fun n => by
    induction n with
    | zero => intro o; rfl
    | succ n ih =>
      intro o
      rw [List.replicate_succ, List.flatten_cons]
      show (cellsT o (.i .u8 :: .i .i64 :: .i .i64 :: .b :: .i .u8 :: (List.replicate n opK).flatten)).all S.one = true
      have := ih (o + 1 + 1 + 1 + 1 + 1)
      show (true && (true && (true && (true && (true && (cellsT (o + 1 + 1 + 1 + 1 + 1) (List.replicate n opK).flatten).all S.one))))) = true
      rw [this]
      rfl
  exact key n 13
/-- both slices, and what they hold -/
theorem both_ops {z : Nat} (hz : IsZ z sv els) {p q : Nat} {s1 : St} {r1 : Ren} {B : Nat} {a1 : Act} {w1 : World} (hr : @Rel (baseJ hj (codesE els)) s1 r1 B a1 w1) (hc : copyOk z els.length p q s1.h = true) :
    ∃ u0 u1, (w1.cell? (r1.at p 9) = some u0 ∧ Ops w1 u0 els) ∧ w1.cell? (r1.at q 9) = some u1 ∧ Ops w1 u1 els := by
  letI : Base := baseJ hj (codesE els)
  unfold copyOk at hc
  simp only [Bool.and_eq_true, Bool.or_eq_true] at hc
  obtain ⟨⟨c1, c2⟩, c3⟩ := hc
  obtain ⟨b1, g1, n1⟩ := cell9_get hj c1
  obtain ⟨b2, g2, n2⟩ := cell9_get hj c2
  obtain ⟨u0, k1, v1⟩ := hr.i.hr.cell g1 n1
  obtain ⟨u1, k2, v2⟩ := hr.i.hr.cell g2 n2
  refine ⟨u0, u1, ⟨k1, ?_⟩, k2, ?_⟩
  · rcases hz with ⟨rfl, he, _⟩ | ⟨rfl, he, _⟩ | ⟨rfl, he⟩
    · exact ops_nil hj he ⟨none, 0, v1⟩
    · obtain ⟨a, c, e⟩ : ∃ a c, u0 = .slice (some a) 0 c := v1
      exact ops_nil hj he ⟨some a, c, e⟩
    · have c3 : holdsX s1.h 0 (elsA els.length) = true ∧ holdsX s1.h 4 (elsA els.length) = true := by rcases c3 with h | h; exact absurd h (by decide); exact h
      obtain ⟨bb, hb, hcs⟩ := holds_get hj c3.1
      exact ops_sl hj hr.i hb hcs (elsA_ok hj) (elsA_one hj _) v1
  · rcases hz with ⟨rfl, he, _⟩ | ⟨rfl, he, _⟩ | ⟨rfl, he⟩
    · have v2 : VS r1 (.sl 3 0 0 5 (some 0)) u1 := v2
      exact ops_nil hj he ⟨_, _, v2.2.2.2⟩
    · have v2 : VS r1 (.sl 3 0 0 5 (some 0)) u1 := v2
      exact ops_nil hj he ⟨_, _, v2.2.2.2⟩
    · have c3 : holdsX s1.h 0 (elsA els.length) = true ∧ holdsX s1.h 4 (elsA els.length) = true := by rcases c3 with h | h; exact absurd h (by decide); exact h
      obtain ⟨bb, hb, hcs⟩ := holds_get hj c3.2
      exact ops_sl hj hr.i hb hcs (elsA_ok hj) (elsA_one hj _) v2
/-- the same jump with another slice that holds the same -/
theorem JumpIs.other {w1 : World} {u : Value} (ho : Ops w1 u els) : JumpIs w1 (.agg (pre ++ u :: post).toArray) pre u post els := ⟨rfl, hj.pre, hj.post, ho⟩
end
/-- cells of a block that nobody writes, better known -/
theorem Rel.recell {b : Base} {fr : Fr} {h h' : Heap} {r : Ren} {B : Nat} {a : Act} {w : World} (hr : @Rel b ⟨fr, h⟩ r B a w) (hn : h'.next = h.next)
    (hget : ∀ l k, h'.get l = some k → k.own = false ∧ ∃ k0, h.get l = some k0 ∧ k0.own = false ∧ ∀ i x, nth k.cells i = some x → ∃ u, w.cell? (r.at l i) = some u ∧ @VS b r x u) : @Rel b ⟨fr, h'⟩ r B a w := by
  have P := @Rel.parts b _ _ _ _ _ hr
  refine @Rel.mk b _ _ _ _ _ P.f (@Inv.mk b _ _ _ _ (fun l hl => by show l < h'.next; rw [hn]; exact P.n l hl) P.b (@HR.mk b _ _ _ _ (fun l k hk => ?_) (fun l k hk ho => ?_) (fun l k hk ho => ?_) (fun l k l' k' h1 o1 _ _ _ => ?_) P.nb P.z))
  · obtain ⟨_, k0, h0, _⟩ := hget l k hk
    exact P.dom l k0 h0
  · rw [(hget l k hk).1] at ho; cases ho
  · obtain ⟨_, k0, h0, o0, hc⟩ := hget l k hk
    exact ⟨(P.ro l k0 h0 o0).1, hc⟩
  · rw [(hget l k h1).1] at o1; cases o1
end Go.Proofs.YtaamdiknefodgaaDoor.Am
